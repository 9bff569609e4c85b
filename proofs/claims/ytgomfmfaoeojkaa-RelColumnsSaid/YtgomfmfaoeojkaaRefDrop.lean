/- The document's Drop and Add. -/
import Derived.Test.YtgomfmfaoeojkaaRefPut
import Derived.Deep.RegionLaw
namespace Go.Proofs.Ytgomfmfaoeojkaa
open Go.RowKit

theorem del_take {L : List (List GV)} {t x : List GV} {k : Nat} (h : L[k]? = some x) : delL (L.take (k + 1)) t = if x = t then delL (L.take k) t else delL (L.take k) t ++ [x] := by
  unfold delL
  rw [List.take_add_one, h, Option.toList_some, List.filter_append]
  by_cases hx : x = t <;> simp [hx]
theorem del_len (L : List (List GV)) (t : List GV) : (delL L t).length ≤ L.length := List.length_filter_le _ _

set_option maxRecDepth 100000 in
set_option maxHeartbeats 4000000 in
theorem refDrop_any (ar : Int) (A B : Option Addr) (n c m d : Nat) (L : List (List GV)) (t : List GV) (w : World) (S : List Nat) (hS : ∀ b ∈ S, b < w.heap.size) (hl' : SliceFar (Enc.slice Enc.val) w S A n c L) (ht : SliceIs Enc.val w w.heap.size B m d t) (hn : n ≤ 100000) :
    Calls Try.prog 21 #[.agg #[.int .i64 ar, .slice A n c], .slice B m d] w (RefRel S ar (delL L t) w) := by
  have hl := hl'.is
  have HL := Lib.hid hl
  have HFar := Lib.hid hl'
  have HSS := Lib.hid hS
  have HT := Lib.hid ht
  obtain rfl : L.length = n := hl.1
  obtain rfl : t.length = m := ht.1
  obtain ⟨R, HRR⟩ : ∃ R, Hid (R = delL L t) := ⟨_, rfl⟩
  rw [← HRR.out]
  clear hl ht hl' hS
  go_enter Try.func21, Try.ntmps21
  go_wp2_with fail
  have hb1 : Below w.heap.size w (((w.alloc (.cells #[.int .i64 ar, .slice A L.length c] 47)).alloc (.cells #[.int .i64 0, .slice none 0 0] 47)).alloc (.cells #[.int .i64 ar, .slice none 0 0] 47)) := belowA (belowA (belowA (Below.refl _ _) _) _) _
  have hr0 : (((w.alloc (.cells #[.int .i64 ar, .slice A L.length c] 47)).alloc (.cells #[.int .i64 0, .slice none 0 0] 47)).alloc (.cells #[.int .i64 ar, .slice none 0 0] 47)).heap[w.heap.size]? = some (.cells #[.int .i64 ar, .slice A L.length c] 47 (0, 0)) := heapOld (heapOld (heapNew rfl))
  have hr1 : (((w.alloc (.cells #[.int .i64 ar, .slice A L.length c] 47)).alloc (.cells #[.int .i64 0, .slice none 0 0] 47)).alloc (.cells #[.int .i64 ar, .slice none 0 0] 47)).heap[w.heap.size + 1]? = some (.cells #[.int .i64 0, .slice none 0 0] 47 (0, 0)) := heapOld (heapNew (by simp))
  have hr2 : (((w.alloc (.cells #[.int .i64 ar, .slice A L.length c] 47)).alloc (.cells #[.int .i64 0, .slice none 0 0] 47)).alloc (.cells #[.int .i64 ar, .slice none 0 0] 47)).heap[w.heap.size + 1 + 1]? = some (.cells #[.int .i64 ar, .slice none 0 0] 47 (0, 0)) := heapNew (by simp)
  have hz1 : w.heap.size + 3 ≤ (((w.alloc (.cells #[.int .i64 ar, .slice A L.length c] 47)).alloc (.cells #[.int .i64 0, .slice none 0 0] 47)).alloc (.cells #[.int .i64 ar, .slice none 0 0] 47)).heap.size := by simp
  generalize (((w.alloc (.cells #[.int .i64 ar, .slice A L.length c] 47)).alloc (.cells #[.int .i64 0, .slice none 0 0] 47)).alloc (.cells #[.int .i64 ar, .slice none 0 0] 47)) = w1 at *
  go_loopw [6] (fun i wr => ∃ (k : Nat) (F : List (List GV)) (xs : List Value) (A' : Option Addr) (c' : Nat), k ≤ L.length ∧ i = .int .i64 k ∧ Hid (F = delL (L.take k) t) ∧ Hid (wr.heap[w.heap.size + 1 + 1]? = some (.cells #[.int .i64 ar, .slice A' F.length c'] 47 (0, 0))) ∧
      Hid (wr.ownsRow (w.heap.size + 3) 24 1 (.slice A' F.length c') F.length xs) ∧ Hid (HdrIs (sans w S) xs F) ∧ Hid (wr.heap[w.heap.size]? = some (.cells #[.int .i64 ar, .slice A L.length c] 47 (0, 0))) ∧
      Hid (wr.heap[w.heap.size + 1]? = some (.cells #[.int .i64 0, .slice none 0 0] 47 (0, 0))) ∧ Below w.heap.size w wr) (fun i _ => L.length - (intOf i).toNat)
  case atStart => exact ⟨0, [], [], none, 0, by omega, rfl, rfl, hr2, World.ownsRow_nil _ _ _ _, HdrIs.nil, hr0, hr1, hb1⟩
  case round =>
    obtain ⟨k, F, xs, A', c', hk, rfl, HF, H2, HO, HX, H0, H1, hbr⟩ := hrel
    have i0 : (0 : Int) ≤ (k : Int) := by omega
    have c1 : wr.cell? ⟨w.heap.size, 1, none⟩ = some (.slice A L.length c) := (cell_of_row _ _ 1 _ _ _ H0.out).trans rfl
    by_cases hlt : k < L.length
    · have i1 : (k : Int) < (L.length : Int) := by omega
      obtain ⟨b, o, x, A1, n1, c1', rfl, hb, hx, hc, h1f⟩ := SliceIs.slice_at HFar.out hlt
      have h1 : SliceIs Enc.val w w.heap.size A1 n1 c1' x := SliceFar.is (S := S) h1f
      replace hc := (kept_up w S _).cell hb hc
      replace hc := below_cell hbr hc
      have HS := Lib.hid (refTSame_any A1 B n1 c1' t.length d x t wr (h1.mono hbr.size hbr.block) (HT.out.mono hbr.size hbr.block))
      have Hx1 : Hid (SliceIs Enc.val (sans w S) (sans w S).heap.size A1 n1 c1' x) := by show SliceIs _ _ _ _ _ _ _; rw [sans_size]; exact h1f
      have HFk := Lib.hid (del_take (t := t) hx.out)
      clear h1 h1f
      go_wp2_with fail
      refine HS.out.mono ?_
      rintro e w2 ⟨rfl, hb2⟩
      have hb3 : Below w.heap.size w w2 := below_next hbr hb2
      have K0 : Hid (w2.heap[w.heap.size]? = some (.cells #[.int .i64 ar, .slice (some ⟨b, o, none⟩) L.length c] 47 (0, 0))) := (hb2.block _ (Array.getElem?_eq_some_iff.1 H0.out).1).trans H0.out
      have K1 : Hid (w2.heap[w.heap.size + 1]? = some (.cells #[.int .i64 0, .slice none 0 0] 47 (0, 0))) := (hb2.block _ (Array.getElem?_eq_some_iff.1 H1.out).1).trans H1.out
      have K2 : Hid (w2.heap[w.heap.size + 1 + 1]? = some (.cells #[.int .i64 ar, .slice A' F.length c'] 47 (0, 0))) := (hb2.block _ (Array.getElem?_eq_some_iff.1 H2.out).1).trans H2.out
      have KO := Lib.hid (own_below HO.out hb2)
      by_cases hxt : x = t
      · have HF2 : Hid (F = delL (L.take (k + 1)) t) := by show _ = _; rw [HFk.out, if_pos hxt]; exact HF.out
        simp only [hxt, decide_true]
        clear hxt HF HFk hx H0 H1 H2 HO
        go_wp2_with fail
        go_roundw
        case rel => exact ⟨k + 1, F, xs, A', c', by omega, by go_num, HF2, K2, KO, HX, K0, K1, hb3⟩
        case measure => simp [intOf]; omega
      · have HF2 : Hid (F ++ [x] = delL (L.take (k + 1)) t) := by show _ = _; rw [HFk.out, if_neg hxt, HF.out]
        have hFl : F.length ≤ 100000 := by have := del_len (L.take k) t; rw [← HF.out, List.length_take] at this; omega
        obtain rfl : x.length = n1 := Hx1.out.1
        have hcA : ∀ W, Below w2.heap.size w2 W → W.cell? ⟨w.heap.size + 1 + 1, 1, none⟩ = some (.slice A' F.length c') := fun W hb => (cell_of_row _ _ 1 _ _ _ ((hb.block _ (Array.getElem?_eq_some_iff.1 K2.out).1).trans K2.out)).trans rfl
        have HN : Hid (∀ (W : World) (g : Nat), Below w2.heap.size w2 W → W.heap[g]? = some (.cells #[.slice A1 x.length c1'] 24 (0, 0)) → ∃ v' w', (Builtin.append_ #[22, 22] 22 #[.slice A' F.length c', .slice (some ⟨g, 0, none⟩) 1 1]).run Try.prog W = .ok v' w' ∧
            (∃ A2 c2, v' = .slice A2 (F.length + 1) c2 ∧ w'.ownsRow (w.heap.size + 3) 24 1 (.slice A2 (F.length + 1) c2) (F.length + 1) (xs ++ [.slice A1 x.length c1']) ∧ Below (w.heap.size + 3) w2 w')) := by
          intro W g hb hg
          have hw3 : w.heap.size + 3 ≤ w2.heap.size := (Array.getElem?_eq_some_iff.1 K2.out).1
          obtain ⟨A2, c2, w', h1, h2, h3, h4⟩ := rows_push (W := W) (own_below KO.out hb) hg (by omega) (by have := hb.size; omega)
          exact ⟨_, w', h1 _, A2, c2, rfl, h2, (hb.mono hw3).trans h4⟩
        simp only [hxt, decide_false]
        clear hxt HF HFk hx H0 H1 H2 HO
        have e1 := hcA w2 (Below.refl _ _)
        have e2 : w2.cell? ⟨w.heap.size, 1, none⟩ = some (.slice (some ⟨b, o, none⟩) L.length c) := (cell_of_row _ _ 1 _ _ _ K0.out).trans rfl
        have e3 := below_cell hb2 hc
        go_wp2_with fail
        have f1 := hcA w2.drew (Below.drew (Below.refl _ _))
        have f2 := cellA (o := .cells #[.slice A1 x.length c1'] 24) (w := w2.drew) f1
        have f3 := cellA (o := .cells #[.slice A1 x.length c1'] 24) (w := w2) e1
        clear c1 hc hcA
        go_region_law (refine step_append_ex rfl (.tmp 26) (.tmp 32) 22 rfl _ _ rfl rfl _ (HN.out _ _ ?a1 ?a2) ?_
                       case a1 => repeat (first | exact Below.refl _ _ | refine Below.drew ?_ | refine belowA ?_ _)
                       case a2 => first | exact heapNew rfl | exact heapNew (w := w2) rfl | exact heapNew (w := w2.drew) rfl
                       rintro v9 w9 ⟨A9, c9, rfl, hown9, hb9⟩
                       have k2 := (hb9.block _ (by omega)).trans K2.out
                       have z91 : w9.frozen? ⟨w.heap.size + 1 + 1, 1, none⟩ = false := frozen_of_row _ _ _ _ _ k2
                       have y91 : w9.cell? ⟨w.heap.size + 1 + 1, 1, none⟩ = some (.slice A' F.length c') := (cell_of_row _ _ 1 _ _ _ k2).trans rfl)
        all_goals
          have k0 := (hb9.block _ (by omega)).trans K0.out
          have k1 := (hb9.block _ (by omega)).trans K1.out
          have hFx : (F ++ [x]).length = F.length + 1 := by simp
          have Q2 : Hid ((w9.setCell ⟨w.heap.size + 1 + 1, 1, none⟩ (.slice A9 (F.length + 1) c9)).heap[w.heap.size + 1 + 1]? = some (.cells #[.int .i64 ar, .slice A9 (F ++ [x]).length c9] 47 (0, 0))) := by
            show _ = _; rw [hFx]; exact set_one k2
          have Q0 : Hid ((w9.setCell ⟨w.heap.size + 1 + 1, 1, none⟩ (.slice A9 (F.length + 1) c9)).heap[w.heap.size]? = some (.cells #[.int .i64 ar, .slice (some ⟨b, o, none⟩) L.length c] 47 (0, 0))) := (World.heap_setCells_other' (by omega)).trans k0
          have Q1 : Hid ((w9.setCell ⟨w.heap.size + 1 + 1, 1, none⟩ (.slice A9 (F.length + 1) c9)).heap[w.heap.size + 1]? = some (.cells #[.int .i64 0, .slice none 0 0] 47 (0, 0))) := (World.heap_setCells_other' (by omega)).trans k1
          have QO : Hid ((w9.setCell ⟨w.heap.size + 1 + 1, 1, none⟩ (.slice A9 (F.length + 1) c9)).ownsRow (w.heap.size + 3) 24 1 (.slice A9 (F ++ [x]).length c9) (F ++ [x]).length (xs ++ [.slice A1 x.length c1'])) := by
            show World.ownsRow _ _ _ _ _ _ _
            rw [hFx]
            exact own_out' hown9 (set_out w9 _ 1 _) (fun b hb hb' => by have := (own_blk hown9 hb).1; simp at hb'; omega)
          have QX := Lib.hid (HX.out.app (HdrIs.one Hx1.out))
          have hb99 : Below w.heap.size w (w9.setCell ⟨w.heap.size + 1 + 1, 1, none⟩ (.slice A9 (F.length + 1) c9)) := (hb3.trans (hb9.mono (by omega))).setCell (by simp; omega) _
          clear k0 k1 k2 hown9 K0 K1 K2 KO HX Hx1 hFx f1 f2 f3 e1 e2 e3 y91 z91
          go_wp2_with fail
          go_roundw
          case rel => exact ⟨k + 1, F ++ [x], _, A9, c9, by omega, by go_num, HF2, Q2, QO, QX, Q0, Q1, hb99⟩
          case measure => simp [intOf]; omega
    · have i1 : ¬ (k : Int) < (L.length : Int) := by omega
      have HF2 : Hid (R = F) := by show _ = _; rw [HRR.out, HF.out, List.take_of_length_le (by omega)]
      have hFl : F.length ≤ 100000 := by have := del_len (L.take k) t; rw [← HF.out, List.length_take] at this; omega
      have z0 : wr.cell? ⟨w.heap.size + 1 + 1, 0, none⟩ = some (.int .i64 ar) := (cell_of_row _ _ 0 _ _ _ H2.out).trans rfl
      have z1 : wr.cell? ⟨w.heap.size + 1 + 1, 1, none⟩ = some (.slice A' F.length c') := (cell_of_row _ _ 1 _ _ _ H2.out).trans rfl
      have d0 : wr.cell? ⟨w.heap.size + 1, 0, none⟩ = some (.int .i64 0) := (cell_of_row _ _ 0 _ _ _ H1.out).trans rfl
      have d1 : wr.cell? ⟨w.heap.size + 1, 1, none⟩ = some (.slice none 0 0) := (cell_of_row _ _ 1 _ _ _ H1.out).trans rfl
      have f0 : wr.frozen? ⟨w.heap.size + 1, 0, none⟩ = false := frozen_of_row _ _ _ _ _ H1.out
      have f1 : wr.frozen? ⟨w.heap.size + 1, 1, none⟩ = false := frozen_of_row _ _ _ _ _ H1.out
      clear HF HRR
      go_wp2_with fail
      have e1 := set_zero2 (v := .int .i64 ar) H1.out
      have e2 := set_one (v := .slice A' F.length c') e1
      have x0 : ((wr.setCell ⟨w.heap.size + 1, 0, none⟩ (.int .i64 ar)).setCell ⟨w.heap.size + 1, 1, none⟩ (.slice A' F.length c')).cell? ⟨w.heap.size + 1, 0, none⟩ = some (.int .i64 ar) := (cell_of_row _ _ 0 _ _ _ e2).trans rfl
      have x1 : ((wr.setCell ⟨w.heap.size + 1, 0, none⟩ (.int .i64 ar)).setCell ⟨w.heap.size + 1, 1, none⟩ (.slice A' F.length c')).cell? ⟨w.heap.size + 1, 1, none⟩ = some (.slice A' F.length c') := (cell_of_row _ _ 1 _ _ _ e2).trans rfl
      have hbe : Below w.heap.size w ((wr.setCell ⟨w.heap.size + 1, 0, none⟩ (.int .i64 ar)).setCell ⟨w.heap.size + 1, 1, none⟩ (.slice A' F.length c')) := (hbr.setCell (by simp) _).setCell (by simp) _
      refine bodyPost_ret (v := .agg #[.int .i64 ar, .slice A' F.length c']) (by simp [results, Try.results21, go_sem, x0, x1]) rfl ?_
      rw [HF2.out]
      have ho : Out [w.heap.size + 1] wr ((wr.setCell ⟨w.heap.size + 1, 0, none⟩ (.int .i64 ar)).setCell ⟨w.heap.size + 1, 1, none⟩ (.slice A' F.length c')) := (set_out wr _ 0 _).trans (set_out _ _ 1 _) (fun b hb _ => hb)
      exact ⟨A', c', rfl, of_far (own_out' HO.out ho (fun b hb hb' => by have := (own_blk HO.out hb).1; simp at hb'; omega)) (fun b hb => by have := HSS.out b hb; omega) (HX.out.far hbe) (by simp [reachN]; omega), hbe⟩

def RefAddR (S : List Nat) (ar : Int) (b : Bool) (x : Int) (L : List (List GV)) (w : World) (e : Ending) (w' : World) : Prop :=
  ∃ A c, e = .returned (.tuple #[.agg #[.int .i64 ar, .slice A L.length c], .bool b, .int .i64 x]) ∧ SliceFar (Enc.slice Enc.val) w' S A L.length c L ∧ Below w.heap.size w w'

set_option maxRecDepth 100000 in
set_option maxHeartbeats 4000000 in
theorem refAdd_any (ar : Int) (A B : Option Addr) (n c m d : Nat) (L : List (List GV)) (t : List GV) (w : World) (S : List Nat) (hS : ∀ b ∈ S, b < w.heap.size) (hl' : SliceFar (Enc.slice Enc.val) w S A n c L) (ht : SliceIs Enc.val w w.heap.size B m d t) (hn : n ≤ 2000) (hm : m ≤ 100000) :
    Calls Try.prog 22 #[.agg #[.int .i64 ar, .slice A n c], .slice B m d] w (RefAddR S ar (addB ar L t) (addE ar L t) (addL ar L t) w) := by
  have hl := hl'.is
  have HL := Lib.hid hl
  have HFar := Lib.hid hl'
  have HT := Lib.hid ht
  obtain rfl : L.length = n := hl.1
  obtain rfl : t.length = m := ht.1
  have HR := Lib.hid (fun (W : World) (hb : Below w.heap.size w W) => refTRight_any B t.length d t W (ht.mono hb.size hb.block))
  have HH := Lib.hid (fun (W : World) (hb : Below w.heap.size w W) => refHas_any ar A B L.length c t.length d L t W (hl.mono hb.size hb.block) (ht.mono hb.size hb.block))
  have HP := Lib.hid (fun (W : World) (hb : Below w.heap.size w W) (hz : w.heap.size + 1 < W.heap.size) => refPut_any ar A B L.length c t.length d L t W ((w.heap.size + 1) :: S) (fun b hb' => by rcases List.mem_cons.1 hb' with h | h; omega; have := hS b h; have := hb.size; omega)
    (hl'.out (S := []) (Out.of_below hb []) (fun b hb => by cases hb) (fun b hb' hbl => by rcases List.mem_cons.1 hb' with h | h; omega; exact h)) (ht.mono hb.size hb.block) (by omega) hm)
  obtain ⟨qb, hqb⟩ : ∃ b, Hid (b = addB ar L t) := ⟨_, rfl⟩
  obtain ⟨qx, hqx⟩ : ∃ b, Hid (b = addE ar L t) := ⟨_, rfl⟩
  obtain ⟨R, hR⟩ : ∃ b, Hid (b = addL ar L t) := ⟨_, rfl⟩
  rw [← hqb.out, ← hqx.out, ← hR.out]
  clear hl ht hl' hS
  have same : ∀ (W : World), W.heap[w.heap.size + 1]? = some (.cells #[.int .i64 0, .slice none 0 0] 47 (0, 0)) → Below w.heap.size w W →
      (((W.setCell ⟨w.heap.size + 1, 0, none⟩ (.int .i64 ar)).setCell ⟨w.heap.size + 1, 1, none⟩ (.slice A L.length c)).cell? ⟨w.heap.size + 1, 0, none⟩ = some (.int .i64 ar) ∧ ((W.setCell ⟨w.heap.size + 1, 0, none⟩ (.int .i64 ar)).setCell ⟨w.heap.size + 1, 1, none⟩ (.slice A L.length c)).cell? ⟨w.heap.size + 1, 1, none⟩ = some (.slice A L.length c)) ∧
      (Below w.heap.size w ((W.setCell ⟨w.heap.size + 1, 0, none⟩ (.int .i64 ar)).setCell ⟨w.heap.size + 1, 1, none⟩ (.slice A L.length c)) ∧
        SliceFar (Enc.slice Enc.val) ((W.setCell ⟨w.heap.size + 1, 0, none⟩ (.int .i64 ar)).setCell ⟨w.heap.size + 1, 1, none⟩ (.slice A L.length c)) S A L.length c L) := by
    intro W hr hb
    have e2 := set_one (v := .slice A L.length c) (set_zero2 (v := .int .i64 ar) hr)
    have hbe : Below w.heap.size w ((W.setCell ⟨w.heap.size + 1, 0, none⟩ (.int .i64 ar)).setCell ⟨w.heap.size + 1, 1, none⟩ (.slice A L.length c)) := (hb.setCell (by simp) _).setCell (by simp) _
    exact ⟨⟨(cell_of_row _ _ 0 _ _ _ e2).trans rfl, (cell_of_row _ _ 1 _ _ _ e2).trans rfl⟩, hbe, HFar.out.on hbe⟩
  have Hsame := Lib.hid same
  clear same
  go_enter Try.func22, Try.ntmps22
  have hb1 : Below w.heap.size w ((w.alloc (.cells #[.int .i64 ar, .slice A L.length c] 47)).alloc (.cells #[.int .i64 0, .slice none 0 0] 47)) := belowA (belowA (Below.refl _ _) _) _
  have hr0 : ((w.alloc (.cells #[.int .i64 ar, .slice A L.length c] 47)).alloc (.cells #[.int .i64 0, .slice none 0 0] 47)).heap[w.heap.size]? = some (.cells #[.int .i64 ar, .slice A L.length c] 47 (0, 0)) := heapOld (heapNew rfl)
  have hr1 : ((w.alloc (.cells #[.int .i64 ar, .slice A L.length c] 47)).alloc (.cells #[.int .i64 0, .slice none 0 0] 47)).heap[w.heap.size + 1]? = some (.cells #[.int .i64 0, .slice none 0 0] 47 (0, 0)) := heapNew (by simp)
  obtain ⟨w1, hw1⟩ : ∃ W, ((w.alloc (.cells #[.int .i64 ar, .slice A L.length c] 47)).alloc (.cells #[.int .i64 0, .slice none 0 0] 47)) = W := ⟨_, rfl⟩
  rw [hw1] at hb1 hr0 hr1
  have c0 : w1.cell? ⟨w.heap.size, 0, none⟩ = some (.int .i64 ar) := (cell_of_row _ _ 0 _ _ _ hr0).trans rfl
  have c1 : w1.cell? ⟨w.heap.size, 1, none⟩ = some (.slice A L.length c) := (cell_of_row _ _ 1 _ _ _ hr0).trans rfl
  have d0 : w1.cell? ⟨w.heap.size + 1, 0, none⟩ = some (.int .i64 0) := (cell_of_row _ _ 0 _ _ _ hr1).trans rfl
  have d1 : w1.cell? ⟨w.heap.size + 1, 1, none⟩ = some (.slice none 0 0) := (cell_of_row _ _ 1 _ _ _ hr1).trans rfl
  have f0 : w1.frozen? ⟨w.heap.size + 1, 0, none⟩ = false := frozen_of_row _ _ _ _ _ hr1
  have f1 : w1.frozen? ⟨w.heap.size + 1, 1, none⟩ = false := frozen_of_row _ _ _ _ _ hr1
  by_cases hta : (t.length : Int) = ar
  rotate_left
  · have h1 : ((t.length : Int) != ar) = true := by simpa using hta
    have HE : Hid (qb = false ∧ qx = 6 ∧ R = L) := by
      show _ ∧ _
      have e1 : addB ar L t = false := by simp [addB, hta]
      exact ⟨by rw [hqb.out, e1], by rw [hqx.out]; simp [addE, hta], by rw [hR.out]; simp [addL, e1]⟩
    clear hta hqb hqx hR HR HH HP
    go_wp2_with fail
    obtain ⟨⟨x0, x1⟩, hbe, hsl⟩ := Hsame.out w1 hr1 hb1
    obtain ⟨e1, e2, e3⟩ := HE.out
    rw [e1, e2, e3]
    exact bodyPost_ret (v := .tuple #[.agg #[.int .i64 ar, .slice A L.length c], .bool false, .int .i64 6]) (by simp [results, Try.results22, go_sem, x0, x1]) rfl ⟨A, c, rfl, hsl, hbe⟩
  have h1 : ((t.length : Int) != ar) = false := by simpa using hta
  have HR1 := Lib.hid (HR.out w1 hb1)
  have HTA := Lib.hid hta
  clear hta HR
  go_wp2_with fail
  refine HR1.out.mono ?_
  rintro e w2 ⟨rfl, hq⟩
  clear hw1 HR1
  clear c0 c1 d0 d1 f0 f1
  replace hr0 := (hq.block _ (Array.getElem?_eq_some_iff.1 hr0).1).trans hr0
  replace hr1 := (hq.block _ (Array.getElem?_eq_some_iff.1 hr1).1).trans hr1
  replace hb1 := below_next hb1 hq
  have c0 : w2.cell? ⟨w.heap.size, 0, none⟩ = some (.int .i64 ar) := (cell_of_row _ _ 0 _ _ _ hr0).trans rfl
  have c1 : w2.cell? ⟨w.heap.size, 1, none⟩ = some (.slice A L.length c) := (cell_of_row _ _ 1 _ _ _ hr0).trans rfl
  have d0 : w2.cell? ⟨w.heap.size + 1, 0, none⟩ = some (.int .i64 0) := (cell_of_row _ _ 0 _ _ _ hr1).trans rfl
  have d1 : w2.cell? ⟨w.heap.size + 1, 1, none⟩ = some (.slice none 0 0) := (cell_of_row _ _ 1 _ _ _ hr1).trans rfl
  have f0 : w2.frozen? ⟨w.heap.size + 1, 0, none⟩ = false := frozen_of_row _ _ _ _ _ hr1
  have f1 : w2.frozen? ⟨w.heap.size + 1, 1, none⟩ = false := frozen_of_row _ _ _ _ _ hr1
  clear hq
  by_cases hrt : rightT t = true
  rotate_left
  · have hrf : rightT t = false := by simpa using hrt
    have hta := HTA.out
    have HE : Hid (qb = false ∧ qx = 2 ∧ R = L) := by
      show _ ∧ _
      have e1 : addB ar L t = false := by simp [addB, hta, hrf]
      exact ⟨by rw [hqb.out, e1], by rw [hqx.out]; simp [addE, hta, hrf], by rw [hR.out]; simp [addL, e1]⟩
    simp only [hrf]
    clear hrt hrf hta hqb hqx hR HH HP
    go_wp2_with fail
    obtain ⟨⟨x0, x1⟩, hbe, hsl⟩ := Hsame.out w2 hr1 hb1
    obtain ⟨e1, e2, e3⟩ := HE.out
    rw [e1, e2, e3]
    exact bodyPost_ret (v := .tuple #[.agg #[.int .i64 ar, .slice A L.length c], .bool false, .int .i64 2]) (by simp [results, Try.results22, go_sem, x0, x1]) rfl ⟨A, c, rfl, hsl, hbe⟩
  have HRT := Lib.hid hrt
  have HH1 := Lib.hid (HH.out w2 hb1)
  simp only [hrt]
  clear hrt HH
  go_wp2_with fail
  refine HH1.out.mono ?_
  rintro e w3 ⟨rfl, hq⟩
  clear HH1
  clear c0 c1 d0 d1 f0 f1
  replace hr0 := (hq.block _ (Array.getElem?_eq_some_iff.1 hr0).1).trans hr0
  replace hr1 := (hq.block _ (Array.getElem?_eq_some_iff.1 hr1).1).trans hr1
  replace hb1 := below_next hb1 hq
  have c0 : w3.cell? ⟨w.heap.size, 0, none⟩ = some (.int .i64 ar) := (cell_of_row _ _ 0 _ _ _ hr0).trans rfl
  have c1 : w3.cell? ⟨w.heap.size, 1, none⟩ = some (.slice A L.length c) := (cell_of_row _ _ 1 _ _ _ hr0).trans rfl
  have d0 : w3.cell? ⟨w.heap.size + 1, 0, none⟩ = some (.int .i64 0) := (cell_of_row _ _ 0 _ _ _ hr1).trans rfl
  have d1 : w3.cell? ⟨w.heap.size + 1, 1, none⟩ = some (.slice none 0 0) := (cell_of_row _ _ 1 _ _ _ hr1).trans rfl
  have f0 : w3.frozen? ⟨w.heap.size + 1, 0, none⟩ = false := frozen_of_row _ _ _ _ _ hr1
  have f1 : w3.frozen? ⟨w.heap.size + 1, 1, none⟩ = false := frozen_of_row _ _ _ _ _ hr1
  clear hq
  by_cases hin : t ∈ L
  · have hta := HTA.out
    have hrt := HRT.out
    have HE : Hid (qb = false ∧ qx = 0 ∧ R = L) := by
      show _ ∧ _
      have e1 : addB ar L t = false := by simp [addB, hta, hrt, hin]
      exact ⟨by rw [hqb.out, e1], by rw [hqx.out]; simp [addE, hta, hrt, hin], by rw [hR.out]; simp [addL, e1]⟩
    simp only [hin, decide_true]
    clear hin hrt hta hqb hqx hR HP
    go_wp2_with fail
    obtain ⟨⟨x0, x1⟩, hbe, hsl⟩ := Hsame.out w3 hr1 hb1
    obtain ⟨e1, e2, e3⟩ := HE.out
    rw [e1, e2, e3]
    exact bodyPost_ret (v := .tuple #[.agg #[.int .i64 ar, .slice A L.length c], .bool false, .int .i64 0]) (by simp [results, Try.results22, go_sem, x0, x1]) rfl ⟨A, c, rfl, hsl, hbe⟩
  simp only [hin, decide_false]
  by_cases hfull : L.length = 2000
  · have hta := HTA.out
    have hrt := HRT.out
    have h2 : 2000 ≤ L.length := by omega
    have h3 : ¬ L.length < 2000 := by omega
    have h4 : ((L.length : Int) == 2000) = true := by simp; omega
    have HE : Hid (qb = false ∧ qx = 11 ∧ R = L) := by
      show _ ∧ _
      have e1 : addB ar L t = false := by simp [addB, h3]
      exact ⟨by rw [hqb.out, e1], by rw [hqx.out]; simp [addE, hta, hrt, hin, h2], by rw [hR.out]; simp [addL, e1]⟩
    clear hin hrt hta hqb hqx hR HP hfull h2 h3
    go_wp2_with fail
    obtain ⟨⟨x0, x1⟩, hbe, hsl⟩ := Hsame.out w3 hr1 hb1
    obtain ⟨e1, e2, e3⟩ := HE.out
    rw [e1, e2, e3]
    exact bodyPost_ret (v := .tuple #[.agg #[.int .i64 ar, .slice A L.length c], .bool false, .int .i64 11]) (by simp [results, Try.results22, go_sem, x0, x1]) rfl ⟨A, c, rfl, hsl, hbe⟩
  have HE : Hid (qb = true ∧ qx = 0 ∧ R = putL L t) := by
    show _ ∧ _
    have hta := HTA.out
    have hrt := HRT.out
    have h2 : ¬ 2000 ≤ L.length := by omega
    have h3 : L.length < 2000 := by omega
    have e1 : addB ar L t = true := by simp [addB, hta, hrt, hin, h3]
    exact ⟨by rw [hqb.out, e1], by rw [hqx.out]; simp [addE, hta, hrt, hin, h2], by rw [hR.out]; simp [addL, e1, putL, hin]⟩
  have h4 : ((L.length : Int) == 2000) = false := by simp; omega
  have HP1 := Lib.hid (HP.out w3 hb1 (Array.getElem?_eq_some_iff.1 hr1).1)
  clear hin hqb hqx hR HP hfull
  go_wp2_with fail
  refine HP1.out.mono ?_
  rintro e w4 ⟨A4, c4, rfl, hs4, hq⟩
  clear HP1
  clear c0 c1 d0 d1 f0 f1
  replace hr0 := (hq.block _ (Array.getElem?_eq_some_iff.1 hr0).1).trans hr0
  replace hr1 := (hq.block _ (Array.getElem?_eq_some_iff.1 hr1).1).trans hr1
  replace hb1 := below_next hb1 hq
  have c0 : w4.cell? ⟨w.heap.size, 0, none⟩ = some (.int .i64 ar) := (cell_of_row _ _ 0 _ _ _ hr0).trans rfl
  have c1 : w4.cell? ⟨w.heap.size, 1, none⟩ = some (.slice A L.length c) := (cell_of_row _ _ 1 _ _ _ hr0).trans rfl
  have d0 : w4.cell? ⟨w.heap.size + 1, 0, none⟩ = some (.int .i64 0) := (cell_of_row _ _ 0 _ _ _ hr1).trans rfl
  have d1 : w4.cell? ⟨w.heap.size + 1, 1, none⟩ = some (.slice none 0 0) := (cell_of_row _ _ 1 _ _ _ hr1).trans rfl
  have f0 : w4.frozen? ⟨w.heap.size + 1, 0, none⟩ = false := frozen_of_row _ _ _ _ _ hr1
  have f1 : w4.frozen? ⟨w.heap.size + 1, 1, none⟩ = false := frozen_of_row _ _ _ _ _ hr1
  clear hq
  have HS4 := Lib.hid hs4
  clear hs4
  go_wp2_with fail
  have e2 := set_one (v := .slice A4 (putL L t).length c4) (set_zero2 (v := .int .i64 ar) hr1)
  have x0 := (cell_of_row _ _ 0 _ _ _ e2).trans (show _ = some (Value.int .i64 ar) from rfl)
  have x1 := (cell_of_row _ _ 1 _ _ _ e2).trans (show _ = some (Value.slice A4 (putL L t).length c4) from rfl)
  have hbe : Below w.heap.size w ((w4.setCell ⟨w.heap.size + 1, 0, none⟩ (.int .i64 ar)).setCell ⟨w.heap.size + 1, 1, none⟩ (.slice A4 (putL L t).length c4)) := (hb1.setCell (by simp) _).setCell (by simp) _
  have ho : Out [w.heap.size + 1] w4 ((w4.setCell ⟨w.heap.size + 1, 0, none⟩ (.int .i64 ar)).setCell ⟨w.heap.size + 1, 1, none⟩ (.slice A4 (putL L t).length c4)) := (set_out w4 _ 0 _).trans (set_out _ _ 1 _) (fun b hb _ => hb)
  obtain ⟨q1, q2, q3⟩ := HE.out
  rw [q1, q2, q3]
  exact bodyPost_ret (v := .tuple #[.agg #[.int .i64 ar, .slice A4 (putL L t).length c4], .bool true, .int .i64 0]) (by simp [results, Try.results22, go_sem, x0, x1]) rfl
    ⟨A4, c4, rfl, HS4.out.out ho (fun b hb _ => by simp at hb; simp [hb]) (fun b hb _ => by simp [hb]), hbe⟩
end Go.Proofs.Ytgomfmfaoeojkaa
