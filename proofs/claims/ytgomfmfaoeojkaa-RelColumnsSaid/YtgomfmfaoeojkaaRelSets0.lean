/- Union, Minus, Both. -/
import Derived.Test.YtgomfmfaoeojkaaRelSieve
import Derived.Test.YtgomfmfaoeojkaaRelTwo
import Derived.Test.YtgomfmfaoeojkaaRefPut
import Derived.Deep.RegionWith
namespace Go.Proofs.Ytgomfmfaoeojkaa
open Go.RowKit Go.Shelf

def NewRel (ar : Int) (U : List (List GV)) (w : World) (e : Ending) (w' : World) : Prop := Below w.heap.size w w' ∧ ∃ r, e = .returned (.tuple #[relP r, .nilIface]) ∧ RelNew w.heap.size w' r ar U
def uniL (L M : List (List GV)) : List (List GV) := M.foldl putL L
theorem putL_len (L : List (List GV)) (t : List GV) : (putL L t).length ≤ L.length + 1 := by
  unfold putL; split
  · omega
  · have := posL_le L t; simp [insL]; omega
theorem uniL_len : ∀ (M L : List (List GV)), (uniL L M).length ≤ L.length + M.length
  | [], L => by simp [uniL]
  | t :: M, L => by
    have h1 := uniL_len M (putL L t)
    have h2 := putL_len L t
    simp only [uniL, List.foldl_cons, List.length_cons] at h1 ⊢
    omega
theorem mem_put {L : List (List GV)} {t x : List GV} : x ∈ putL L t ↔ x ∈ L ∨ x = t := by
  unfold putL; split
  · constructor
    · exact .inl
    · rintro (h | rfl)
      · exact h
      · assumption
  · rw [mem_ins]; exact Or.comm
theorem mem_uni : ∀ (M L : List (List GV)) (x : List GV), x ∈ uniL L M ↔ x ∈ L ∨ x ∈ M
  | [], L, x => by simp [uniL]
  | t :: M, L, x => by
    have h1 := mem_uni M (putL L t) x
    simp only [uniL, List.foldl_cons] at h1 ⊢
    rw [h1, mem_put, List.mem_cons, or_assoc]
theorem add_put {ar : Int} {L : List (List GV)} {t : List GV} (h1 : (t.length : Int) = ar) (h2 : rightT t = true) (h3 : L.length < 2000) : addL ar L t = putL L t ∧ addE ar L t = 0 := by
  by_cases hm : t ∈ L
  · constructor
    · simp [addL, addB, putL, hm]
    · simp [addE, h1, h2, hm]
  · have h4 : ¬ 2000 ≤ L.length := by omega
    constructor
    · simp [addL, addB, putL, hm, h1, h2, h3]
    · simp [addE, h1, h2, hm, h4]
theorem uni_take {L M : List (List GV)} {k : Nat} {t : List GV} (h : M[k]? = some t) : uniL L (M.take (k + 1)) = putL (uniL L (M.take k)) t := by
  unfold uniL; rw [List.take_add_one, h, List.foldl_append]; rfl

set_option maxRecDepth 100000 in
set_option maxHeartbeats 1000000 in
theorem union_any {w : World} {S S' : List Nat} {p q : Nat} {rb rb' : Option Nat} {ar : Int} {L M : List (List GV)} (h : RelAt w S p rb ar L) (h' : RelAt w S' q rb' ar M) (h2 : L.length + M.length ≤ 2000) :
    Calls Try.prog 30 #[relP p, relP q] w (NewRel ar (uniL L M) w) := by
  have H1 := Lib.hid (two_yes h h')
  have H2 := Lib.hid (fun (W : World) (hb : Below w.heap.size w W) => rcopy_any (h.on hb))
  obtain ⟨A, c, hr, hM⟩ := h'.row
  have hql : q < w.heap.size := (Array.getElem?_eq_some_iff.1 hr).1
  have HM := Lib.hid hM
  have HR := Lib.hid h'.right
  obtain ⟨U, hU⟩ : ∃ U, Hid (U = uniL L M) := ⟨_, rfl⟩
  rw [← hU.out]
  have Hr := Lib.hid hr
  clear h h' hM hr
  unfold relP at H1 H2 ⊢
  go_enter Try.func30, Try.ntmps30
  go_wp2_with fail
  refine H1.out.mono ?_
  rintro e w1 ⟨rfl, hb1⟩
  go_wp2_with fail
  refine (H2.out w1 hb1).mono ?_
  rintro e w2 ⟨r, rb2, rfl, hb2, hcop, hr1, hr2, hrb⟩
  have hb12 := below_next hb1 hb2
  have HN : Hid (RelNew w.heap.size w2 r ar L) := ⟨rb2, hcop.own, by have := hb1.size; omega, hr2, fun b hb => by have := hrb b hb; have := hb1.size; omega⟩
  have c1 : w2.cell? ⟨q, 1, none⟩ = some (.slice A M.length c) := (cell_of_row _ _ 1 _ _ _ ((hb12.block q hql).trans Hr.out)).trans rfl
  clear hcop hrb hr1 hr2 hb2 hb1 H1 H2
  unfold relP
  go_wp2_with fail
  go_loopw [9, 10, 11, 25] (fun _ _ _ i wr => ∃ k : Nat, k ≤ M.length ∧ i = .int .i64 k ∧ Hid (RelNew w.heap.size wr r ar (uniL L (M.take k))) ∧ Below w.heap.size w wr) (fun _ _ _ i _ => M.length - (intOf i).toNat)
  case atStart => exact ⟨0, by omega, rfl, HN, hb12⟩
  case round =>
    obtain ⟨k, hk, rfl, HNk, hbr⟩ := hrel
    have i0 : (0 : Int) ≤ (k : Int) := by omega
    by_cases hlt : k < M.length
    · have i1 : (k : Int) < (M.length : Int) := by omega
      obtain ⟨b, o, t, A1, n1, c1', rfl, hb, hx, hc, ht⟩ := (HM.out.below hbr).slice_at hlt
      have hR := HR.out t (List.mem_of_getElem? hx.out)
      have hlen : (uniL L (M.take k)).length < 2000 := by have := uniL_len (M.take k) L; rw [List.length_take] at this; omega
      obtain ⟨e1, e2⟩ := add_put (L := uniL L (M.take k)) hR.1 hR.2 hlen
      have HA := Lib.hid (add_new HNk.out hbr.size A1 n1 c1' t (ht.mono hbr.size (fun _ _ => rfl)))
      rw [e1, e2, ← uni_take hx.out] at HA
      simp only [errV, if_true] at HA
      unfold relP at HA
      clear hR hlen e1 e2 ht hx
      go_wp2_with fail
      refine HA.out.mono ?_
      rintro e w3 ⟨rfl, hn3, hb3⟩
      have HN3 := Lib.hid hn3
      have hb4 := hbr.trans hb3
      clear hn3 HNk HA
      go_wp2_with fail
      go_roundw
      case rel => exact ⟨k + 1, by omega, by go_num, HN3, hb4⟩
      case measure => simp [intOf]; omega
    · have i1 : ¬ (k : Int) < (M.length : Int) := by omega
      have HNU : Hid (RelNew w.heap.size wr r ar U) := by
        show RelNew _ _ _ _ _
        rw [hU.out]
        have := HNk.out
        rwa [List.take_of_length_le (by omega)] at this
      clear HNk
      go_wp2_with fail
      go_ret2
      exact ⟨hbr, r, rfl, HNU.out⟩

def sieL (kp : List GV → Bool) (L : List (List GV)) : List (List GV) := L.filter fun t => !kp t
theorem zip_fst : ∀ (xs : List Value) (L : List (List GV)), xs.length = L.length → (xs.zip L).map Prod.fst = xs ∧ (xs.zip L).map Prod.snd = L
  | [], [], _ => ⟨rfl, rfl⟩
  | x :: xs, t :: L, h => by
    obtain ⟨h1, h2⟩ := zip_fst xs L (by simpa using h)
    exact ⟨by rw [List.zip_cons_cons, List.map_cons, h1], by rw [List.zip_cons_cons, List.map_cons, h2]⟩
theorem stays_snd (kp : List GV → Bool) (Ps : List (Value × List GV)) : (stays kp Ps).map Prod.snd = sieL kp (Ps.map Prod.snd) := by
  unfold stays sieL
  rw [List.filter_map]; rfl

set_option maxRecDepth 100000 in
set_option maxHeartbeats 1000000 in
theorem sieved_any {gf : Nat} {bs lb : Array Value} (eg : ∀ args w, (callFunc gf args).run Try.prog w = .ok (.enter gf args) w) (kp : List GV → Bool) {w : World} {S : List Nat} {p : Nat} {rb : Option Nat} {ar : Int} {L : List (List GV)} (h : RelAt w S p rb ar L)
    (HK : ∀ (W : World) (A : Option Addr) (n c : Nat) (t : List GV), Below w.heap.size w W → SliceIs Enc.val W W.heap.size A n c t → Calls Try.prog gf (bs.push (.slice A n c) ++ lb) W (RetBool (kp t) W)) :
    Calls Try.prog 55 #[relP p, .func (.func gf) bs lb] w (fun e w' => Below w.heap.size w w' ∧ ∃ r, e = .returned (relP r) ∧ RelNew w.heap.size w' r ar (sieL kp L)) := by
  have HC := Lib.hid (rcopy_any h)
  have HKK := Lib.hid HK
  have hlen := h.len
  clear h HK
  unfold relP at HC ⊢
  go_enter Try.func55, Try.ntmps55
  go_wp2_with fail
  refine HC.out.mono ?_
  rintro e w1 ⟨q, qb, rfl, hb1, hcop, hq1, hq2, hqb⟩
  obtain ⟨A, c, xs, h1, h2, h3, h4⟩ := hcop.ex
  have hxl : xs.length = L.length := by have := h2.1; omega
  obtain ⟨z1, z2⟩ := zip_fst xs L hxl
  have hps : ∀ (i : Nat) (p : Value × List GV), (xs.zip L)[i]? = some p → ∃ (B : Option Addr) (n d : Nat), p.1 = .slice B n d ∧ SliceFar Enc.val w1 (q :: (qb.toList ++ S)) B n d p.2 := by
    intro i p hp
    have e2 : L[i]? = some p.2 := by have := congrArg (fun l => l[i]?) z2; simp only [List.getElem?_map, hp, Option.map_some] at this; exact this.symm
    have e1 : xs[i]? = some p.1 := by have := congrArg (fun l => l[i]?) z1; simp only [List.getElem?_map, hp, Option.map_some] at this; exact this.symm
    obtain ⟨B, n, d, hx, hf⟩ := h4 i _ e2
    rw [e1] at hx; injection hx with hx
    exact ⟨B, n, d, hx, hf⟩
  have hG : Goes gf bs lb kp (Value.slice A L.length c).ownBlock.toList w1 (xs.zip L) := by
    intro W ho p hp
    obtain ⟨i, hi⟩ := List.mem_iff_getElem?.1 hp
    obtain ⟨B, n, d, e, hf⟩ := hps i p hi
    rw [h3] at ho
    have hbW : Below w.heap.size w W := hb1.trans (ho.below (fun b hb => (hqb b (by simpa using hb)).1) hb1.size)
    have := hf.out ho (U := []) (fun b hb _ => by simp at hb; simp [hb]) (fun b hb _ => by cases hb)
    rw [e]
    exact HKK.out W B n d p.2 hbW this.is
  have HD := Lib.hid (deleteFuncT_any eg kp A L.length c (xs.zip L) w1 (by omega) (by rw [z1]; exact h2) (fun p hp => by
    obtain ⟨i, hi⟩ := List.mem_iff_getElem?.1 hp
    obtain ⟨B, n, d, e, -⟩ := hps i p hi
    exact ⟨B, n, d, e⟩) hG)
  have c1 : w1.cell? ⟨q, 1, none⟩ = some (.slice A L.length c) := (cell_of_row _ _ 1 _ _ _ h1).trans rfl
  have hL' : (stays kp (xs.zip L)).length = (sieL kp L).length := by rw [← z2, ← stays_snd, z2]; simp
  have H1 := Lib.hid h1
  have H4 := Lib.hid hps
  have H3 := Lib.hid h3
  have HS : Hid (Sorted L) := hcop.sorted
  have HRt := Lib.hid hcop.right
  have HQB := Lib.hid hqb
  have HqS := Lib.hid hcop.rS
  have HL' := Lib.hid hL'
  have HZ := Lib.hid z2
  clear h1 h2 h3 h4 hps hG hcop z1 z2 hqb hL'
  unfold relP
  go_wp2_with fail
  refine HD.out.mono ?_
  rintro e w2 ⟨A2, c2, rfl, hown, hout, hsame⟩
  have hq2r : w2.heap[q]? = some (.cells #[.int .i64 ar, .slice A L.length c] 77 (0, 0)) := (hout.block q hq2 (fun hb => by rw [H3.out] at hb; exact (HqS.out q (by simpa using hb)).2 rfl)).trans H1.out
  have d1 : w2.cell? ⟨q, 1, none⟩ = some (.slice A L.length c) := (cell_of_row _ _ 1 _ _ _ hq2r).trans rfl
  have f1 : w2.frozen? ⟨q, 1, none⟩ = false := frozen_of_row _ _ _ _ _ hq2r
  have Hown := Lib.hid hown
  have Hout := Lib.hid hout
  have Hsame := Lib.hid hsame
  rw [HL'.out]
  have HL2 : Hid ((stays kp (xs.zip L)).length = (sieL kp L).length) := HL'.out
  clear hown hout hsame HD
  go_wp2_with fail
  go_ret
  have hout := Hout.out
  rw [H3.out] at hout
  have hown := Hown.out
  have hsame := Hsame.out
  rw [HL2.out] at hown hsame
  rw [H3.out] at hsame
  have oS : Out [q] w2 (w2.setCell ⟨q, 1, none⟩ (.slice A2 (sieL kp L).length c2)) := set_out w2 q 1 _
  have o2 : Out (q :: qb.toList) w1 (w2.setCell ⟨q, 1, none⟩ (.slice A2 (sieL kp L).length c2)) := (hout.mono (fun b hb _ => List.mem_cons_of_mem _ hb)).trans oS (fun b hb _ => by simp at hb; simp [hb])
  have hbe : Below w.heap.size w (w2.setCell ⟨q, 1, none⟩ (.slice A2 (sieL kp L).length c2)) := hb1.trans (o2.below (fun b hb => by
    simp at hb
    rcases hb with rfl | hb
    · exact hq1
    · exact (HQB.out b hb).1) hb1.size)
  have hq2' : q < (w2.setCell ⟨q, 1, none⟩ (.slice A2 (sieL kp L).length c2)).heap.size := Nat.lt_of_lt_of_le hq2 o2.size
  refine ⟨hbe, q, rfl, qb, ⟨⟨A2, c2, (stays kp (xs.zip L)).map Prod.fst, set_one hq2r, own_out' hown oS (fun b hb hbq => by rw [hsame] at hb; exact (HqS.out b hb).2 (by simpa using hbq)), hsame, ?_⟩, by simp, fun b hb => ⟨by simp [hb], (HqS.out b hb).2⟩, List.Pairwise.sublist List.filter_sublist HS.out, ?_, fun t ht => HRt.out t (List.mem_filter.1 ht).1⟩, hq1, hq2', fun b hb => ⟨(HQB.out b hb).1, Nat.lt_of_lt_of_le (HQB.out b hb).2 o2.size⟩⟩
  · intro i t hi
    have e2 : ((stays kp (xs.zip L)).map Prod.snd)[i]? = some t := by rw [stays_snd, HZ.out]; exact hi
    rw [List.getElem?_map, Option.map_eq_some_iff] at e2
    obtain ⟨pp, hp, rfl⟩ := e2
    have hmem : pp ∈ xs.zip L := (List.mem_filter.1 (List.mem_of_getElem? hp)).1
    obtain ⟨j, hj⟩ := List.mem_iff_getElem?.1 hmem
    obtain ⟨B, n, d, e, hf⟩ := H4.out j pp hj
    refine ⟨B, n, d, by rw [List.getElem?_map, hp, Option.map_some, e], hf.out o2 (fun b hb _ => ?_) (fun b hb _ => ?_)⟩
    · simp at hb ⊢; rcases hb with hb | hb
      · exact .inl hb
      · exact .inr (.inl hb)
    · simp at hb ⊢; rcases hb with hb | hb
      · exact .inl hb
      · exact .inr (.inl hb)
  · have := List.length_filter_le (fun t => !kp t) L
    unfold sieL; omega

def inM (M : List (List GV)) (t : List GV) : Bool := decide (t ∈ M)
set_option maxRecDepth 100000 in
set_option maxHeartbeats 1000000 in
theorem minus_any {w : World} {S S' : List Nat} {p q : Nat} {rb rb' : Option Nat} {ar : Int} {L M : List (List GV)} (h : RelAt w S p rb ar L) (h' : RelAt w S' q rb' ar M) :
    Calls Try.prog 31 #[relP p, relP q] w (NewRel ar (sieL (inM M) L) w) := by
  have H1 := Lib.hid (two_yes h h')
  have H2 := Lib.hid (fun (W : World) (hb : Below w.heap.size w W) => sieved_any (gf := 15) (bs := #[relP q]) (lb := #[]) (enters_of Try.func15 (by kernel_rfl) rfl) (inM M) (h.on hb) (fun W2 A n c t hb2 ht => has_any (h'.on (below_next hb hb2)) A n c t ht))
  clear h h'
  unfold relP at H1 H2 ⊢
  go_enter Try.func31, Try.ntmps31
  go_wp2_with fail
  refine H1.out.mono ?_
  rintro e w1 ⟨rfl, hb1⟩
  go_wp2_with fail
  refine (H2.out w1 hb1).mono ?_
  rintro e w2 ⟨hb2, r, rfl, hr⟩
  have Hr := Lib.hid hr
  clear hr
  go_wp2_with fail
  go_ret2
  obtain ⟨rb2, g1, g2, g3, g4⟩ := Hr.out
  exact ⟨below_next hb1 hb2, r, rfl, rb2, g1, by have := hb1.size; omega, g3, fun b hb => by have := g4 b hb; have := hb1.size; omega⟩

def outM (M : List (List GV)) (t : List GV) : Bool := !decide (t ∈ M)
set_option maxRecDepth 100000 in
set_option maxHeartbeats 1000000 in
theorem both1_any {w : World} {S : List Nat} {q g : Nat} {rb : Option Nat} {ar : Int} {M : List (List GV)} (h : RelAt w S q rb ar M) (hg : w.cell? ⟨g, 0, none⟩ = some (relP q)) (A : Option Addr) (n c : Nat) (t : List GV) (ht : SliceIs Enc.val w w.heap.size A n c t) :
    Calls Try.prog 56 #[.slice A n c, .pointer (some ⟨g, 0, none⟩)] w (RetBool (outM M t) w) := by
  have H1 := Lib.hid (has_any h A n c t ht)
  obtain ⟨r, hr⟩ : ∃ r, Hid (r = outM M t) := ⟨_, rfl⟩
  have hr2 : Hid (r = !decide (t ∈ M)) := hr.out
  rw [← hr.out]
  generalize decide (t ∈ M) = b at H1 hr2
  clear h ht hr
  unfold relP at H1 hg
  go_enter Try.func56, Try.ntmps56
  go_wp2_with fail
  refine H1.out.mono ?_
  rintro e w1 ⟨rfl, hb1⟩
  go_wp2_with fail
  go_ret
  exact ⟨by rw [hr2.out]; rfl, hb1⟩
set_option maxRecDepth 100000 in
set_option maxHeartbeats 1000000 in
theorem both_any {w : World} {S S' : List Nat} {p q : Nat} {rb rb' : Option Nat} {ar : Int} {L M : List (List GV)} (h : RelAt w S p rb ar L) (h' : RelAt w S' q rb' ar M) :
    Calls Try.prog 32 #[relP p, relP q] w (NewRel ar (sieL (outM M) L) w) := by
  have hb0 : Below w.heap.size w (w.alloc (.cells #[relP q] 28)) := belowA (Below.refl _ _) _
  have hrow : (w.alloc (.cells #[relP q] 28)).cell? ⟨w.heap.size, 0, none⟩ = some (relP q) := (cell_of_row _ _ 0 _ _ _ (heapNew rfl)).trans rfl
  have H1 := Lib.hid (two_yes (h.on hb0) (h'.on hb0))
  have H2 := Lib.hid (fun (W : World) (hb : Below (w.alloc (.cells #[relP q] 28)).heap.size (w.alloc (.cells #[relP q] 28)) W) => sieved_any (gf := 56) (bs := #[]) (lb := #[.pointer (some ⟨w.heap.size, 0, none⟩)]) (enters_of Try.func56 (by kernel_rfl) rfl) (outM M) ((h.on hb0).on hb)
    (fun W2 A n c t hb2 ht => both1_any (((h'.on hb0).on hb).on hb2) (below_cell hb2 (below_cell hb hrow)) A n c t ht))
  clear h h'
  unfold relP at H1 H2 hrow hb0 ⊢
  go_enter Try.func32, Try.ntmps32
  go_wp2_with fail
  refine H1.out.mono ?_
  rintro e w1 ⟨rfl, hb1⟩
  go_wp2_with fail
  refine (H2.out w1 hb1).mono ?_
  rintro e w2 ⟨hb2, r, rfl, hr⟩
  have Hr := Lib.hid hr
  clear hr
  go_wp2_with fail
  go_ret2
  obtain ⟨rb2, g1, g2, g3, g4⟩ := Hr.out
  have hz := (below_next hb0 hb1).size
  exact ⟨below_next (below_next hb0 hb1) hb2, r, rfl, rb2, g1, by omega, g3, fun b hb => by have := g4 b hb; omega⟩

/-! ### Same -/
set_option maxRecDepth 100000 in
set_option maxHeartbeats 400000 in
theorem equalT_any (A B : Option Addr) (n m c d : Nat) (xs ys : List GV) (w : World) (hx : SliceIs Enc.val w w.heap.size A n c xs) (hy : SliceIs Enc.val w w.heap.size B m d ys) :
    Calls Try.prog 58 #[.slice A n c, .slice B m d] w (RetBool (decide (xs = ys)) w) := by
  have hn := hx.bound
  have hm := hy.bound
  obtain rfl : xs.length = n := hx.1
  obtain rfl : ys.length = m := hy.1
  obtain ⟨r, hr⟩ : ∃ r, Hid (r = decide (xs = ys)) := ⟨_, rfl⟩
  rw [← hr.out]
  by_cases hl : xs.length = ys.length
  rotate_left
  · have hl' : ((xs.length : Int) != (ys.length : Int)) = true := by simpa using fun h => hl (by omega)
    have HR : Hid (r = false) := by show _ = _; rw [hr.out]; simpa using fun e => hl (by rw [e])
    clear hl hx hy
    go_enter Try.func58, Try.ntmps58
    go_wp2_with fail
    go_ret
    exact ⟨by rw [HR.out]; rfl, Below.refl _ _⟩
  have hl' : ((xs.length : Int) != (ys.length : Int)) = false := by simp; omega
  have HL := Lib.hid hl
  clear hl
  go_enter Try.func58, Try.ntmps58
  go_wp2_with fail
  go_loopw [5, 13] (fun _ i wr => ∃ k : Nat, k ≤ xs.length ∧ i = .int .i64 k ∧ Hid (xs.take k = ys.take k) ∧ (∃ q, wr = w.drewN q)) (fun _ i _ => xs.length - (intOf i).toNat)
  case atStart => exact ⟨0, by omega, rfl, rfl, ⟨0, rfl⟩⟩
  case round =>
    obtain ⟨k, hk, rfl, HT, ⟨q, rfl⟩⟩ := hrel
    have i0 : (0 : Int) ≤ (k : Int) := by omega
    by_cases hlt : k < xs.length
    · have hlt2 : k < ys.length := by have := HL.out; omega
      obtain ⟨b1, o1, v1, rfl, _, h1, x1, x2, x3, _⟩ := hx.val_at hlt
      obtain ⟨b2, o2, v2, rfl, _, h2, y1, y2, y3, _⟩ := hy.val_at hlt2
      have i1 : (k : Int) < (xs.length : Int) := by omega
      have i2 : (k : Int) < (ys.length : Int) := by omega
      have rn := run_neq_value v1 v2
      clear hx hy
      by_cases hv : v1 = v2
      · rw [show v1.beq v2 = true from (GV.beq_iff v1 v2).2 hv] at rn
        have HT2 : Hid (xs.take (k + 1) = ys.take (k + 1)) := by show _ = _; rw [List.take_add_one, List.take_add_one, h1.out, h2.out, HT.out, hv]
        clear hv HT
        go_wp2_with fail
        go_quiet (fail)
        go_wp2_with fail
        go_roundw
        case rel => exact ⟨k + 1, by omega, by go_num, HT2, ⟨q + nq, rfl⟩⟩
        case measure => simp [intOf]; omega
      · have hb : v1.beq v2 = false := by rw [GV.beq_dec]; simpa using hv
        rw [hb] at rn
        have HR : Hid (r = false) := by
          show _ = _
          rw [hr.out]
          simp only [decide_eq_false_iff_not]
          intro e
          apply hv
          have a1 := h1.out
          have a2 := h2.out
          rw [e] at a1
          rw [a1] at a2
          injection a2
        clear hv hb HT
        go_wp2_with fail
        go_quiet (fail)
        go_wp2_with fail
        go_ret
        exact ⟨by rw [HR.out]; rfl, (below_drewN _ _ _).trans (below_drewN _ _ _)⟩
    · have i1 : ¬ (k : Int) < (xs.length : Int) := by omega
      have HR : Hid (r = true) := by
        show _ = _
        have a1 := HT.out
        rw [List.take_of_length_le (by omega), List.take_of_length_le (by have := HL.out; omega)] at a1
        rw [hr.out]; simpa using a1
      clear HT
      go_wp2_with fail
      go_ret
      exact ⟨by rw [HR.out]; rfl, below_drewN _ _ _⟩
set_option maxRecDepth 100000 in
theorem same1_any (A B : Option Addr) (n m c d : Nat) (xs ys : List GV) (w : World) (hx : SliceIs Enc.val w w.heap.size A n c xs) (hy : SliceIs Enc.val w w.heap.size B m d ys) :
    Calls Try.prog 57 #[.slice A n c, .slice B m d] w (RetBool (decide (xs = ys)) w) := by
  have H := Lib.hid (equalT_any A B n m c d xs ys w hx hy)
  generalize decide (xs = ys) = r at H ⊢
  clear hx hy
  go_enter Try.func57, Try.ntmps57
  go_wp2_with fail
  refine H.out.mono ?_
  rintro e w1 ⟨rfl, hb1⟩
  go_wp2_with fail
  go_ret
  exact ⟨rfl, hb1⟩

set_option maxRecDepth 100000 in
set_option maxHeartbeats 1000000 in
theorem equalFunc_any (A B : Option Addr) (n m c d : Nat) (L M : List (List GV)) (w : World) (hx : SliceIs (Enc.slice Enc.val) w w.heap.size A n c L) (hy : SliceIs (Enc.slice Enc.val) w w.heap.size B m d M) :
    Calls Try.prog 59 #[.slice A n c, .slice B m d, .func (.func 57) #[] #[]] w (RetBool (decide (L = M)) w) := by
  have hn := hx.bound
  have hm := hy.bound
  obtain rfl : L.length = n := hx.1
  obtain rfl : M.length = m := hy.1
  obtain ⟨r, hr⟩ : ∃ r, Hid (r = decide (L = M)) := ⟨_, rfl⟩
  rw [← hr.out]
  by_cases hl : L.length = M.length
  rotate_left
  · have hl' : ((L.length : Int) != (M.length : Int)) = true := by simpa using fun h => hl (by omega)
    have HR : Hid (r = false) := by show _ = _; rw [hr.out]; simpa using fun e => hl (by rw [e])
    clear hl hx hy
    go_enter Try.func59, Try.ntmps59
    go_wp2_with fail
    go_ret
    exact ⟨by rw [HR.out]; rfl, Below.refl _ _⟩
  have hl' : ((L.length : Int) != (M.length : Int)) = false := by simp; omega
  have HL := Lib.hid hl
  have HX := Lib.hid hx
  have HY := Lib.hid hy
  clear hl hx hy
  go_enter Try.func59, Try.ntmps59
  go_wp2_with fail
  go_loopw [7, 8, 9, 17] (fun _ _ _ i wr => ∃ k : Nat, k ≤ L.length ∧ i = .int .i64 k ∧ Hid (L.take k = M.take k) ∧ Below w.heap.size w wr) (fun _ _ _ i _ => L.length - (intOf i).toNat)
  case atStart => exact ⟨0, by omega, rfl, rfl, Below.refl _ _⟩
  case round =>
    obtain ⟨k, hk, rfl, HT, hbr⟩ := hrel
    have i0 : (0 : Int) ≤ (k : Int) := by omega
    by_cases hlt : k < L.length
    · have hlt2 : k < M.length := by have := HL.out; omega
      have i1 : (k : Int) < (L.length : Int) := by omega
      have i2 : (k : Int) < (M.length : Int) := by omega
      obtain ⟨b1, o1, t1, A1, n1, c1, rfl, _, h1, x1, s1⟩ := (HX.out.below hbr).slice_at hlt
      obtain ⟨b2, o2, t2, A2, n2, c2, rfl, _, h2, y1, s2⟩ := (HY.out.below hbr).slice_at hlt2
      have HS := Lib.hid (same1_any A1 A2 n1 n2 c1 c2 t1 t2 wr (s1.mono hbr.size (fun _ _ => rfl)) (s2.mono hbr.size (fun _ _ => rfl)))
      clear s1 s2
      go_wp2_with fail
      refine HS.out.mono ?_
      rintro e w2 ⟨rfl, hb2⟩
      have hb3 := below_next hbr hb2
      by_cases hv : t1 = t2
      · have HT2 : Hid (L.take (k + 1) = M.take (k + 1)) := by show _ = _; rw [List.take_add_one, List.take_add_one, h1.out, h2.out, HT.out, hv]
        simp only [hv, decide_true]
        clear hv HT HS h1 h2
        go_wp2_with fail
        go_roundw
        case rel => exact ⟨k + 1, by omega, by go_num, HT2, hb3⟩
        case measure => simp [intOf]; omega
      · have HR : Hid (r = false) := by
          show _ = _
          rw [hr.out]
          simp only [decide_eq_false_iff_not]
          intro e
          apply hv
          have a1 := h1.out
          have a2 := h2.out
          rw [e] at a1
          rw [a1] at a2
          injection a2
        simp only [hv, decide_false]
        clear hv HT HS h1 h2
        go_wp2_with fail
        go_ret
        exact ⟨by rw [HR.out]; rfl, hb3⟩
    · have i1 : ¬ (k : Int) < (L.length : Int) := by omega
      have HR : Hid (r = true) := by
        show _ = _
        have a1 := HT.out
        rw [List.take_of_length_le (by omega), List.take_of_length_le (by have := HL.out; omega)] at a1
        rw [hr.out]; simpa using a1
      clear HT
      go_wp2_with fail
      go_ret
      exact ⟨by rw [HR.out]; rfl, hbr⟩

set_option maxRecDepth 100000 in
set_option maxHeartbeats 1000000 in
theorem same_any {w : World} {S S' : List Nat} {p q : Nat} {rb rb' : Option Nat} {ar : Int} {L M : List (List GV)} (h : RelAt w S p rb ar L) (h' : RelAt w S' q rb' ar M) :
    Calls Try.prog 33 #[relP p, relP q] w (RetBool (decide (L = M)) w) := by
  obtain ⟨A, c, r1, hL⟩ := h.row
  obtain ⟨B, d, r2, hM⟩ := h'.row
  have hp := (Array.getElem?_eq_some_iff.1 r1).1
  have hq := (Array.getElem?_eq_some_iff.1 r2).1
  have H1 := Lib.hid (fun (W : World) (hb : Below w.heap.size w W) => two_yes (h.on hb) (h'.on hb))
  have H2 := Lib.hid (fun (W : World) (hb : Below w.heap.size w W) => equalFunc_any A B L.length M.length c d L M W (hL.mono hb.size hb.block) (hM.mono hb.size hb.block))
  have hk : ∀ W, Below w.heap.size w W → W.cell? ⟨p, 1, none⟩ = some (.slice A L.length c) ∧ W.cell? ⟨q, 1, none⟩ = some (.slice B M.length d) := fun W hb =>
    ⟨(cell_of_row _ _ 1 _ _ _ ((hb.block p hp).trans r1)).trans rfl, (cell_of_row _ _ 1 _ _ _ ((hb.block q hq).trans r2)).trans rfl⟩
  have Hk := Lib.hid hk
  generalize decide (L = M) = r at H2 ⊢
  clear h h' hL hM r1 r2 hk
  unfold relP at H1 ⊢
  go_enter Try.func33, Try.ntmps33
  go_wp2_with fail
  have hb0 := Below.refl w.heap.size w
  go_region_held3 (fun w' => w'.cell? ⟨p, 1, none⟩ = some (.slice A L.length c) ∧ w'.cell? ⟨q, 1, none⟩ = some (.slice B M.length d))
    (first
      | (refine Hk.out _ ?_; (repeat (first | with_reducible exact Below.refl _ _ | with_reducible assumption | with_reducible refine Below.drew ?_)); done)
      | go_keep)
    ((first
      | (go_at_call 54
         with_reducible refine (H1.out _ ?s1).mono ?_
         case s1 => repeat (first | with_reducible exact Below.refl _ _ | with_reducible assumption | with_reducible refine Below.drew ?_)
         rintro e w1 ⟨rfl, hq1⟩
         have hb1 : Below w.heap.size w w1 := below_next (Below.drew (Below.refl _ _)) hq1)
      | (go_at_call 59
         with_reducible refine (H2.out _ ?s1).mono ?_
         case s1 => repeat (first | with_reducible exact Below.refl _ _ | with_reducible assumption | with_reducible refine Below.drew ?_)
         rintro e w2 ⟨rfl, hq2⟩
         have hb2 : Below w.heap.size w w2 := below_next hb1 hq2)))
  all_goals
    go_wp2_with fail
    go_ret
    exact ⟨rfl, hb2⟩
end Go.Proofs.Ytgomfmfaoeojkaa
