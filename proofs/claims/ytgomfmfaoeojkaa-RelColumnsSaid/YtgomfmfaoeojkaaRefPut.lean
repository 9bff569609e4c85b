/- The document's Put: a relation with a tuple more. -/
import Derived.Test.YtgomfmfaoeojkaaRelIs
import Derived.Test.YtgomfmfaoeojkaaInsert
import Derived.Test.YtgomfmfaoeojkaaOpen
import Derived.Deep.RegionHeld3

namespace Go.Proofs.Ytgomfmfaoeojkaa
open Go.RowKit

/-! ### slicing -/
theorem run_slice_to {P : Program} {α : Type} {E : Enc α} {w : World} {B : Nat} {A : Option Addr} {n c : Nat} {l : List α} (h : SliceIs E w B A n c l) {t e : TypeId} (ht : P.underlying t = some (.slice e)) {i : TypeInfo} (hi : P.info? e = some i) {k : Nat} (hk : k ≤ n) :
    (∀ W, (Instr.sliceAt t (.slice A n c) none (some (.int .i64 (k : Int))) none).run P W = .ok (.slice A k c) W) ∧ SliceIs E w B A k c (l.take k) := by
  obtain ⟨h1, h2, h3, h4, h5⟩ := h
  refine ⟨?_, by rw [List.length_take]; omega, by omega, h3, by omega, ?_⟩
  · intro W
    have e0 : A.map (fun x : Addr => x.add 0) = A := by
      cases A with
      | none => rfl
      | some a => simp [Addr.add]
    simp [Instr.sliceAt, Instr.slice, Instr.sliceBounds, Instr.sliceBound, asIntOf, run_underlying ht, sizeOf, typeInfo, hi, e0]
    intro h; omega
  · rcases h5 with h5 | ⟨b, o, rfl, hb, hc⟩
    · left; rw [h5]; simp
    · right
      refine ⟨b, o, rfl, hb, fun i x hx => hc i x ?_⟩
      rw [List.getElem?_take] at hx
      split at hx
      · exact hx
      · cases hx
theorem run_slice_from {P : Program} {α : Type} {E : Enc α} {w : World} {B : Nat} {A : Option Addr} {n c : Nat} {l : List α} (h : SliceIs E w B A n c l) {t e : TypeId} (ht : P.underlying t = some (.slice e)) {i : TypeInfo} (hi : P.info? e = some i) (hs : i.size = E.sz) {k : Nat} (hk : k ≤ n) :
    (∀ W, (Instr.sliceAt t (.slice A n c) (some (.int .i64 (k : Int))) none none).run P W = .ok (.slice (if c = k then A else A.map (fun x : Addr => x.add (k * i.size))) (n - k) (c - k)) W) ∧ SliceIs E w B (if c = k then A else A.map (fun x : Addr => x.add (k * i.size))) (n - k) (c - k) (l.drop k) := by
  obtain ⟨h1, h2, h3, h4, h5⟩ := h
  refine ⟨?_, ?_⟩
  · intro W
    simp [Instr.sliceAt, Instr.slice, Instr.sliceBounds, Instr.sliceBound, asIntOf, run_underlying ht, sizeOf, typeInfo, hi]
    intro h; omega
  · refine ⟨by rw [List.length_drop]; omega, by omega, by omega, by omega, ?_⟩
    rcases h5 with h5 | ⟨b, o, rfl, hb, hc⟩
    · left; rw [h5]; simp
    · by_cases hck : c = k
      · left; apply List.eq_nil_of_length_eq_zero; rw [List.length_drop]; omega
      · right
        rw [if_neg hck]
        refine ⟨b, o + k * E.sz, by simp [Addr.add, hs], hb, fun j x hx => ?_⟩
        rw [List.getElem?_drop] at hx
        obtain ⟨cs, hok, hcs⟩ := hc (k + j) x hx
        refine ⟨cs, hok, fun q v hv => ?_⟩
        have := hcs q v hv
        rwa [show o + (k + j) * E.sz + q = o + k * E.sz + j * E.sz + q by rw [Nat.add_mul]; omega] at this
theorem wpList_slice_run {P : Program} {w : World} {ops : Array Oper} {rest : List Oper} {o : Oper} {a : Act} {Q : Exit → Act → World → Prop} {v' : Value} (hg : o.guard = none) (t : TypeId) (x : Operand) (lo hi : Option Operand)
    (ho : o.op = .slice t x lo hi none) (xv : Value) (lov hiv : Option Value) (hx : a.eval x = xv) (hlo : lo.map a.eval = lov) (hhi : hi.map a.eval = hiv)
    (hrun : (Instr.sliceAt t xv lov hiv none).run P w = .ok v' w) (h : wpList P ops Q rest (a.put o.dst v') w) : wpList P ops Q (o :: rest) a w :=
  wpList_plain hg fun K hK => by
    unfold Oper.wp execOp
    subst hx hlo hhi
    simp only [ho, Option.map_none, Sem.run_bind, hrun, Result.andThen_ok, Sem.run_pure]
    exact hK _ _ h

theorem cell_set2 {W : World} {g h i j k : Nat} {u v : Value} (hne : g ≠ h) : ((W.setCell ⟨h, i, none⟩ u).setCell ⟨h, j, none⟩ v).cell? ⟨g, k, none⟩ = W.cell? ⟨g, k, none⟩ := by
  unfold World.cell?
  rw [World.heap_setCells_other' hne, World.heap_setCells_other' hne]
theorem step_slice_run {P : Program} {w : World} {ops : Array Oper} {o : Oper} {a : Act} {K : Act → World → Prop} {Q : Exit → Act → World → Prop} {E : Prop} {v' : Value} (hgd : o.guard = none) (t : TypeId) (x : Operand) (lo hi : Option Operand)
    (ho : o.op = .slice t x lo hi none) (xv : Value) (lov hiv : Option Value) (hx : a.eval x = xv) (hlo : lo.map a.eval = lov) (hhi : hi.map a.eval = hiv)
    (hrun : (Instr.sliceAt t xv lov hiv none).run P w = .ok v' w) (h : K (a.put o.dst v') w) :
    if Region.wanted o (yielded ops a.tmps) = true then Oper.wp P o a w K Q else E := by
  rw [if_pos (by simp [Region.wanted, hgd])]
  unfold Oper.wp execOp
  subst hx hlo hhi
  simp only [ho, Option.map_none, Sem.run_bind, hrun, Result.andThen_ok, Sem.run_pure]
  exact h

/-! ### rows of slices -/
def HdrIs (W : World) (xs : List Value) (L : List (List GV)) : Prop := xs.length = L.length ∧ ∀ (i : Nat) (t : List GV), L[i]? = some t → ∃ (B : Option Addr) (n d : Nat), xs[i]? = some (Value.slice B n d) ∧ SliceIs Enc.val W W.heap.size B n d t
theorem HdrIs.on {w w' : World} {xs : List Value} {L : List (List GV)} (h : HdrIs w xs L) (hb : Below w.heap.size w w') : HdrIs w' xs L :=
  ⟨h.1, fun i t hi => by obtain ⟨B, n, d, h1, h2⟩ := h.2 i t hi; exact ⟨B, n, d, h1, h2.mono hb.size hb.block⟩⟩
theorem HdrIs.far {w w' : World} {S : List Nat} {xs : List Value} {L : List (List GV)} (h : HdrIs (sans w S) xs L) (hb : Below w.heap.size w w') : HdrIs (sans w' S) xs L :=
  ⟨h.1, fun i t hi => by
    obtain ⟨B, n, d, h1, h2⟩ := h.2 i t hi
    rw [sans_size] at h2
    refine ⟨B, n, d, h1, ?_⟩
    rw [sans_size]
    exact SliceFar.on (S := S) h2 hb⟩
theorem HdrIs.app {w : World} {xs ys : List Value} {L M : List (List GV)} (h : HdrIs w xs L) (h' : HdrIs w ys M) : HdrIs w (xs ++ ys) (L ++ M) := by
  refine ⟨by rw [List.length_append, List.length_append, h.1, h'.1], fun i t hi => ?_⟩
  rcases Nat.lt_or_ge i L.length with hlt | hge
  · rw [List.getElem?_append_left hlt] at hi
    obtain ⟨B, n, d, h1, h2⟩ := h.2 i t hi
    exact ⟨B, n, d, by rw [List.getElem?_append_left (by rw [h.1]; exact hlt)]; exact h1, h2⟩
  · rw [List.getElem?_append_right hge] at hi
    obtain ⟨B, n, d, h1, h2⟩ := h'.2 _ t hi
    exact ⟨B, n, d, by rw [List.getElem?_append_right (by rw [h.1]; exact hge), h.1]; exact h1, h2⟩
theorem HdrIs.one {w : World} {B : Option Addr} {n d : Nat} {t : List GV} (h : SliceIs Enc.val w w.heap.size B n d t) : HdrIs w [.slice B n d] [t] := by
  refine ⟨rfl, fun i u hi => ?_⟩
  match i, hi with
  | 0, hi => simp at hi; subst hi; exact ⟨B, n, d, rfl, h⟩
  | i + 1, hi => simp at hi
theorem HdrIs.nil {w : World} : HdrIs w [] [] := ⟨rfl, fun i t hi => by simp at hi⟩
theorem HdrIs.take {w : World} {xs : List Value} {L : List (List GV)} (h : HdrIs w xs L) (k : Nat) : HdrIs w (xs.take k) (L.take k) := by
  refine ⟨by rw [List.length_take, List.length_take, h.1], fun i t hi => ?_⟩
  rw [List.getElem?_take] at hi
  split at hi
  · obtain ⟨B, n, d, h1, h2⟩ := h.2 i t hi
    exact ⟨B, n, d, by rw [List.getElem?_take, if_pos ‹_›]; exact h1, h2⟩
  · cases hi
theorem HdrIs.drop {w : World} {xs : List Value} {L : List (List GV)} (h : HdrIs w xs L) (k : Nat) : HdrIs w (xs.drop k) (L.drop k) := by
  refine ⟨by rw [List.length_drop, List.length_drop, h.1], fun i t hi => ?_⟩
  rw [List.getElem?_drop] at hi
  obtain ⟨B, n, d, h1, h2⟩ := h.2 _ t hi
  exact ⟨B, n, d, by rw [List.getElem?_drop]; exact h1, h2⟩
theorem to_hdr {w : World} {A : Option Addr} {n c : Nat} {L : List (List GV)} (h : SliceIs (Enc.slice Enc.val) w w.heap.size A n c L) : ∃ hs, SliceIs Enc.hdr w w.heap.size A n c hs ∧ HdrIs w (hs.map hdr) L := by
  obtain ⟨h1, h2, h3, h4, h5⟩ := h
  rcases h5 with h5 | ⟨b, o, rfl, hb, hc⟩
  · subst h5
    simp at h1; subst h1
    exact ⟨[], ⟨rfl, h2, h3, h4, .inl rfl⟩, HdrIs.nil⟩
  · obtain ⟨hs, hl, hq⟩ := choose_list (Q := fun i (x : Option Addr × Nat × Nat) => ∃ t, L[i]? = some t ∧ w.cell? ⟨b, o + i, none⟩ = some (hdr x) ∧ SliceIs Enc.val w w.heap.size x.1 x.2.1 x.2.2 t) n (fun i hi => by
      have hx := List.getElem?_eq_getElem (l := L) (i := i) (by omega)
      obtain ⟨cs, ⟨A', n', c', rfl, hf⟩, hcs⟩ := hc i _ hx
      exact ⟨(A', n', c'), _, hx, by simpa [Enc.slice, hdr] using hcs 0 _ rfl, hf⟩)
    refine ⟨hs, ⟨hl, h2, h3, h4, .inr ⟨b, o, rfl, hb, fun i x hx => ⟨[hdr x], rfl, fun j v hv => ?_⟩⟩⟩, by rw [List.length_map]; omega, fun i t hi => ?_⟩
    · obtain ⟨t, -, hcell, -⟩ := hq i x hx
      match j, hv with
      | 0, hv => simp at hv; subst hv; simpa [Enc.hdr] using hcell
    · have hil : i < hs.length := by rw [hl, ← h1]; exact (List.getElem?_eq_some_iff.1 hi).1
      obtain ⟨t', ht', -, hs'⟩ := hq i _ (List.getElem?_eq_getElem hil)
      rw [hi] at ht'; injection ht' with ht'; subst ht'
      exact ⟨_, _, _, by rw [List.getElem?_map, List.getElem?_eq_getElem hil]; rfl, hs'⟩
theorem SliceIs.of_hdr {w : World} {base : Nat} {A : Option Addr} {n c : Nat} {xs : List Value} {L : List (List GV)} (h : w.ownsRow base 24 1 (.slice A n c) n xs) (hx : HdrIs w xs L) (hr : n ≤ reachN) : SliceIs (Enc.slice Enc.val) w w.heap.size A n c L := by
  have hlen : xs.length = n := by have := h.1; omega
  refine SliceIs.of_own (E := Enc.slice Enc.val) h (by rw [← hx.1]; exact hlen) hr fun i t hi => ?_
  obtain ⟨B, m, d, h1, h2⟩ := hx.2 i t hi
  refine ⟨B, m, d, ?_, h2⟩
  show (xs.drop (i * 1)).take 1 = _
  obtain ⟨hlt, he⟩ := List.getElem?_eq_some_iff.1 h1
  rw [Nat.mul_one, List.drop_eq_getElem_cons hlt, he]
  rfl
theorem grown_out {w w' : World} {row : Option Nat} (h : w.grownBy w' row) : Out row.toList w w' :=
  ⟨h.os, h.tape, h.output, h.size, fun b hb hr => h.block b hb (fun e => hr (by simp [← e]))⟩
theorem to_far {w : World} {S : List Nat} {A : Option Addr} {n c : Nat} {L : List (List GV)} (h : SliceFar (Enc.slice Enc.val) w S A n c L) : ∃ hs, SliceIs Enc.hdr w w.heap.size A n c hs ∧ HdrIs (sans w S) (hs.map hdr) L := by
  obtain ⟨hs, h1, h2⟩ := to_hdr (w := sans w S) (by rw [sans_size]; exact h)
  rw [sans_size] at h1
  exact ⟨hs, SliceFar.is (S := S) h1, h2⟩
theorem of_far {w : World} {S : List Nat} {base : Nat} {A : Option Addr} {n c : Nat} {xs : List Value} {L : List (List GV)} (h : w.ownsRow base 24 1 (.slice A n c) n xs) (hb : ∀ b ∈ S, b < base) (hx : HdrIs (sans w S) xs L) (hr : n ≤ reachN) : SliceFar (Enc.slice Enc.val) w S A n c L := by
  have h1 := SliceIs.of_hdr (own_sans h (fun b hb1 hbS => by have := (own_blk h hb1).1; have := hb b hbS; omega)) hx hr
  rw [sans_size] at h1
  exact h1
/-- append of a list of tuples onto a row of the call's own -/
theorem rows_app {W : World} {base B : Nat} {v : Value} {n : Nat} {xs : List Value} (hown : W.ownsRow base 24 1 v n xs) {A : Option Addr} {m c : Nat} {hs : List (Option Addr × Nat × Nat)} (hl : SliceIs Enc.hdr W B A m c hs) (hn : n + m ≤ 1000000) (hb : base ≤ W.heap.size) :
    ∃ A' c' w', (∀ ty, (Builtin.append_ #[22, 22] ty #[v, .slice A m c]).run Try.prog W = .ok (.slice A' (n + m) c') w') ∧ w'.ownsRow base 24 1 (.slice A' (n + m) c') (n + m) (xs ++ hs.map hdr) ∧ Out v.ownBlock.toList W w' ∧ Below base W w' := by
  obtain ⟨v', w', h1, h2, h3, h4⟩ := run_append_slice (P := Try.prog) (E := Enc.hdr) (B := B) (ty := 22) (fun x => [hdr x]) (fun _ => rfl) (fun h => h) (fun x u hu => by simp at hu; subst hu; rfl) W (base := base) Try.underlying22 tup_info rfl (by decide)
    hown hl (by simp [maxLen]; omega) (by omega) hb
  rw [flat_hdr] at h2
  obtain ⟨A', c', rfl⟩ := own_form h2
  exact ⟨A', c', w', fun _ => h1, h2, grown_out h3, h4⟩
/-- append of one tuple that lies in block g -/
theorem rows_push {W : World} {base g : Nat} {v : Value} {n : Nat} {xs : List Value} (hown : W.ownsRow base 24 1 v n xs) {B : Option Addr} {m d : Nat} (hg : W.heap[g]? = some (.cells #[.slice B m d] 24 (0, 0))) (hn : n + 1 ≤ 1000000) (hb : base ≤ W.heap.size) :
    ∃ A' c' w', (∀ ty, (Builtin.append_ #[22, 22] ty #[v, .slice (some ⟨g, 0, none⟩) 1 1]).run Try.prog W = .ok (.slice A' (n + 1) c') w') ∧ w'.ownsRow base 24 1 (.slice A' (n + 1) c') (n + 1) (xs ++ [.slice B m d]) ∧ Out v.ownBlock.toList W w' ∧ Below base W w' := by
  obtain ⟨v', w', h1, h2, h3, h4⟩ := run_push_at (P := Try.prog) (ty := 22) W (base := base) Try.underlying22 tup_info rfl (by decide) hown g [.slice B m d] rfl hg (by intro u hu; simp at hu; subst hu; rfl)
    (by simp [maxLen]; omega) (by omega) hb
  obtain ⟨A', c', rfl⟩ := own_form h2
  exact ⟨A', c', w', fun _ => h1, h2, grown_out h3, h4⟩

/-- what a function of the document's relations hands back -/
theorem set_zero2 {W : World} {g e : Nat} {a b v : Value} (h : W.heap[g]? = some (.cells #[a, b] e (0, 0))) : (W.setCell ⟨g, 0, none⟩ v).heap[g]? = some (.cells #[v, b] e (0, 0)) := by
  simp [World.setCell, Array.getElem?_modify, h]
theorem own_ne {w : World} {b1 e1 s1 n1 b2 e2 s2 n2 : Nat} {v1 v2 : Value} {xs ys : List Value} (h1 : w.ownsRow b1 e1 s1 v1 n1 xs) (h2 : w.ownsRow b2 e2 s2 v2 n2 ys) (he : e1 ≠ e2) : ∀ b, v1.ownBlock = some b → b ∉ v2.ownBlock.toList := by
  intro b hb hb'
  rw [Option.mem_toList] at hb'
  have k1 : ∃ cs, w.heap[b]? = some (.cells cs e1 (0, 0)) := by
    rcases h1.2 with ⟨rfl, _⟩ | ⟨g, cap, cur, rfl, hg, hh, _⟩
    · cases hb
    · injection hb with hb; subst hb; exact ⟨_, hh⟩
  have k2 : ∃ cs, w.heap[b]? = some (.cells cs e2 (0, 0)) := by
    rcases h2.2 with ⟨rfl, _⟩ | ⟨g, cap, cur, rfl, hg, hh, _⟩
    · cases hb'
    · have hb' : some g = some b := hb'
      injection hb' with hb'; subst hb'; exact ⟨_, hh⟩
  obtain ⟨c1, k1⟩ := k1
  obtain ⟨c2, k2⟩ := k2
  rw [k1] at k2
  injection k2 with k2
  injection k2 with _ k2 _
  exact he k2
def RefRel (S : List Nat) (ar : Int) (L : List (List GV)) (w : World) (e : Ending) (w' : World) : Prop :=
  ∃ A c, e = .returned (.agg #[.int .i64 ar, .slice A L.length c]) ∧ SliceFar (Enc.slice Enc.val) w' S A L.length c L ∧ Below w.heap.size w w'
def putL (L : List (List GV)) (t : List GV) : List (List GV) := if t ∈ L then L else insL L t
theorem pos_next {L : List (List GV)} {t x : List GV} {k : Nat} (hk : k ≤ posL L t) (hx : L[k]? = some x) : (lessL x t = true → k + 1 ≤ posL L t) ∧ (lessL x t = false → k = posL L t) := by
  constructor
  · intro h
    rcases Nat.lt_or_ge k (posL L t) with h1 | h1
    · exact h1
    · have e : k = posL L t := by omega
      exfalso
      have hlt := (List.getElem?_eq_some_iff.1 hx).1
      have h2 : ∀ (M : List (List GV)) (j : Nat), j = (M.takeWhile fun x => lessL x t).length → ∀ y, M[j]? = some y → lessL y t = false := by
        intro M
        induction M with
        | nil => intro j hj y hy; simp at hy
        | cons a M ih =>
          intro j hj y hy
          rw [List.takeWhile_cons] at hj
          cases ha : lessL a t with
          | true =>
            simp only [ha, if_true, List.length_cons] at hj
            subst hj
            exact ih _ rfl y (by simpa using hy)
          | false =>
            simp only [ha] at hj
            simp at hj; subst hj
            simp at hy; subst hy; exact ha
      rw [h2 L k e x hx] at h; cases h
  · intro h
    rcases Nat.lt_or_ge k (posL L t) with h1 | h1
    · have := pos_ahead h1 hx
      rw [(less_iff x t).2 this] at h; cases h
    · omega

theorem put_end {w w9 : World} {S : List Nat} {b1 b2 k g i j : Nat} {u v : Value} {A' A5 : Option Addr} {c' c5 : Nat} {xs : List Value} {L : List (List GV)} {t : List GV} (hown : w9.ownsRow b1 24 1 (.slice A' (L.length + 1) c') (L.length + 1) ((xs.take k ++ [.slice A5 t.length c5]) ++ xs.drop k))
    (ht : w9.ownsRow b2 56 3 (.slice A5 t.length c5) t.length (t.flatMap GV.cells)) (hx : HdrIs (sans w S) xs L) (hS : ∀ b ∈ S, b < w.heap.size) (hb : Below w.heap.size w w9) (hg : w.heap.size ≤ g) (h1 : g < b1) (h2 : g < b2) (hok : ∀ x ∈ t, x.ok) (hn : L.length ≤ 100000) (hm : t.length ≤ 100000) :
    SliceFar (Enc.slice Enc.val) ((w9.setCell ⟨g, i, none⟩ u).setCell ⟨g, j, none⟩ v) S A' (L.length + 1) c' (L.take k ++ ([t] ++ L.drop k)) ∧ Below w.heap.size w ((w9.setCell ⟨g, i, none⟩ u).setCell ⟨g, j, none⟩ v) := by
  have ho : Out [g] w9 ((w9.setCell ⟨g, i, none⟩ u).setCell ⟨g, j, none⟩ v) := (set_out w9 g i u).trans (set_out _ g j v) (fun b hb _ => hb)
  have hbe : Below w.heap.size w ((w9.setCell ⟨g, i, none⟩ u).setCell ⟨g, j, none⟩ v) := (hb.setCell (by simpa using hg) _).setCell (by simpa using hg) _
  have o1 := own_out' hown ho (fun b hb hb' => by have := (own_blk hown hb).1; simp at hb'; omega)
  have o2 := own_out' ht ho (fun b hb hb' => by have := (own_blk ht hb).1; simp at hb'; omega)
  have hx' := hx.far hbe
  have hT : SliceIs Enc.val (sans ((w9.setCell ⟨g, i, none⟩ u).setCell ⟨g, j, none⟩ v) S) (sans ((w9.setCell ⟨g, i, none⟩ u).setCell ⟨g, j, none⟩ v) S).heap.size A5 t.length c5 t :=
    TupOwn.is (base := b2) (own_sans o2 (fun b hb hbS => by have := (own_blk o2 hb).1; have := hS b hbS; omega)) rfl (by simp [reachN]; omega) hok
  refine ⟨of_far o1 (fun b hb => by have := hS b hb; omega) ?_ (by simp [reachN]; omega), hbe⟩
  rw [List.append_assoc]
  exact (hx'.take k).app ((HdrIs.one hT).app (hx'.drop k))

set_option maxRecDepth 100000 in
set_option maxHeartbeats 4000000 in
theorem refPut_any (ar : Int) (A B : Option Addr) (n c m d : Nat) (L : List (List GV)) (t : List GV) (w : World) (S : List Nat) (hS : ∀ b ∈ S, b < w.heap.size) (hl' : SliceFar (Enc.slice Enc.val) w S A n c L) (ht : SliceIs Enc.val w w.heap.size B m d t) (hn : n ≤ 100000) (hm : m ≤ 100000) :
    Calls Try.prog 49 #[.agg #[.int .i64 ar, .slice A n c], .slice B m d] w (RefRel S ar (putL L t) w) := by
  have hl := hl'.is
  have HL := Lib.hid hl
  have HFar := Lib.hid hl'
  have HSS := Lib.hid hS
  have HT := Lib.hid ht
  obtain rfl : L.length = n := hl.1
  obtain rfl : t.length = m := ht.1
  have Hok := Lib.hid (vals_ok ht)
  have HH := Lib.hid (fun (W : World) (hb : Below w.heap.size w W) => refHas_any ar A B L.length c t.length d L t W (hl.mono hb.size hb.block) (ht.mono hb.size hb.block))
  obtain ⟨R, HRR⟩ : ∃ R, Hid (R = putL L t) := ⟨_, rfl⟩
  rw [← HRR.out]
  clear hl ht hl' hS
  go_enter Try.func49, Try.ntmps49
  go_wp2_with fail
  have hb1 : Below w.heap.size w ((w.alloc (.cells #[.int .i64 ar, .slice A L.length c] 47)).alloc (.cells #[.int .i64 0, .slice none 0 0] 47)) := belowA (belowA (Below.refl _ _) _) _
  have hr0 : ((w.alloc (.cells #[.int .i64 ar, .slice A L.length c] 47)).alloc (.cells #[.int .i64 0, .slice none 0 0] 47)).heap[w.heap.size]? = some (.cells #[.int .i64 ar, .slice A L.length c] 47 (0, 0)) := heapOld (heapNew rfl)
  have hr1 : ((w.alloc (.cells #[.int .i64 ar, .slice A L.length c] 47)).alloc (.cells #[.int .i64 0, .slice none 0 0] 47)).heap[w.heap.size + 1]? = some (.cells #[.int .i64 0, .slice none 0 0] 47 (0, 0)) := heapNew (by simp)
  generalize ((w.alloc (.cells #[.int .i64 ar, .slice A L.length c] 47)).alloc (.cells #[.int .i64 0, .slice none 0 0] 47)) = w1 at *
  have HH1 := Lib.hid (HH.out w1 hb1)
  refine HH1.out.mono ?_
  rintro e w2 ⟨rfl, hb2⟩
  replace hr0 := (hb2.block _ (Array.getElem?_eq_some_iff.1 hr0).1).trans hr0
  replace hr1 := (hb2.block _ (Array.getElem?_eq_some_iff.1 hr1).1).trans hr1
  replace hb1 := below_next hb1 hb2
  clear hb2 HH1 HH
  have c0 : w2.cell? ⟨w.heap.size, 0, none⟩ = some (.int .i64 ar) := (cell_of_row _ _ 0 _ _ _ hr0).trans rfl
  have c1 : w2.cell? ⟨w.heap.size, 1, none⟩ = some (.slice A L.length c) := (cell_of_row _ _ 1 _ _ _ hr0).trans rfl
  have f0 : w2.frozen? ⟨w.heap.size + 1, 0, none⟩ = false := frozen_of_row _ _ _ _ _ hr1
  by_cases hin : t ∈ L
  · simp only [hin, decide_true]
    have HP : Hid (R = L) := by show _ = _; rw [HRR.out]; simp [putL, hin]
    clear hin HRR
    have d0 : w2.cell? ⟨w.heap.size + 1, 0, none⟩ = some (.int .i64 0) := (cell_of_row _ _ 0 _ _ _ hr1).trans rfl
    have d1 : w2.cell? ⟨w.heap.size + 1, 1, none⟩ = some (.slice none 0 0) := (cell_of_row _ _ 1 _ _ _ hr1).trans rfl
    have f1 : w2.frozen? ⟨w.heap.size + 1, 1, none⟩ = false := frozen_of_row _ _ _ _ _ hr1
    go_wp2_with fail
    have e1 := set_zero2 (v := .int .i64 ar) hr1
    have e2 := set_one (v := .slice A L.length c) e1
    have z0 : ((w2.setCell ⟨w.heap.size + 1, 0, none⟩ (.int .i64 ar)).setCell ⟨w.heap.size + 1, 1, none⟩ (.slice A L.length c)).cell? ⟨w.heap.size + 1, 0, none⟩ = some (.int .i64 ar) := (cell_of_row _ _ 0 _ _ _ e2).trans rfl
    have z1 : ((w2.setCell ⟨w.heap.size + 1, 0, none⟩ (.int .i64 ar)).setCell ⟨w.heap.size + 1, 1, none⟩ (.slice A L.length c)).cell? ⟨w.heap.size + 1, 1, none⟩ = some (.slice A L.length c) := (cell_of_row _ _ 1 _ _ _ e2).trans rfl
    have hbe : Below w.heap.size w ((w2.setCell ⟨w.heap.size + 1, 0, none⟩ (.int .i64 ar)).setCell ⟨w.heap.size + 1, 1, none⟩ (.slice A L.length c)) := (hb1.setCell (by simp) _).setCell (by simp) _
    refine bodyPost_ret (v := .agg #[.int .i64 ar, .slice A L.length c]) (by simp [results, Try.results49, go_sem, z0, z1]) rfl ?_
    rw [HP.out]
    exact ⟨A, c, rfl, HFar.out.on hbe, hbe⟩
  · simp only [hin, decide_false]
    have HP : Hid (R = L.take (posL L t) ++ ([t] ++ L.drop (posL L t))) := by show _ = _; rw [HRR.out]; simp [putL, hin, insL]
    clear hin HRR
    have HL2 := Lib.hid (HL.out.mono hb1.size hb1.block)
    have HT2 := Lib.hid (HT.out.mono hb1.size hb1.block)
    go_wp2_with fail
    go_loopw [5] (fun i wr => ∃ k : Nat, k ≤ posL L t ∧ i = .int .i64 k ∧ Below w2.heap.size w2 wr) (fun i _ => L.length - (intOf i).toNat)
    case atStart => exact ⟨0, Nat.zero_le _, rfl, Below.refl _ _⟩
    case round =>
      obtain ⟨k, hk, rfl, hbr⟩ := hrel
      have hpl := posL_le L t
      have i0 : (0 : Int) ≤ (k : Int) := by omega
      have cr0 : wr.cell? ⟨w.heap.size, 0, none⟩ = some (.int .i64 ar) := below_cell hbr c0
      have cr1 : wr.cell? ⟨w.heap.size, 1, none⟩ = some (.slice A L.length c) := below_cell hbr c1
      by_cases hlt : k < L.length
      · have i1 : (k : Int) < (L.length : Int) := by omega
        obtain ⟨b, o, x, A1, n1, c1', rfl, hb, hx, hc, h1⟩ := (HL2.out.below hbr).slice_at hlt
        have HS := Lib.hid (refTLess_any A1 B n1 c1' t.length d x t wr (h1.mono hbr.size (fun _ _ => rfl)) (HT2.out.mono hbr.size hbr.block))
        obtain ⟨p1, p2⟩ := pos_next hk hx.out
        clear h1
        go_wp2_with fail
        refine HS.out.mono ?_
        rintro e w3 ⟨rfl, hb3⟩
        have hb4 : Below w2.heap.size w2 w3 := below_next hbr hb3
        cases hless : lessL x t with
        | true =>
          have hk1 := p1 hless
          clear p1 p2 hless HS
          go_wp2_with fail
          go_roundw
          case rel => exact ⟨k + 1, hk1, by go_num, hb4⟩
          case measure => simp [intOf]; omega
        | false =>
          have hk1 := p2 hless
          clear p1 p2 hless HS
          clear hc hx
          generalize (some (⟨b, o, none⟩ : Addr)) = A at *
          have HPk : Hid (R = L.take k ++ ([t] ++ L.drop k)) := by show _ = _; rw [hk1]; exact HP.out
          have hb5 : Below w.heap.size w w3 := below_next hb1 hb4
          have hc0 := below_cell hb4 c0
          have hc1 := below_cell hb4 c1
          have hr13 := (hb4.block _ (Array.getElem?_eq_some_iff.1 hr1).1).trans hr1
          have hr13l := (Array.getElem?_eq_some_iff.1 hr13).1
          obtain ⟨hs, hhs0, hhd⟩ := to_far HFar.out
          have hhs : SliceIs Enc.hdr w3 w3.heap.size _ L.length c hs := hhs0.mono hb5.size hb5.block
          have hkn : k ≤ L.length := by omega
          obtain ⟨ti, hti, hti1⟩ : ∃ ti, Try.prog.info? 24 = some ti ∧ ti.size = 1 := by
            obtain ⟨i0, hi, -, hz1, -⟩ := info_parts tup_info
            exact ⟨i0, hi, hz1⟩
          obtain ⟨hrun1, hsl1⟩ := run_slice_to hhs Try.underlying22 hti hkn
          have hbA : Below w3.heap.size w3 (w3.alloc (.cells #[] 24)) := belowA (Below.refl _ _) _
          obtain ⟨A2, c2, w4, hrun2, hown2, hout2, hbl2⟩ := rows_app (W := w3.alloc (.cells #[] 24)) (base := w3.heap.size) (own_empty (Nat.le_refl _) (heapNew rfl)) (hsl1.below hbA) (by omega) hbA.size
          rw [Nat.zero_add] at hrun2 hown2
          have hb34 : Below w3.heap.size w3 w4 := hbA.trans hbl2
          have hb34s := hb34.size
          have hbB : Below w4.heap.size w4 (w4.alloc (.cells #[] 56)) := belowA (Below.refl _ _) _
          obtain ⟨v5, w5, hrun3, hown3, hb45⟩ := clone_app (w := w4) (W := w4.alloc (.cells #[] 56)) (g := w4.heap.size) ((HT2.out.mono hb4.size hb4.block).mono hb34.size hb34.block) (by omega) hbB (Nat.le_refl _) (heapNew rfl)
          obtain ⟨A5, c5, rfl⟩ := own_form hown3
          have hbC : Below w5.heap.size w5 (w5.alloc (.cells #[.slice A5 t.length c5] 24)) := belowA (Below.refl _ _) _
          have hown2' := own_below (own_below hown2 hb45) hbC
          have hown3' := own_below hown3 hbC
          have hb35 : Below w3.heap.size w3 w5 := below_next hb34 hb45
          obtain ⟨A6, c6, w6, hrun4, hown4, hout4, hbl4⟩ := rows_push (W := w5.alloc (.cells #[.slice A5 t.length c5] 24)) hown2' (heapNew (g := w5.heap.size) rfl) (by omega) (by have := hb35.size; simp; omega)
          have hown5 : w6.ownsRow w4.heap.size 56 3 (.slice A5 t.length c5) t.length (t.flatMap GV.cells) := own_out' hown3' hout4 (own_ne hown3' hown2' (by decide))
          have hb36 : Below w3.heap.size w3 w6 := hb35.trans ((hbC.mono hb35.size).trans hbl4)
          obtain ⟨hrun5, hsl5⟩ := run_slice_from hhs Try.underlying22 hti hti1 hkn
          rw [show k * ti.size = k by rw [hti1, Nat.mul_one]] at hrun5 hsl5
          have hkc : (k : Int) ≤ (c : Int) := by have := hhs.2.1; omega
          have hkl : (k : Int) ≤ (L.length : Int) := by omega
          obtain ⟨A7, hA7⟩ : ∃ A7, (if c = k then A else Option.map (fun x : Addr => x.add k) A) = A7 := ⟨_, rfl⟩
          rw [hA7] at hrun5 hsl5
          have cA1 := cellA (o := .cells #[] 24) hc1
          have HS1 := Lib.hid hrun1
          have HK1 := Lib.hid hk1
          have HR2 := Lib.hid hrun2
          have HR3 := Lib.hid hrun3
          have HR4 := Lib.hid hrun4
          have HN9 : Hid (∀ W, Below w6.heap.size w6 W → ∃ v' w', (Builtin.append_ #[22, 22] 22 #[.slice A6 (k + 1) c6, .slice A7 (L.length - k) (c - k)]).run Try.prog W = .ok v' w' ∧
              (∃ A' c', v' = .slice A' (L.length + 1) c' ∧ w'.ownsRow w3.heap.size 24 1 (.slice A' (L.length + 1) c') (L.length + 1) (((hs.map hdr).take k ++ [.slice A5 t.length c5]) ++ (hs.map hdr).drop k) ∧ w'.ownsRow w4.heap.size 56 3 (.slice A5 t.length c5) t.length (t.flatMap GV.cells) ∧ Below w3.heap.size w3 w')) := by
            intro W hb
            obtain ⟨A', c', w', h1, h2, h3, h4⟩ := rows_app (W := W) (base := w3.heap.size) (own_below hown4 hb) (hsl5.below (hb36.trans (hb.mono hb36.size))) (by omega) (by have := hb.size; have := hb36.size; omega)
            rw [show k + 1 + (L.length - k) = L.length + 1 by omega] at h1 h2
            refine ⟨_, w', h1 _, A', c', rfl, by rw [← List.map_take, ← List.map_drop]; exact h2, own_out' (own_below hown5 hb) h3 (own_ne (own_below hown5 hb) (own_below hown4 hb) (by decide)), (hb36.trans (hb.mono hb36.size)).trans h4⟩
          have HH3 := Lib.hid hhd
          have hkL : L.length ≤ 100000 := by omega
          have hcr := Lib.hid (fun (W : World) (hb : Below w3.heap.size w3 W) => And.intro (below_cell hb hc0) (below_cell hb hc1))
          clear hrun1 hrun2 hrun3 hrun4 hrun5 hk1 cr0 cr1
          go_wp2_with (first
            | (at_builtin; refine wpList_append_run (o := ⟨some 32, _, _, _, _, _⟩) rfl _ _ _ rfl _ _ rfl rfl (HR2.out _) ?_)
            | (at_builtin; refine wpList_append_run (o := ⟨some 36, _, _, _, _, _⟩) rfl _ _ _ rfl _ _ rfl rfl (HR3.out _) ?_)
            | (at_builtin; refine wpList_append_run (o := ⟨some 38, _, _, _, _, _⟩) rfl _ _ _ rfl _ _ rfl rfl (HR4.out _) ?_))
          clear HS1 HR2 HR3 HR4 hown5 hown4 hhd hown3 hown3' hown2 hown2' hout2 hout4 hbl2 hbl4 hbA hbB hbC hb34 hb45 hb35 hsl1 hsl5 cA1 hhs HL2 HT2
          have hk36 : ∀ W, Below w6.heap.size w6 W → W.cell? ⟨w.heap.size, 0, none⟩ = some (.int .i64 ar) ∧ W.cell? ⟨w.heap.size, 1, none⟩ = some (.slice A L.length c) := fun W hb => hcr.out W (below_next hb36 hb)
          have Hk36 := Lib.hid hk36
          clear hk36
          have hdd : Below w6.heap.size w6 w6.drew := by (repeat (first | exact Below.refl _ _ | assumption | refine Below.drew ?_ | refine belowA ?_ _))
          go_region_held3 (fun w' => w'.cell? ⟨w.heap.size, 0, none⟩ = some (.int .i64 ar) ∧ w'.cell? ⟨w.heap.size, 1, none⟩ = some (.slice A L.length c))
            (first
              | (refine Hk36.out _ ?_; (repeat (first | exact Below.refl _ _ | assumption | refine Below.drew ?_ | refine belowA ?_ _)); done)
              | (exact ⟨(cell_set2 (by omega)).trans y8, (cell_set2 (by omega)).trans y81⟩)
              | go_keep)
            ((first
              | (refine step_append_ex (by rfl) (.tmp 41) (.tmp 45) _ (by rfl) _ _ (by rfl) (by rfl) _ (HN9.out _ ?a1) ?_
                 case a1 => repeat (first | exact Below.refl _ _ | refine Below.drew ?_ | refine belowA ?_ _)
                 rintro v9 w9 ⟨A9, c9, rfl, hown9, htup9, hb9⟩
                 have hr9 := (hb9.block _ hr13l).trans hr13
                 obtain ⟨y8, y81⟩ := hcr.out w9 hb9
                 have z9 : w9.frozen? ⟨w.heap.size + 1, 0, none⟩ = false := frozen_of_row _ _ _ _ _ hr9
                 have z91 : w9.frozen? ⟨w.heap.size + 1, 1, none⟩ = false := frozen_of_row _ _ _ _ _ hr9
                 have y9 : w9.cell? ⟨w.heap.size + 1, 0, none⟩ = some (.int .i64 0) := (cell_of_row _ _ 0 _ _ _ hr9).trans rfl
                 have y91 : w9.cell? ⟨w.heap.size + 1, 1, none⟩ = some (.slice none 0 0) := (cell_of_row _ _ 1 _ _ _ hr9).trans rfl)))
          all_goals
            have hb59 := hb5.trans (hb9.mono hb5.size)
            have hg4 : w3.heap.size ≤ w4.heap.size := hb34s
            obtain ⟨hfin, hbf⟩ := put_end (g := w.heap.size + 1) (i := 0) (j := 1) (u := .int .i64 ar) (v := .slice A9 (L.length + 1) c9) hown9 htup9 HH3.out HSS.out hb59 (by omega) hr13l (by omega) Hok.out hkL hm
            have e2 := set_one (v := .slice A9 (L.length + 1) c9) (set_zero2 (v := .int .i64 ar) hr9)
            have x0 := (cell_of_row _ _ 0 _ _ _ e2).trans (show _ = some (Value.int .i64 ar) from rfl)
            have x1 := (cell_of_row _ _ 1 _ _ _ e2).trans (show _ = some (Value.slice A9 (L.length + 1) c9) from rfl)
            have Hfin := Lib.hid hfin
            clear hfin hown9 htup9 e2 hr9
            go_wp2_with fail
            refine bodyPost_ret (v := .agg #[.int .i64 ar, .slice A9 (L.length + 1) c9]) (by simp [results, Try.results49, go_sem, x0, x1]) rfl ?_
            have hRl : R.length = L.length + 1 := by rw [HPk.out]; simp; omega
            exact ⟨A9, c9, by rw [hRl], by rw [hRl, HPk.out]; exact Hfin.out, hbf⟩
      · have hz := hlt
        clear hz
        have i1 : ¬ (k : Int) < (L.length : Int) := by omega
        have hk1 : k = posL L t := by omega
        obtain ⟨w3, rfl⟩ : ∃ w3, w3 = wr := ⟨_, rfl⟩
        have hb4 := hbr
        have HPk : Hid (R = L.take k ++ ([t] ++ L.drop k)) := by show _ = _; rw [hk1]; exact HP.out
        have hb5 : Below w.heap.size w w3 := below_next hb1 hb4
        have hc0 := below_cell hb4 c0
        have hc1 := below_cell hb4 c1
        have hr13 := (hb4.block _ (Array.getElem?_eq_some_iff.1 hr1).1).trans hr1
        have hr13l := (Array.getElem?_eq_some_iff.1 hr13).1
        obtain ⟨hs, hhs0, hhd⟩ := to_far HFar.out
        have hhs : SliceIs Enc.hdr w3 w3.heap.size _ L.length c hs := hhs0.mono hb5.size hb5.block
        have hkn : k ≤ L.length := by omega
        obtain ⟨ti, hti, hti1⟩ : ∃ ti, Try.prog.info? 24 = some ti ∧ ti.size = 1 := by
          obtain ⟨i0, hi, -, hz1, -⟩ := info_parts tup_info
          exact ⟨i0, hi, hz1⟩
        obtain ⟨hrun1, hsl1⟩ := run_slice_to hhs Try.underlying22 hti hkn
        have hbA : Below w3.heap.size w3 (w3.alloc (.cells #[] 24)) := belowA (Below.refl _ _) _
        obtain ⟨A2, c2, w4, hrun2, hown2, hout2, hbl2⟩ := rows_app (W := w3.alloc (.cells #[] 24)) (base := w3.heap.size) (own_empty (Nat.le_refl _) (heapNew rfl)) (hsl1.below hbA) (by omega) hbA.size
        rw [Nat.zero_add] at hrun2 hown2
        have hb34 : Below w3.heap.size w3 w4 := hbA.trans hbl2
        have hb34s := hb34.size
        have hbB : Below w4.heap.size w4 (w4.alloc (.cells #[] 56)) := belowA (Below.refl _ _) _
        obtain ⟨v5, w5, hrun3, hown3, hb45⟩ := clone_app (w := w4) (W := w4.alloc (.cells #[] 56)) (g := w4.heap.size) ((HT2.out.mono hb4.size hb4.block).mono hb34.size hb34.block) (by omega) hbB (Nat.le_refl _) (heapNew rfl)
        obtain ⟨A5, c5, rfl⟩ := own_form hown3
        have hbC : Below w5.heap.size w5 (w5.alloc (.cells #[.slice A5 t.length c5] 24)) := belowA (Below.refl _ _) _
        have hown2' := own_below (own_below hown2 hb45) hbC
        have hown3' := own_below hown3 hbC
        have hb35 : Below w3.heap.size w3 w5 := below_next hb34 hb45
        obtain ⟨A6, c6, w6, hrun4, hown4, hout4, hbl4⟩ := rows_push (W := w5.alloc (.cells #[.slice A5 t.length c5] 24)) hown2' (heapNew (g := w5.heap.size) rfl) (by omega) (by have := hb35.size; simp; omega)
        have hown5 : w6.ownsRow w4.heap.size 56 3 (.slice A5 t.length c5) t.length (t.flatMap GV.cells) := own_out' hown3' hout4 (own_ne hown3' hown2' (by decide))
        have hb36 : Below w3.heap.size w3 w6 := hb35.trans ((hbC.mono hb35.size).trans hbl4)
        obtain ⟨hrun5, hsl5⟩ := run_slice_from hhs Try.underlying22 hti hti1 hkn
        rw [show k * ti.size = k by rw [hti1, Nat.mul_one]] at hrun5 hsl5
        have hkc : (k : Int) ≤ (c : Int) := by have := hhs.2.1; omega
        have hkl : (k : Int) ≤ (L.length : Int) := by omega
        obtain ⟨A7, hA7⟩ : ∃ A7, (if c = k then A else Option.map (fun x : Addr => x.add k) A) = A7 := ⟨_, rfl⟩
        rw [hA7] at hrun5 hsl5
        have cA1 := cellA (o := .cells #[] 24) hc1
        have HS1 := Lib.hid hrun1
        have HK1 := Lib.hid hk1
        have HR2 := Lib.hid hrun2
        have HR3 := Lib.hid hrun3
        have HR4 := Lib.hid hrun4
        have HN9 : Hid (∀ W, Below w6.heap.size w6 W → ∃ v' w', (Builtin.append_ #[22, 22] 22 #[.slice A6 (k + 1) c6, .slice A7 (L.length - k) (c - k)]).run Try.prog W = .ok v' w' ∧
            (∃ A' c', v' = .slice A' (L.length + 1) c' ∧ w'.ownsRow w3.heap.size 24 1 (.slice A' (L.length + 1) c') (L.length + 1) (((hs.map hdr).take k ++ [.slice A5 t.length c5]) ++ (hs.map hdr).drop k) ∧ w'.ownsRow w4.heap.size 56 3 (.slice A5 t.length c5) t.length (t.flatMap GV.cells) ∧ Below w3.heap.size w3 w')) := by
          intro W hb
          obtain ⟨A', c', w', h1, h2, h3, h4⟩ := rows_app (W := W) (base := w3.heap.size) (own_below hown4 hb) (hsl5.below (hb36.trans (hb.mono hb36.size))) (by omega) (by have := hb.size; have := hb36.size; omega)
          rw [show k + 1 + (L.length - k) = L.length + 1 by omega] at h1 h2
          refine ⟨_, w', h1 _, A', c', rfl, by rw [← List.map_take, ← List.map_drop]; exact h2, own_out' (own_below hown5 hb) h3 (own_ne (own_below hown5 hb) (own_below hown4 hb) (by decide)), (hb36.trans (hb.mono hb36.size)).trans h4⟩
        have HH3 := Lib.hid hhd
        have hkL : L.length ≤ 100000 := by omega
        have hcr := Lib.hid (fun (W : World) (hb : Below w3.heap.size w3 W) => And.intro (below_cell hb hc0) (below_cell hb hc1))
        clear hrun1 hrun2 hrun3 hrun4 hrun5 hk1 cr0 cr1
        go_wp2_with (first
          | (at_builtin; refine wpList_append_run (o := ⟨some 32, _, _, _, _, _⟩) rfl _ _ _ rfl _ _ rfl rfl (HR2.out _) ?_)
          | (at_builtin; refine wpList_append_run (o := ⟨some 36, _, _, _, _, _⟩) rfl _ _ _ rfl _ _ rfl rfl (HR3.out _) ?_)
          | (at_builtin; refine wpList_append_run (o := ⟨some 38, _, _, _, _, _⟩) rfl _ _ _ rfl _ _ rfl rfl (HR4.out _) ?_))
        clear HS1 HR2 HR3 HR4 hown5 hown4 hhd hown3 hown3' hown2 hown2' hout2 hout4 hbl2 hbl4 hbA hbB hbC hb34 hb45 hb35 hsl1 hsl5 cA1 hhs HL2 HT2
        have hk36 : ∀ W, Below w6.heap.size w6 W → W.cell? ⟨w.heap.size, 0, none⟩ = some (.int .i64 ar) ∧ W.cell? ⟨w.heap.size, 1, none⟩ = some (.slice A L.length c) := fun W hb => hcr.out W (below_next hb36 hb)
        have Hk36 := Lib.hid hk36
        clear hk36
        have hdd : Below w6.heap.size w6 w6.drew := by (repeat (first | exact Below.refl _ _ | assumption | refine Below.drew ?_ | refine belowA ?_ _))
        go_region_held3 (fun w' => w'.cell? ⟨w.heap.size, 0, none⟩ = some (.int .i64 ar) ∧ w'.cell? ⟨w.heap.size, 1, none⟩ = some (.slice A L.length c))
          (first
            | (refine Hk36.out _ ?_; (repeat (first | exact Below.refl _ _ | assumption | refine Below.drew ?_ | refine belowA ?_ _)); done)
            | (exact ⟨(cell_set2 (by omega)).trans y8, (cell_set2 (by omega)).trans y81⟩)
            | go_keep)
          ((first
            | (refine step_append_ex (by rfl) (.tmp 41) (.tmp 45) _ (by rfl) _ _ (by rfl) (by rfl) _ (HN9.out _ ?a1) ?_
               case a1 => repeat (first | exact Below.refl _ _ | refine Below.drew ?_ | refine belowA ?_ _)
               rintro v9 w9 ⟨A9, c9, rfl, hown9, htup9, hb9⟩
               have hr9 := (hb9.block _ hr13l).trans hr13
               obtain ⟨y8, y81⟩ := hcr.out w9 hb9
               have z9 : w9.frozen? ⟨w.heap.size + 1, 0, none⟩ = false := frozen_of_row _ _ _ _ _ hr9
               have z91 : w9.frozen? ⟨w.heap.size + 1, 1, none⟩ = false := frozen_of_row _ _ _ _ _ hr9
               have y9 : w9.cell? ⟨w.heap.size + 1, 0, none⟩ = some (.int .i64 0) := (cell_of_row _ _ 0 _ _ _ hr9).trans rfl
               have y91 : w9.cell? ⟨w.heap.size + 1, 1, none⟩ = some (.slice none 0 0) := (cell_of_row _ _ 1 _ _ _ hr9).trans rfl)))
        all_goals
          have hb59 := hb5.trans (hb9.mono hb5.size)
          have hg4 : w3.heap.size ≤ w4.heap.size := hb34s
          obtain ⟨hfin, hbf⟩ := put_end (g := w.heap.size + 1) (i := 0) (j := 1) (u := .int .i64 ar) (v := .slice A9 (L.length + 1) c9) hown9 htup9 HH3.out HSS.out hb59 (by omega) hr13l (by omega) Hok.out hkL hm
          have e2 := set_one (v := .slice A9 (L.length + 1) c9) (set_zero2 (v := .int .i64 ar) hr9)
          have x0 := (cell_of_row _ _ 0 _ _ _ e2).trans (show _ = some (Value.int .i64 ar) from rfl)
          have x1 := (cell_of_row _ _ 1 _ _ _ e2).trans (show _ = some (Value.slice A9 (L.length + 1) c9) from rfl)
          have Hfin := Lib.hid hfin
          clear hfin hown9 htup9 e2 hr9
          go_wp2_with fail
          refine bodyPost_ret (v := .agg #[.int .i64 ar, .slice A9 (L.length + 1) c9]) (by simp [results, Try.results49, go_sem, x0, x1]) rfl ?_
          have hRl : R.length = L.length + 1 := by rw [HPk.out]; simp; omega
          exact ⟨A9, c9, by rw [hRl], by rw [hRl, HPk.out]; exact Hfin.out, hbf⟩
end Go.Proofs.Ytgomfmfaoeojkaa
