/- scc.waits: what each component waits for; maps of numbers without a key below 0. -/
import Derived.Test.YtdbpbchhkdconaaScRow
import Derived.Test.YtdbpbchhkdconaaScG
namespace Go.Proofs.Ytdbpbchhkdconaa
open Go.RowKit

theorem NumM.none_iff {w : World} {g n : Nat} {F : Int → Int} (h : NumM w g F n) : n = 0 ↔ ∀ s, F s = 0 := by
  obtain ⟨kvs, -, h2, h3, h4⟩ := h
  constructor
  · intro hn s
    have : kvs = [] := List.eq_nil_of_length_eq_zero (by omega)
    subst this
    rw [← h2 s]; rfl
  · intro hz
    cases kvs with
    | nil => exact h4.symm
    | cons p kvs =>
      exfalso
      have h5 := hz p.1
      rw [← h2] at h5
      exact h3 p (List.mem_cons_self ..) (by simpa [numOf, kvGet_consN] using h5)
/-- a map that tells f, with no key below 0 -/
def NumZ (w : World) (g : Nat) (f : Nat → Nat) : Prop := ∃ F n, NumM w g F n ∧ (∀ v : Nat, F v = (f v : Int)) ∧ ∀ s : Int, s < 0 → F s = 0
theorem NumZ.same {w w' : World} {g : Nat} {f : Nat → Nat} (h : NumZ w g f) (hs : w'.heap[g]? = w.heap[g]?) : NumZ w' g f := by
  obtain ⟨F, n, h1, h2⟩ := h
  exact ⟨F, n, h1.same hs, h2⟩
theorem NumZ.lt {w : World} {g : Nat} {f : Nat → Nat} (h : NumZ w g f) : g < w.heap.size := by
  obtain ⟨F, n, h1, _⟩ := h
  exact h1.lt
theorem NumZ.made {w : World} : NumZ (w.alloc (.map #[] 0)) w.heap.size (fun _ => 0) := ⟨_, _, NumM.made, fun _ => rfl, fun _ _ => rfl⟩
theorem NumZ.congr {w : World} {g : Nat} {f f' : Nat → Nat} (h : NumZ w g f) (he : ∀ v, f v = f' v) : NumZ w g f' := by
  obtain rfl : f = f' := funext he
  exact h
section
variable {P : Program} {w : World} {g : Nat} {f : Nat → Nat} {t k e : TypeId}
theorem NumZ.look (h : NumZ w g f) (ht : P.underlying t = some (.map k e)) (hk : P.underlying k = some (.int .i64)) (hz : (zeroValue e).run P w = .ok (.int .i64 0) w) (s : Nat) : (Instr.lookup t (.map (some g)) (.int .i64 (s : Int)) false).run P w = .ok (.int .i64 (f s : Int)) w := by
  obtain ⟨F, n, h1, h2, _⟩ := h
  rw [h1.look ht hk hz (s : Int), h2]
theorem NumZ.len (h : NumZ w g f) (ht : P.underlying t = some (.map k e)) : ∃ n : Nat, (∀ ty, (Builtin.len_ #[t] ty #[.map (some g)]).run P w = .ok (.int .i64 n) w) ∧ (n = 0 ↔ ∀ v, f v = 0) := by
  obtain ⟨F, n, h1, h2, h3⟩ := h
  refine ⟨n, fun ty => h1.len ht ty, h1.none_iff.trans ⟨fun hh v => ?_, fun hh s => ?_⟩⟩
  · have := h2 v
    rw [hh] at this
    omega
  · by_cases hs : s < 0
    · exact h3 s hs
    · have := h2 s.toNat
      rw [show ((s.toNat : Nat) : Int) = s by omega, hh] at this
      exact this
theorem NumZ.put (h : NumZ w g f) (ht : P.underlying t = some (.map k e)) (hk : P.underlying k = some (.int .i64)) (s v : Nat) (hv : v ≠ 0) :
    ∃ w', (Instr.mapUpdate t (.map (some g)) (.int .i64 (s : Int)) (.int .i64 (v : Int))).run P w = .ok () w' ∧ NumZ w' g (updN f s v) ∧ Out [g] w w' ∧ w'.heap.size = w.heap.size := by
  obtain ⟨F, n, h1, h2, h3⟩ := h
  obtain ⟨w', u1, u2, u3, u4⟩ := h1.put ht hk (s : Int) (v : Int) (by omega)
  refine ⟨w', u1, ⟨updI F (s : Int) (v : Int), _, u2, fun x => ?_, fun x hx => ?_⟩, grown_out u3, u4⟩
  · unfold updI updN
    by_cases hx : x = s
    · subst hx; simp
    · rw [if_neg (by omega), if_neg hx, h2]
  · unfold updI
    rw [if_neg (by omega), h3 x hx]
theorem NumZ.del (h : NumZ w g f) (ht : P.underlying t = some (.map k e)) (hk : P.underlying k = some (.int .i64)) (ty : TypeId) (s : Nat) :
    ∃ v w', (Builtin.delete_ #[t, k] ty #[.map (some g), .int .i64 (s : Int)]).run P w = .ok v w' ∧ NumZ w' g (updN f s 0) ∧ Out [g] w w' ∧ w'.heap.size = w.heap.size := by
  obtain ⟨F, n, h1, h2, h3⟩ := h
  obtain ⟨v, w', m, u1, u2, u3, u4⟩ := h1.del ht hk ty (s : Int)
  refine ⟨v, w', u1, ⟨_, _, u2, fun x => ?_, fun x hx => ?_⟩, grown_out u3, u4⟩
  · unfold updI updN
    by_cases hx : x = s
    · subst hx; simp
    · rw [if_neg (by omega), if_neg hx, h2]
  · unfold updI
    rw [if_neg (by omega), h3 x hx]
end

theorem SliceIs.nedge_at {w : World} {B : Nat} {A : Option Addr} {n c N : Nat} {l : List GEdge} (h : SliceIs Enc.edge w B A n c l) (hw : ∀ e ∈ l, withinE e (N : Int) = true) {i : Nat} (hi : i < n) :
    ∃ b o, ∃ ua ub : Nat, ∃ ne, A = some ⟨b, o, none⟩ ∧ b < B ∧ Hid (l[i]? = some ⟨(ua : Int), (ub : Int), ne⟩) ∧ ua < N ∧ ub < N ∧ w.cell? ⟨b, o + i * 3, none⟩ = some (.int .i64 (ua : Int)) ∧ w.cell? ⟨b, o + i * 3 + 1, none⟩ = some (.int .i64 (ub : Int)) ∧
      w.cell? ⟨b, o + i * 3 + 2, none⟩ = some (.bool ne) := by
  obtain ⟨b, o, x, hA, hb, hx, c0, c1, c2, -⟩ := h.edge_at hi
  have hin := hw x (List.mem_of_getElem? hx.out)
  simp only [withinE, Bool.and_eq_true, decide_eq_true_eq] at hin
  obtain ⟨xa, xb, ne⟩ := x
  simp only at hin c0 c1 c2
  refine ⟨b, o, xa.toNat, xb.toNat, ne, hA, hb, ?_, by omega, by omega, ?_, ?_, c2⟩
  · rw [show ((xa.toNat : Nat) : Int) = xa by omega, show ((xb.toNat : Nat) : Int) = xb by omega]; exact hx
  · rw [c0, show ((xa.toNat : Nat) : Int) = xa by omega]
  · rw [c1, show ((xb.toNat : Nat) : Int) = xb by omega]

/-- how often place i waits for place v -/
def cntW (pl : Nat → Nat) (i : Nat) (es : List GEdge) (v : Nat) : Nat := (es.filter (fun e => decide (pl e.a.toNat = i ∧ pl e.b.toNat = v ∧ i ≠ v))).length
theorem cntW_nil (pl : Nat → Nat) (i v : Nat) : cntW pl i [] v = 0 := rfl
theorem cntW_snoc (pl : Nat → Nat) (i : Nat) (es : List GEdge) (e : GEdge) (v : Nat) : cntW pl i (es ++ [e]) v = if pl e.a.toNat = i ∧ pl e.b.toNat = v ∧ i ≠ v then cntW pl i es v + 1 else cntW pl i es v := by
  unfold cntW
  rw [List.filter_append, List.length_append]
  by_cases h : pl e.a.toNat = i ∧ pl e.b.toNat = v ∧ i ≠ v
  · rw [if_pos h, List.filter_cons_of_pos (by simpa using h)]; rfl
  · rw [if_neg h, List.filter_cons_of_neg (by simpa using h)]; rfl
theorem cntW_len (pl : Nat → Nat) (i : Nat) (es : List GEdge) (v : Nat) : cntW pl i es v ≤ es.length := List.length_filter_le ..
theorem cntW_zero {pl : Nat → Nat} {i : Nat} {es : List GEdge} {v : Nat} : cntW pl i es v = 0 ↔ ∀ e ∈ es, pl e.a.toNat = i → pl e.b.toNat = v → i = v := by
  unfold cntW
  rw [List.length_eq_zero_iff, List.filter_eq_nil_iff]
  constructor
  · intro h e he h1 h2
    have := h e he
    simp only [decide_eq_true_eq] at this
    exact Decidable.byContradiction fun h3 => this ⟨h1, h2, h3⟩
  · intro h e he hh
    simp only [decide_eq_true_eq] at hh
    exact hh.2.2 (h e he hh.1 hh.2.1)

/-- the row R of n maps, map i in block g i -/
structure WRow (w : World) (B R n : Nat) (g : Nat → Nat) (on : Nat → Bool) (f : Nat → Nat → Nat) : Prop where
  row : w.heap[R]? = some (.cells (rowV (fun i => if on i then .map (some (g i)) else .map none) n) 56 (0, 0))
  ge : B ≤ R
  maps : ∀ i, i < n → on i = true → B ≤ g i ∧ g i ≠ R ∧ NumZ w (g i) (f i)
  one : ∀ i j, i < n → j < n → on i = true → on j = true → g i = g j → i = j
theorem WRow.below {w w' : World} {B R n : Nat} {g : Nat → Nat} {on : Nat → Bool} {f : Nat → Nat → Nat} (h : WRow w B R n g on f) (hb : Below w.heap.size w w') : WRow w' B R n g on f :=
  ⟨(hb.block R (Array.getElem?_eq_some_iff.1 h.row).1).trans h.row, h.ge, fun i hi ho => ⟨(h.maps i hi ho).1, (h.maps i hi ho).2.1, (h.maps i hi ho).2.2.same (hb.block _ (h.maps i hi ho).2.2.lt)⟩, h.one⟩
/-- one of the maps is turned -/
theorem WRow.turn {w w' : World} {B R n : Nat} {g : Nat → Nat} {on : Nat → Bool} {f f' : Nat → Nat → Nat} (h : WRow w B R n g on f) {i : Nat} (hi : i < n) (ho : on i = true) (hO : Out [g i] w w') (hz : NumZ w' (g i) (f' i)) (he : ∀ j, j < n → on j = true → j ≠ i → ∀ v, f j v = f' j v) : WRow w' B R n g on f' := by
  refine ⟨(hO.block R (Array.getElem?_eq_some_iff.1 h.row).1 (by simpa using (h.maps i hi ho).2.1.symm)).trans h.row, h.ge, fun j hj hoj => ⟨(h.maps j hj hoj).1, (h.maps j hj hoj).2.1, ?_⟩, h.one⟩
  by_cases hji : j = i
  · subst hji; exact hz
  · refine ((h.maps j hj hoj).2.2.same (hO.block _ (h.maps j hj hoj).2.2.lt ?_)).congr (he j hj hoj hji)
    simp only [List.mem_singleton]
    exact fun hh => hji (h.one j i hj hi hoj ho hh)

def WaitsPost (pl : Nat → Nat) (l : List GEdge) (n : Nat) (w : World) (e : Ending) (w' : World) : Prop :=
  ∃ R g, e = .returned (.slice (some ⟨R, 0, none⟩) n n) ∧ WRow w' w.heap.size R n g (fun _ => true) (fun i => cntW pl i l) ∧ Below w.heap.size w w'
theorem info_mapnn : (Try.prog.info? 56).map (fun i => (i.zero, i.size, i.bytes)) = some (some (.map none), 1, 8) := by kernel_rfl
end Go.Proofs.Ytdbpbchhkdconaa
