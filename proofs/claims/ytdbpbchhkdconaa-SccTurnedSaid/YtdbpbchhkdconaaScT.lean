/- Rows that a function owns, as lists; small numbers; maps of small numbers. Nothing of any program. -/
import Derived.Test.YtdbpbchhkdconaaPushR
import Derived.Test.YtdbpbchhkdconaaNumM
import Derived.Test.YtdbpbchhkdconaaMa1
namespace Go.Proofs.Ytdbpbchhkdconaa
open Go.RowKit

def Enc.nat : Enc Nat where
  sz := 1
  ok _ _ cs n := cs = [.int .i64 (n : Int)] ∧ n ≤ 1000
  mono _ _ h := h
  len h := by rw [h.1]; rfl
def Enc.frame : Enc (Nat × List Nat) where
  sz := 2
  ok w B cs x := ∃ A n c, cs = [.int .i64 (x.1 : Int), .slice A n c] ∧ x.1 ≤ 1000 ∧ SliceIs Enc.nat w B A n c x.2
  mono hB hk := fun ⟨A, n, c, e, h0, h⟩ => ⟨A, n, c, e, h0, h.mono' hB hk⟩
  len := fun ⟨_, _, _, e, _⟩ => by rw [e]; rfl
theorem SliceIs.nat_at {w : World} {B : Nat} {A : Option Addr} {n c : Nat} {l : List Nat} (h : SliceIs Enc.nat w B A n c l) {i : Nat} (hi : i < n) :
    ∃ b o x, A = some ⟨b, o, none⟩ ∧ b < B ∧ Hid (l[i]? = some x) ∧ w.cell? ⟨b, o + i, none⟩ = some (.int .i64 (x : Int)) ∧ x ≤ 1000 := by
  obtain ⟨b, o, x, cs, hA, hb, hx, ⟨rfl, hf⟩, hc⟩ := h.at_ hi
  exact ⟨b, o, x, hA, hb, hx, by simpa [Enc.nat] using hc 0 _ rfl, hf⟩

/-- an own row that holds the list l; what its elements lean on lies outside of S -/
structure RowOf {α : Type} (E : Enc α) (w : World) (B e : Nat) (S : List Nat) (A : Option Addr) (n c : Nat) (l : List α) : Prop where
  len : l.length = n
  ex : ∃ xs, w.ownsRow B e E.sz (.slice A n c) n xs ∧ ∀ i x, l[i]? = some x → E.ok (sans w S) w.heap.size ((xs.drop (i * E.sz)).take E.sz) x
def blkOf (A : Option Addr) : List Nat := A.toList.map (·.block)
theorem ownBlock_blk (A : Option Addr) (n c : Nat) : (Value.slice A n c).ownBlock.toList = blkOf A := by
  cases A <;> rfl
section
variable {α : Type} {E : Enc α} {w w' : World} {B e : Nat} {S T U : List Nat} {A : Option Addr} {n c : Nat} {l : List α}
theorem RowOf.nil (w : World) : RowOf E w B e S none 0 0 ([] : List α) := ⟨rfl, [], World.ownsRow_nil _ _ _ _, fun i x h => by simp at h⟩
theorem RowOf.blk (h : RowOf E w B e S A n c l) {b : Nat} (hb : b ∈ blkOf A) : B ≤ b ∧ b < w.heap.size ∧ ∃ cur, w.heap[b]? = some (.cells cur e (0, 0)) := by
  obtain ⟨-, xs, h1, -⟩ := h
  rw [← ownBlock_blk A n c] at hb
  have hb' := Option.mem_toList.1 hb
  exact ⟨(own_blk h1 hb').1, (own_blk h1 hb').2, own_typeR h1 hb'⟩
theorem RowOf.out (h : RowOf E w B e S A n c l) (ho : Out T w w') (hv : ∀ b ∈ blkOf A, b ∉ T) (hT : ∀ b ∈ T, b < w.heap.size → b ∈ S) (hU : ∀ b ∈ U, b < w.heap.size → b ∈ S) : RowOf E w' B e U A n c l := by
  obtain ⟨h0, xs, h1, h2⟩ := h
  refine ⟨h0, xs, own_out' h1 ho (fun b hb => hv b ?_), fun i x hx => E.mono ho.size (ho.kept hT hU) (h2 i x hx)⟩
  rw [← ownBlock_blk A n c]; exact Option.mem_toList.2 hb
theorem RowOf.below (h : RowOf E w B e S A n c l) (hb : Below w.heap.size w w') : RowOf E w' B e S A n c l :=
  h.out (T := []) (Out.of_below hb []) (fun b _ hb => by cases hb) (fun b hb _ => by cases hb) (fun _ hb _ => hb)
theorem RowOf.base (h : RowOf E w B e S A n c l) {B' : Nat} (hB : B' ≤ B) : RowOf E w B' e S A n c l := by
  obtain ⟨h0, xs, h1, h2⟩ := h
  refine ⟨h0, xs, ⟨h1.1, ?_⟩, h2⟩
  rcases h1.2 with hn | ⟨g, cap, cur, hv, hg, r⟩
  · exact .inl hn
  · exact .inr ⟨g, cap, cur, hv, by omega, r⟩
/-- one more -/
theorem RowOf.push {P : Program} {t ty size bytes : Nat} {z : Value} (h : RowOf E w B e S A n c l) (ht : P.underlying t = some (.slice e)) (hi : (P.info? e).map (fun i => (i.zero, i.size, i.bytes)) = some (some z, size, bytes)) (hsE : E.sz = size)
    (hzs : z.cells.size = size) (hsz : 0 < size) (x : α) (g : Nat) (cs : List Value) (hg : w.heap[g]? = some (.cells cs.toArray e (0, 0))) (hok : E.ok (sans w S) w.heap.size cs x) (h1 : ∀ u ∈ cs, u.oneCell' = true)
    (h63 : n + 1 ≤ maxLen) (hbytes : (n + 1) * bytes ≤ 140737488355328) (hbase : B ≤ w.heap.size) (hA : ∀ b ∈ blkOf A, b ∈ S) :
    ∃ A' c' w', (Builtin.append_ #[t, t] ty #[.slice A n c, .slice (some ⟨g, 0, none⟩) 1 1]).run P w = .ok (.slice A' (n + 1) c') w' ∧ (∀ U : List Nat, (∀ b ∈ U, b < w.heap.size → b ∈ S) → RowOf E w' B e U A' (n + 1) c' (l ++ [x])) ∧ Out (blkOf A) w w' ∧
      (∀ b ∈ blkOf A', b ∈ blkOf A ∨ w.heap.size ≤ b) := by
  subst hsE
  obtain ⟨h0, xs, h2, h3⟩ := h
  have hcl := E.len hok
  obtain ⟨A', c', w', q1, q2, q3, q4⟩ := push_more (P := P) (ty := ty) w ht hi hzs hsz h2 g cs hcl hg h1 h63 hbytes hbase
  rw [ownBlock_blk] at q3
  refine ⟨A', c', w', q1, fun U hU => ⟨by simp [h0], xs ++ cs, q2, fun i y hy => ?_⟩, q3, fun b hb => ?_⟩
  · have hk := q3.kept (T := S) (U := U) (fun b hb _ => hA b hb) hU
    have hxl := h2.1
    rcases Nat.lt_trichotomy i l.length with hlt | rfl | hgt
    · rw [List.getElem?_append_left hlt] at hy
      have hle : i * E.sz + E.sz ≤ xs.length := by
        rw [hxl, ← h0]
        calc i * E.sz + E.sz = (i + 1) * E.sz := by rw [Nat.add_mul, Nat.one_mul]
          _ ≤ l.length * E.sz := Nat.mul_le_mul_right _ hlt
      rw [List.drop_append_of_le_length (by omega), List.take_append_of_le_length (by rw [List.length_drop]; omega)]
      exact E.mono q3.size hk (h3 i y hy)
    · rw [List.getElem?_append_right (Nat.le_refl _), Nat.sub_self] at hy
      obtain rfl : x = y := by simpa using hy
      rw [h0, ← hxl, List.drop_append_of_le_length (Nat.le_refl _), List.drop_length, List.nil_append, ← hcl, List.take_length]
      exact E.mono q3.size hk hok
    · rw [List.getElem?_eq_none (by simp; omega)] at hy
      cases hy
  · rw [← ownBlock_blk A' (n + 1) c'] at hb
    rcases q4 b (Option.mem_toList.1 hb) with hh | hh
    · left; rw [← ownBlock_blk A n c]; exact Option.mem_toList.2 hh
    · exact .inr hh
/-- cut short -/
theorem RowOf.cut (h : RowOf E w B e S A n c l) {k : Nat} (hk : k ≤ n) : RowOf E w B e S A k c (l.take k) := by
  obtain ⟨h0, xs, h1, h2⟩ := h
  have hxl := h1.1
  have hle : k * E.sz ≤ xs.length := by rw [hxl]; exact Nat.mul_le_mul_right _ hk
  refine ⟨by simp; omega, xs.take (k * E.sz), ⟨by rw [List.length_take]; omega, ?_⟩, fun i x hx => ?_⟩
  · rcases h1.2 with ⟨hv, hn⟩ | ⟨g, cap, cur, hv, hg, hh, hnc, hcm, hs, ht⟩
    · simp only [Value.slice.injEq] at hv
      obtain ⟨rfl, _, rfl⟩ := hv
      exact .inl ⟨by obtain rfl : k = 0 := by omega
                     rfl, by omega⟩
    · simp only [Value.slice.injEq] at hv
      obtain ⟨rfl, _, rfl⟩ := hv
      refine .inr ⟨g, c, cur, rfl, hg, hh, by omega, hcm, hs, ?_⟩
      rw [← ht, List.take_take, Nat.min_eq_left (Nat.mul_le_mul_right _ hk)]
  · rw [List.getElem?_take] at hx
    split at hx
    · rename_i hik
      have := h2 i x hx
      have hle2 : i * E.sz + E.sz ≤ k * E.sz := by
        calc i * E.sz + E.sz = (i + 1) * E.sz := by rw [Nat.add_mul, Nat.one_mul]
          _ ≤ k * E.sz := Nat.mul_le_mul_right _ hik
      rw [List.drop_take, List.take_take, Nat.min_eq_left (by omega)]
      exact this
    · cases hx
/-- an element's cells -/
theorem RowOf.at_ (h : RowOf E w B e S A n c l) {i : Nat} (hi : i < n) :
    ∃ b x cs, A = some ⟨b, 0, none⟩ ∧ l[i]? = some x ∧ E.ok (sans w S) w.heap.size cs x ∧ (∀ j v, cs[j]? = some v → w.cell? ⟨b, i * E.sz + j, none⟩ = some v) ∧ (∀ o, w.frozen? ⟨b, o, none⟩ = false) ∧ n ≤ c ∧ c ≤ maxLen := by
  obtain ⟨h0, xs, h1, h2⟩ := h
  have hx := List.getElem?_eq_getElem (l := l) (i := i) (by omega)
  rcases h1.2 with ⟨hv, hn⟩ | ⟨g, cap, cur, hv, hg, hh, hnc, hcm, hs, ht⟩
  · omega
  · simp only [Value.slice.injEq] at hv
    obtain ⟨rfl, _, rfl⟩ := hv
    refine ⟨g, _, _, rfl, hx, h2 i _ hx, fun j v hj => ?_, fun o => frozen_of_row _ _ _ _ _ hh, hnc, hcm⟩
    rw [cell_of_row w g _ cur e (0, 0) hh]
    rw [List.getElem?_take] at hj
    split at hj
    · rw [List.getElem?_drop, ← ht, List.getElem?_take] at hj
      split at hj
      · simpa [Array.getElem?_toList] using hj
      · cases hj
    · cases hj
theorem RowOf.shape (h : RowOf E w B e S A n c l) : n ≤ c ∧ c ≤ maxLen ∧ (A = none → n = 0 ∧ c = 0) ∧ (∀ a, A = some a → ∃ b, a = ⟨b, 0, none⟩) := by
  obtain ⟨h0, xs, h1, h2⟩ := h
  rcases h1.2 with ⟨hv, hn⟩ | ⟨g, cap, cur, hv, hg, hh, hnc, hcm, hs, ht⟩
  · simp only [Value.slice.injEq] at hv
    obtain ⟨rfl, _, rfl⟩ := hv
    exact ⟨by omega, by simp [maxLen], fun _ => ⟨hn, rfl⟩, fun a h => by cases h⟩
  · simp only [Value.slice.injEq] at hv
    obtain ⟨rfl, _, rfl⟩ := hv
    exact ⟨hnc, hcm, (fun h => by cases h), fun a h => by injection h with h; exact ⟨g, h.symm⟩⟩
/-- as a slice that is read -/
theorem RowOf.slice (h : RowOf E w B e S A n c l) (hr : n ≤ reachN) (hA : ∀ b ∈ blkOf A, b ∉ T) (hT : ∀ b ∈ T, b < w.heap.size → b ∈ S) : SliceFar E w T A n c l := by
  obtain ⟨h0, xs, h1, h2⟩ := h
  have hs : (sans w T).ownsRow B e E.sz (.slice A n c) n xs := by
    refine ⟨h1.1, ?_⟩
    rcases h1.2 with hn | ⟨g, cap, cur, hv, hg, hh, r⟩
    · exact .inl hn
    · refine .inr ⟨g, cap, cur, hv, hg, (sans_out (hA g ?_)).trans hh, r⟩
      simp only [Value.slice.injEq] at hv
      rw [hv.1]; simp [blkOf]
  have := SliceIs.of_own (E := E) hs h0 hr (fun i x hx => by
    rw [sans_size]
    exact E.mono (Nat.le_refl _) ((Out.refl (S := []) w).kept (T := S) (U := T) (fun _ hb _ => by cases hb) hT) (h2 i x hx))
  rw [sans_size] at this
  exact this
end

/-- a map of small numbers; what is not there is 0 -/
def NumN (w : World) (g : Nat) (f : Nat → Nat) (n : Nat) : Prop := ∃ F, NumM w g F n ∧ ∀ v : Nat, F v = (f v : Int)
theorem NumN.same {w w' : World} {g n : Nat} {f : Nat → Nat} (h : NumN w g f n) (hs : w'.heap[g]? = w.heap[g]?) : NumN w' g f n := by
  obtain ⟨F, h1, h2⟩ := h
  exact ⟨F, h1.same hs, h2⟩
theorem NumN.lt {w : World} {g n : Nat} {f : Nat → Nat} (h : NumN w g f n) : g < w.heap.size := by
  obtain ⟨F, h1, _⟩ := h
  exact h1.lt
theorem NumN.map {w : World} {g n : Nat} {f : Nat → Nat} (h : NumN w g f n) : ∃ es k, w.heap[g]? = some (.map es k) := by
  obtain ⟨F, ⟨kvs, ⟨⟨es, clock, hb, _⟩, _⟩, _⟩, _⟩ := h
  exact ⟨es, clock, hb⟩
theorem NumN.made {w : World} : NumN (w.alloc (.map #[] 0)) w.heap.size (fun _ => 0) 0 := ⟨_, NumM.made, fun _ => rfl⟩
section
variable {P : Program} {w : World} {g n : Nat} {f : Nat → Nat} {t k e : TypeId}
theorem NumN.look (h : NumN w g f n) (ht : P.underlying t = some (.map k e)) (hk : P.underlying k = some (.int .i64)) (hz : (zeroValue e).run P w = .ok (.int .i64 0) w) (s : Nat) : (Instr.lookup t (.map (some g)) (.int .i64 (s : Int)) false).run P w = .ok (.int .i64 (f s : Int)) w := by
  obtain ⟨F, h1, h2⟩ := h
  rw [h1.look ht hk hz (s : Int), h2]
theorem NumN.len (h : NumN w g f n) (ht : P.underlying t = some (.map k e)) (ty : TypeId) : (Builtin.len_ #[t] ty #[.map (some g)]).run P w = .ok (.int .i64 n) w := by
  obtain ⟨F, h1, h2⟩ := h
  exact h1.len ht ty
theorem NumN.put (h : NumN w g f n) (ht : P.underlying t = some (.map k e)) (hk : P.underlying k = some (.int .i64)) (s v : Nat) (hv : v ≠ 0) :
    ∃ w', (Instr.mapUpdate t (.map (some g)) (.int .i64 (s : Int)) (.int .i64 (v : Int))).run P w = .ok () w' ∧ NumN w' g (updN f s v) (if f s = 0 then n + 1 else n) ∧ Out [g] w w' ∧ w'.heap.size = w.heap.size := by
  obtain ⟨F, h1, h2⟩ := h
  obtain ⟨w', u1, u2, u3, u4⟩ := h1.put ht hk (s : Int) (v : Int) (by omega)
  refine ⟨w', u1, ⟨updI F (s : Int) (v : Int), ?_, fun x => ?_⟩, grown_out u3, u4⟩
  · have e : (F (s : Int) = 0) ↔ (f s = 0) := by rw [h2]; omega
    simp only [e] at u2
    exact u2
  · unfold updI updN
    by_cases hx : x = s
    · subst hx; simp
    · rw [if_neg (by omega), if_neg hx, h2]
theorem NumN.del (h : NumN w g f n) (ht : P.underlying t = some (.map k e)) (hk : P.underlying k = some (.int .i64)) (ty : TypeId) (s : Nat) :
    ∃ v w' m, (Builtin.delete_ #[t, k] ty #[.map (some g), .int .i64 (s : Int)]).run P w = .ok v w' ∧ NumN w' g (updN f s 0) m ∧ Out [g] w w' ∧ w'.heap.size = w.heap.size := by
  obtain ⟨F, h1, h2⟩ := h
  obtain ⟨v, w', m, u1, u2, u3, u4⟩ := h1.del ht hk ty (s : Int)
  refine ⟨v, w', m, u1, ⟨_, u2, fun x => ?_⟩, grown_out u3, u4⟩
  unfold updI updN
  by_cases hx : x = s
  · subst hx; simp
  · rw [if_neg (by omega), if_neg hx, h2]
end
/-! ### the last of a row of frames is changed -/
theorem SliceIs.nat_tail {w : World} {B b o n c : Nat} {k : Nat} {l : List Nat} (h : SliceIs Enc.nat w B (some ⟨b, o, none⟩) (n + 1) c (k :: l)) : SliceIs Enc.nat w B (some ⟨b, o + 1, none⟩) n (c - 1) l := by
  obtain ⟨h1, h2, h3, h4, h5⟩ := h
  refine ⟨by simpa using h1, by omega, by omega, by omega, ?_⟩
  rcases h5 with h5 | ⟨b', o', hA, hb, hc⟩
  · cases h5
  · injection hA with hA; injection hA with e1 e2 _; subst e1; subst e2
    refine .inr ⟨b, o + 1, rfl, hb, fun i x hx => ?_⟩
    obtain ⟨cs, hok, hcs⟩ := hc (i + 1) x (by simpa using hx)
    refine ⟨cs, hok, fun j v hv => ?_⟩
    have := hcs j v hv
    have e : o + 1 + i * Enc.nat.sz + j = o + (i + 1) * Enc.nat.sz + j := by rw [Nat.add_mul]; show o + 1 + i * 1 + j = o + (i * 1 + 1 * 1) + j; omega
    rw [e]; exact this
theorem RowOf.set_last {w : World} {B e : Nat} {S : List Nat} {b n c : Nat} {ws : List (Nat × List Nat)} {v : Nat} {r r' : List Nat} (h : RowOf Enc.frame w B e S (some ⟨b, 0, none⟩) n c (ws ++ [(v, r)])) (hbS : b ∈ S) {A' : Option Addr} {m' c' : Nat} (hr : SliceFar Enc.nat w S A' m' c' r') :
    RowOf Enc.frame (w.setCell ⟨b, ws.length * 2 + 1, none⟩ (.slice A' m' c')) B e S (some ⟨b, 0, none⟩) n c (ws ++ [(v, r')]) := by
  obtain ⟨h0, xs, h1, h2⟩ := h
  have hn : n = ws.length + 1 := by simpa using h0.symm
  have hk : Kept (sans w S) (sans (w.setCell ⟨b, ws.length * 2 + 1, none⟩ (.slice A' m' c')) S) w.heap.size := (set_out w b (ws.length * 2 + 1) (.slice A' m' c')).kept (T := S) (U := S) (fun x hx _ => by simp at hx; subst hx; exact hbS) (fun _ hb _ => hb)
  have hxl : xs.length = n * 2 := h1.1
  obtain ⟨A1, m1, c1, e1, e2, e3⟩ := h2 ws.length (v, r) (by simp)
  replace e1 : List.take 2 (List.drop (ws.length * 2) xs) = [.int .i64 (v : Int), .slice A1 m1 c1] := e1
  have hv0 : xs[ws.length * 2]? = some (.int .i64 (v : Int)) := by
    have : ((xs.drop (ws.length * 2)).take 2)[0]? = some (.int .i64 (v : Int)) := by rw [e1]; rfl
    rw [List.getElem?_take, if_pos (by omega), List.getElem?_drop] at this
    exact this
  refine ⟨by simpa using h0, xs.set (ws.length * 2 + 1) (.slice A' m' c'), ⟨by simpa using h1.1, ?_⟩, fun i x hx => ?_⟩
  · rcases h1.2 with ⟨hv, -⟩ | ⟨g, cap, cur, hv, hg, hh, hnc, hcm, hs, ht⟩
    · cases hv
    simp only [Value.slice.injEq, Option.some.injEq, Addr.mk.injEq, and_true, true_and] at hv
    obtain ⟨rfl, rfl⟩ := hv
    refine .inr ⟨b, c, cur.setIfInBounds (ws.length * 2 + 1) (.slice A' m' c'), rfl, hg, ?_, hnc, hcm, by simpa using hs, ?_⟩
    · simp [World.setCell, Array.getElem?_modify, hh]
    · rw [Array.toList_setIfInBounds, List.take_set, ht]
  · rw [World.size_setCell']
    rcases Nat.lt_trichotomy i ws.length with hlt | rfl | hgt
    · have hpc : ((xs.set (ws.length * 2 + 1) (.slice A' m' c')).drop (i * Enc.frame.sz)).take Enc.frame.sz = (xs.drop (i * Enc.frame.sz)).take Enc.frame.sz := by
        show ((xs.set (ws.length * 2 + 1) (.slice A' m' c')).drop (i * 2)).take 2 = (xs.drop (i * 2)).take 2
        apply List.ext_getElem?
        intro j
        rw [List.getElem?_take, List.getElem?_take]
        split
        · rw [List.getElem?_drop, List.getElem?_drop, List.getElem?_set_ne (by omega)]
        · rfl
      rw [hpc]
      have := h2 i x (by rw [List.getElem?_append_left hlt] at hx ⊢; exact hx)
      exact Enc.frame.mono (Nat.le_refl _) hk this
    · rw [List.getElem?_append_right (Nat.le_refl _), Nat.sub_self] at hx
      obtain rfl : (v, r') = x := by simpa using hx
      refine ⟨A', m', c', ?_, e2, hr.mono' (Nat.le_refl _) hk⟩
      show ((xs.set (ws.length * 2 + 1) (.slice A' m' c')).drop (ws.length * 2)).take 2 = _
      apply List.ext_getElem?
      intro j
      rw [List.getElem?_take]
      match j with
      | 0 => rw [if_pos (by omega), List.getElem?_drop, List.getElem?_set_ne (by omega)]; exact hv0
      | 1 => rw [if_pos (by omega), List.getElem?_drop, List.getElem?_set_self (by omega)]; rfl
      | j + 2 => rw [if_neg (by omega)]; rfl
    · rw [List.getElem?_eq_none (by simp; omega)] at hx; cases hx
/-- how many entries a map has, how long a slice is -/
def mapSize (w : World) (g : Nat) : Nat := match w.heap[g]? with
  | some (.map es _) => es.size
  | _ => 0
def sliceLen (o : Option Value) : Nat := match o with
  | some (.slice _ n _) => n
  | _ => 0
theorem NumN.size {w : World} {g n : Nat} {f : Nat → Nat} (h : NumN w g f n) : mapSize w g = n := by
  obtain ⟨F, ⟨kvs, ⟨⟨es, clock, hb, hes, _⟩, _⟩, _, _, hn⟩, _⟩ := h
  unfold mapSize
  rw [hb]
  have h1 := congrArg List.length hes
  simp only [List.length_map, invs, Array.length_toList] at h1
  show es.size = n
  omega
end Go.Proofs.Ytdbpbchhkdconaa
