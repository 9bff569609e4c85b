/- RelPlays: a relation and the document's one side by side. -/
import Derived.Test.YtgomfmfaoeojkaaRelWInv
import Derived.Test.YtgomfmfaoeojkaaRefDrop
namespace Go.Proofs.Ytgomfmfaoeojkaa
open Go.RowKit

/-- a tuple is added, or dropped (corollarylaw03.Act) -/
structure GAct where
  t : List GV
  d : Bool
def Enc.act : Enc GAct where
  sz := 2
  ok w B cs x := ∃ A n c, cs = [.slice A n c, .bool x.d] ∧ SliceIs Enc.val w B A n c x.t
  mono hB hk := fun ⟨A, n, c, e, h⟩ => ⟨A, n, c, e, h.mono' hB hk⟩
  len := fun ⟨_, _, _, e, _⟩ => by rw [e]; rfl
theorem SliceIs.act_at {w : World} {B : Nat} {A : Option Addr} {n c : Nat} {l : List GAct} (h : SliceIs Enc.act w B A n c l) {i : Nat} (hi : i < n) :
    ∃ b o x A' n' c', A = some ⟨b, o, none⟩ ∧ b < B ∧ Hid (l[i]? = some x) ∧ w.cell? ⟨b, o + i * 2, none⟩ = some (.slice A' n' c') ∧ w.cell? ⟨b, o + i * 2 + 1, none⟩ = some (.bool x.d) ∧ SliceIs Enc.val w B A' n' c' x.t := by
  obtain ⟨b, o, x, cs, hA, hb, hx, ⟨A', n', c', rfl, hf⟩, hc⟩ := h.at_ hi
  exact ⟨b, o, x, A', n', c', hA, hb, hx, by simpa [Enc.act] using hc 0 _ rfl, by simpa [Enc.act] using hc 1 _ rfl, hf⟩

/-- r at p holds L, m in the box gm holds M; both lie far from X -/
structure PInv (X : List Nat) (w : World) (gm p : Nat) (rb : Option Nat) (ar : Int) (L M : List (List GV)) (A : Option Addr) (c : Nat) (W : World) : Prop where
  rel : RelAt W (gm :: p :: (rb.toList ++ X)) p rb ar L
  row : W.heap[gm]? = some (.cells #[.int .i64 ar, .slice A M.length c] 47 (0, 0))
  far : SliceFar (Enc.slice Enc.val) W (gm :: p :: (rb.toList ++ X)) A M.length c M
  low : Below w.heap.size w W
  gp : w.heap.size ≤ p
  gg : w.heap.size ≤ gm
  ne : gm ≠ p
  rbs : ∀ b, rb = some b → w.heap.size ≤ b ∧ b ≠ gm
  xs : ∀ b ∈ X, w.heap.size ≤ b ∧ b < W.heap.size ∧ b ≠ gm ∧ b ≠ p ∧ rb ≠ some b
section
variable {X : List Nat} {w W W' : World} {gm p : Nat} {rb rb' : Option Nat} {ar : Int} {L L' M M' : List (List GV)} {A A' : Option Addr} {c c' : Nat}
theorem PInv.on (h : PInv X w gm p rb ar L M A c W) (hb : Below W.heap.size W W') : PInv X w gm p rb ar L M A c W' :=
  ⟨h.rel.on hb, (hb.block _ (Array.getElem?_eq_some_iff.1 h.row).1).trans h.row, h.far.on hb, h.low.trans (hb.mono h.low.size), h.gp, h.gg, h.ne, h.rbs, fun b hx => by have h1 := h.xs b hx; have := hb.size; exact ⟨h1.1, by omega, h1.2.2⟩⟩
theorem PInv.lt (h : PInv X w gm p rb ar L M A c W) : ∀ b ∈ gm :: p :: (rb.toList ++ X), b < W.heap.size := by
  intro b hb
  rcases List.mem_cons.1 hb with rfl | hb
  · exact (Array.getElem?_eq_some_iff.1 h.row).1
  · rw [← List.cons_append] at hb
    rcases List.mem_append.1 hb with hb | hb
    · exact h.rel.lt b hb
    · exact (h.xs b hb).2.1
theorem PInv.mem (h : PInv X w gm p rb ar L M A c W) : ∀ b ∈ p :: rb.toList, w.heap.size ≤ b ∧ b ≠ gm := by
  intro b hb
  simp at hb
  rcases hb with rfl | hb
  · exact ⟨h.gp, fun e => h.ne e.symm⟩
  · exact h.rbs b hb
/-- r is changed -/
theorem PInv.out (h : PInv X w gm p rb ar L M A c W) (ho : Out (p :: rb.toList) W W') (hr : RelAt W' (gm :: p :: (rb'.toList ++ X)) p rb' ar L') (hrb : ∀ b, rb' = some b → rb = some b ∨ W.heap.size ≤ b) : PInv X w gm p rb' ar L' M A c W' := by
  have hg := (Array.getElem?_eq_some_iff.1 h.row).1
  refine ⟨hr, (ho.block _ hg (fun hb => (h.mem gm hb).2 rfl)).trans h.row, h.far.out ho (fun b hb _ => by rw [← List.cons_append]; exact List.mem_cons_of_mem _ (List.mem_append_left _ hb)) ?_, h.low.trans (ho.below (fun b hb => (h.mem b hb).1) h.low.size), h.gp, h.gg, h.ne, ?_, ?_⟩
  · intro b hb hbl
    simp only [List.mem_cons, List.mem_append, Option.mem_toList] at hb ⊢
    rcases hb with hb | hb | hb | hb
    · exact .inl hb
    · exact .inr (.inl hb)
    · rcases hrb b hb with hb | hb
      · exact .inr (.inr (.inl hb))
      · omega
    · exact .inr (.inr (.inr hb))
  · intro b hb
    rcases hrb b hb with hb | hb
    · exact h.rbs b hb
    · have := h.low.size; exact ⟨by omega, by omega⟩
  · intro b hb
    obtain ⟨h1, h2, h3, h4, h5⟩ := h.xs b hb
    refine ⟨h1, Nat.lt_of_lt_of_le h2 ho.size, h3, h4, fun hr' => ?_⟩
    rcases hrb b hr' with hb | hb
    · exact h5 hb
    · omega
/-- m is set -/
theorem PInv.set (h : PInv X w gm p rb ar L M A c W) {u : Value} (hu : u = .int .i64 ar) (hf : SliceFar (Enc.slice Enc.val) W (gm :: p :: (rb.toList ++ X)) A' M'.length c' M') : PInv X w gm p rb ar L M' A' c' ((W.setCell ⟨gm, 0, none⟩ u).setCell ⟨gm, 1, none⟩ (.slice A' M'.length c')) := by
  subst hu
  have ho : Out [gm] W ((W.setCell ⟨gm, 0, none⟩ (.int .i64 ar)).setCell ⟨gm, 1, none⟩ (.slice A' M'.length c')) := (set_out W gm 0 _).trans (set_out _ gm 1 _) (fun b hb _ => hb)
  refine ⟨h.rel.out ho ?_ (fun b hb _ => hb) (by simp) (fun b hb => by simp [hb]), set_one (set_zero2 h.row), hf.out ho (fun b hb _ => by simp at hb; simp [hb]) (fun b hb _ => hb), (h.low.setCell (by simpa using h.gg) _).setCell (by simpa using h.gg) _, h.gp, h.gg, h.ne, h.rbs, fun b hx => by have h1 := h.xs b hx; have := ho.size; exact ⟨h1.1, by omega, h1.2.2⟩⟩
  intro b hb _
  simp at hb
  subst hb
  exact ⟨by simp, h.ne, fun hr => (h.rbs _ hr).2 rfl⟩
/-- new blocks are laid beside -/
theorem PInv.more {Y : List Nat} (h : PInv [] w gm p rb ar L M A c W) (hb : Below W.heap.size W W') (hY : ∀ b ∈ Y, W.heap.size ≤ b ∧ b < W'.heap.size) : PInv Y w gm p rb ar L M A c W' := by
  have hs : ∀ b, b ∈ gm :: p :: (rb.toList ++ Y) → b < W.heap.size → b ∈ gm :: p :: (rb.toList ++ []) := by
    intro b hb hbl
    simp only [List.mem_cons, List.mem_append, List.not_mem_nil, or_false] at hb ⊢
    rcases hb with hb | hb | hb | hb
    · exact .inl hb
    · exact .inr (.inl hb)
    · exact .inr (.inr hb)
    · have := hY b hb; omega
  have h1 := h.on hb
  refine ⟨h.rel.out (T := []) (Out.of_below hb []) (fun _ h _ => by cases h) hs (by simp) (fun b hb => by simp [hb]), h1.row, h.far.out (S := []) (Out.of_below hb []) (fun _ h _ => by cases h) hs, h1.low, h.gp, h.gg, h.ne, h.rbs, fun b hb => ?_⟩
  have h2 := hY b hb
  have h3 := h.low.size
  have hl := h.lt
  refine ⟨by omega, h2.2, fun e => ?_, fun e => ?_, fun e => ?_⟩
  · have := hl gm (by simp); omega
  · have := hl p (by simp); omega
  · have := hl b (by simp [e]); omega
/-- they are changed, and left -/
theorem PInv.less (h : PInv X w gm p rb ar L M A c W) (ho : Out X W W') : PInv [] w gm p rb ar L M A c W' := by
  have hX : ∀ b ∈ X, b ∈ gm :: p :: (rb.toList ++ X) := fun b hb => by simp [hb]
  have hs : ∀ b, b ∈ gm :: p :: (rb.toList ++ []) → b ∈ gm :: p :: (rb.toList ++ X) := by
    intro b hb
    simp only [List.mem_cons, List.mem_append, List.not_mem_nil, or_false] at hb ⊢
    rcases hb with hb | hb | hb
    · exact .inl hb
    · exact .inr (.inl hb)
    · exact .inr (.inr (.inl hb))
  refine ⟨h.rel.out ho (fun b hb _ => ⟨hX b hb, (h.xs b hb).2.2.2.1, (h.xs b hb).2.2.2.2⟩) (fun b hb _ => hs b hb) (by simp) (fun b hb => by simp [hb]), (ho.block _ (Array.getElem?_eq_some_iff.1 h.row).1 (fun hb => (h.xs _ hb).2.2.1 rfl)).trans h.row,
    h.far.out ho (fun b hb _ => hX b hb) (fun b hb _ => hs b hb), h.low.trans (ho.below (fun b hb => (h.xs b hb).1) h.low.size), h.gp, h.gg, h.ne, h.rbs, fun b hb => by cases hb⟩
/-- they are changed -/
theorem PInv.turn (h : PInv X w gm p rb ar L M A c W) (ho : Out X W W') : PInv X w gm p rb ar L M A c W' := by
  have hX : ∀ b ∈ X, b ∈ gm :: p :: (rb.toList ++ X) := fun b hb => by simp [hb]
  refine ⟨h.rel.out ho (fun b hb _ => ⟨hX b hb, (h.xs b hb).2.2.2.1, (h.xs b hb).2.2.2.2⟩) (fun b hb _ => hb) (by simp) (fun b hb => by simp [hb]), (ho.block _ (Array.getElem?_eq_some_iff.1 h.row).1 (fun hb => (h.xs _ hb).2.2.1 rfl)).trans h.row,
    h.far.out ho (fun b hb _ => hX b hb) (fun b hb _ => hb), h.low.trans (ho.below (fun b hb => (h.xs b hb).1) h.low.size), h.gp, h.gg, h.ne, h.rbs, fun b hx => by have h1 := h.xs b hx; have := ho.size; exact ⟨h1.1, by omega, h1.2.2⟩⟩
end
end Go.Proofs.Ytgomfmfaoeojkaa
