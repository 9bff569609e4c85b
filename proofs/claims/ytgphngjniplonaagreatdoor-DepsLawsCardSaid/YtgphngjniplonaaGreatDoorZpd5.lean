/- My own texts Queue, DgWm, as far as this claim needs them. -/
import Derived.Test.YtgphngjniplonaaGreatDoorZpd4
set_option linter.unusedVariables false
set_option linter.unusedSimpArgs false
set_option maxRecDepth 1000000
set_option maxHeartbeats 16000000
namespace Go.Proofs.YtgphngjniplonaaGreatDoor
open Go.RowKit
def QRow (w : World) (base e : Nat) (A : Option Addr) (n c : Nat) (xs : List Value) : Prop :=
  xs.length = n ∧ ((A = none ∧ n = 0 ∧ c = 0) ∨ ∃ g off cur, A = some ⟨g, off, none⟩ ∧ base ≤ g ∧ w.heap[g]? = some (.cells cur e (0, 0)) ∧ n ≤ c ∧ c ≤ maxLen ∧ off + c ≤ cur.size ∧ (cur.toList.drop off).take n = xs)
def blkQ (A : Option Addr) : List Nat := A.toList.map (·.block)
section
variable {w w' : World} {base e : Nat} {A : Option Addr} {n c : Nat} {xs : List Value}
theorem QRow.blk (h : QRow w base e A n c xs) {b : Nat} (hb : b ∈ blkQ A) : base ≤ b ∧ b < w.heap.size := by
  rcases h.2 with ⟨rfl, -⟩ | ⟨g, off, cur, rfl, h1, h2, -⟩
  · cases hb
  · simp [blkQ] at hb
    subst hb
    exact ⟨h1, (Array.getElem?_eq_some_iff.1 h2).1⟩
theorem QRow.same (h : QRow w base e A n c xs) (hs : ∀ b ∈ blkQ A, w'.heap[b]? = w.heap[b]?) : QRow w' base e A n c xs := by
  refine ⟨h.1, ?_⟩
  rcases h.2 with h0 | ⟨g, off, cur, rfl, h1, h2, h3⟩
  · exact .inl h0
  · exact .inr ⟨g, off, cur, rfl, h1, (hs g (by simp [blkQ])).trans h2, h3⟩
theorem QRow.one {g : Nat} {u : Value} (hg : w.heap[g]? = some (.cells #[u] e (0, 0))) : QRow w g e (some ⟨g, 0, none⟩) 1 1 [u] :=
  ⟨rfl, .inr ⟨g, 0, _, rfl, Nat.le_refl _, hg, by omega, by simp [maxLen], by simp, by simp⟩⟩
theorem QRow.head {u : Value} {us : List Value} (h : QRow w base e A n c (u :: us)) : ∃ g off, A = some ⟨g, off, none⟩ ∧ w.cell? ⟨g, off, none⟩ = some u ∧ 0 < n ∧ n ≤ c := by
  have hn := h.1
  rcases h.2 with ⟨-, rfl, -⟩ | ⟨g, off, cur, rfl, h1, h2, h3, h4, h5, h6⟩
  · simp at hn
  · refine ⟨g, off, rfl, ?_, by simp at hn; omega, h3⟩
    rw [cell_of_row _ _ _ _ _ _ h2]
    have e0 : ((cur.toList.drop off).take n)[0]? = some u := by rw [h6]; rfl
    rw [List.getElem?_take, if_pos (by simp at hn; omega), List.getElem?_drop] at e0
    simpa using e0
theorem QRow.tail {u : Value} {us : List Value} {g off : Nat} (h : QRow w base e (some ⟨g, off, none⟩) (n + 1) c (u :: us)) : (1 < c → QRow w base e (some ⟨g, off + 1, none⟩) n (c - 1) us) ∧ (c = 1 → QRow w base e (some ⟨g, off, none⟩) n (c - 1) us) := by
  have hn := h.1
  rcases h.2 with ⟨h0, -⟩ | ⟨g', off', cur, hA, h1, h2, h3, h4, h5, h6⟩
  · cases h0
  · injection hA with hA
    injection hA with e1 e2 e3
    subst e1 e2
    have hus : us.length = n := by simpa using hn
    refine ⟨fun hc => ⟨hus, .inr ⟨g, off + 1, cur, rfl, h1, h2, by omega, by omega, by omega, ?_⟩⟩, fun hc => ⟨hus, .inr ⟨g, off, cur, rfl, h1, h2, by omega, by omega, by omega, ?_⟩⟩⟩
    · have e0 : (cur.toList.drop (off + 1)).take n = ((cur.toList.drop off).take (n + 1)).tail := by
        rw [← List.drop_one, List.drop_take, List.drop_drop]
        rfl
      rw [e0, h6]
      rfl
    · have hn0 : n = 0 := by omega
      subst hn0
      have : us = [] := List.eq_nil_of_length_eq_zero hus
      subst this
      simp
theorem QRow.push {P : Program} {t ty bytes : Nat} {z : Value} (ht : P.underlying t = some (.slice e)) (hi : (P.info? e).map (fun i => (i.zero, i.size, i.bytes)) = some (some z, 1, bytes)) (hzs : z.cells.size = 1)
    (h : QRow w base e A n c xs) {g : Nat} {u : Value} (hg : w.heap[g]? = some (.cells #[u] e (0, 0))) (h1 : u.oneCell' = true) (h63 : n + 1 ≤ maxLen) (hbytes : (n + 1) * bytes ≤ 140737488355328) (hbase : base ≤ w.heap.size) :
    ∃ A' c' w', (Builtin.append_ #[t, t] ty #[.slice A n c, .slice (some ⟨g, 0, none⟩) 1 1]).run P w = .ok (.slice A' (n + 1) c') w' ∧ QRow w' base e A' (n + 1) c' (xs ++ [u]) ∧ Out (blkQ A) w w' ∧ ∀ b ∈ blkQ A', b ∈ blkQ A ∨ w.heap.size ≤ b := by
  obtain ⟨i, hi', hz, hs, hb⟩ := info_parts hi
  have hnews : ∀ j v, [u][j]? = some v → w.cell? ((⟨g, 0, none⟩ : Addr).add j) = some v := by
    intro j v hu
    have hadd : (⟨g, 0, none⟩ : Addr).add j = ⟨g, j, none⟩ := by unfold Addr.add; split <;> simp_all
    rw [hadd, cell_of_row _ g j _ e (0, 0) hg]
    simpa using hu
  have hl : [u].length = 1 * i.size := by rw [hs]; rfl
  have hone : ∀ v ∈ [u], v.oneCell' = true := fun v hv => by rw [List.mem_singleton.1 hv]; exact h1
  have hx := h.1
  have hsmall : n + 1 ≤ 9223372036854775807 := by simp only [maxLen] at h63; omega
  have grown : ∀ (old : Nat) (T : List Nat), old < n + 1 →
      QRow (w.drew.alloc (.cells (xs.toArray ++ [u].toArray ++ Builtin.zeroCells z.cells (grownCap w (n + 1) old e - (n + 1))) e)) base e (some ⟨w.heap.size, 0, none⟩) (n + 1) (grownCap w (n + 1) old e) (xs ++ [u]) ∧
      Out T w (w.drew.alloc (.cells (xs.toArray ++ [u].toArray ++ Builtin.zeroCells z.cells (grownCap w (n + 1) old e - (n + 1))) e)) := by
    intro old T ho
    have hge := grownCap_ge w (n + 1) old e
    have hcm : grownCap w (n + 1) old e ≤ maxLen := grownCap_le_maxLen w (n + 1) old e h63
    refine ⟨⟨by simp [hx], .inr ⟨w.heap.size, 0, _, rfl, hbase, heap_alloc_new w.drew _, hge, hcm, ?_, ?_⟩⟩, ⟨rfl, rfl, rfl, by simp, fun k hk _ => by first | exact heap_alloc_old w.drew _ k hk | exact heap_alloc_old w.drew _ hk⟩⟩
    · simp only [Array.size_append, List.size_toArray, size_zeroCells, hzs, hx, List.length_singleton]
      omega
    · simp only [Array.toList_append, List.append_assoc, List.drop_zero]
      rw [← List.append_assoc, show n + 1 = (xs ++ [u]).length by simp [hx]]
      exact List.take_left
  rcases h.2 with ⟨rfl, rfl, rfl⟩ | ⟨g0, off, cur, rfl, hbg, hg0, hnc, hcm, hcs, htake⟩
  · have hxe : xs = [] := List.eq_nil_of_length_eq_zero hx
    subst hxe
    have hr := run_append_nil (P := P) w t ty e i z ht hi' hz ⟨g, 0, none⟩ 1 1 [u] hl hnews (by omega) (by omega) (by rw [hb]; omega)
    obtain ⟨q1, q2⟩ := grown 0 (blkQ none) (by omega)
    simp only [Nat.zero_add, List.nil_append, Array.empty_append] at q1 q2 hr ⊢
    refine ⟨_, _, _, hr, ?_, ?_, fun b hb' => .inr ?_⟩
    · simpa using q1
    · simpa using q2
    · simp [blkQ] at hb'; omega
  · by_cases hroom : n + 1 ≤ c
    · have hf := run_firstCells_some (P := P) w i.size 1 ⟨g, 0, none⟩ 1 1 [u] hl hnews
      have hst := run_storeCells_at P g0 (off + n) e [u] 0 cur w hg0 (by simp; omega) hone
      simp only [Nat.add_zero] at hst
      have hr : (Builtin.append_ #[t, t] ty #[.slice (some ⟨g0, off, none⟩) n c, .slice (some ⟨g, 0, none⟩) 1 1]).run P w =
          .ok (.slice (some ⟨g0, off, none⟩) (n + 1) c) (w.setRow g0 (cur.toList.take (off + n) ++ [u] ++ cur.toList.drop (off + n + 1)).toArray) := by
        rw [hs] at hf
        simp [Builtin.append_, run_underlying ht, sizeOf, typeInfo, hi', hs, Builtin.lenOf, hroom, hf, Addr.add_lit, hst]
      refine ⟨_, _, _, hr, ⟨by simp [hx], .inr ⟨g0, off, _, rfl, hbg, setRow_heap w g0 cur _ e _ hg0, hroom, hcm, ?_, ?_⟩⟩, ⟨rfl, rfl, rfl, by simp, fun k _ hk => setRow_other w g0 k _ (fun e => hk (by simp [blkQ, e]))⟩, fun b hb' => .inl hb'⟩
      · simp only [List.size_toArray, List.length_append, List.length_take, List.length_drop, Array.length_toList, List.length_singleton]
        omega
      · have hlt : (cur.toList.take (off + n)).length = off + n := by rw [List.length_take, Array.length_toList]; omega
        rw [List.append_assoc, List.drop_append_of_le_length (by omega), List.drop_take, show off + n - off = n by omega, htake, ← List.append_assoc, show n + 1 = (xs ++ [u]).length by simp [hx]]
        exact List.take_left
    · have holds : ∀ j v, xs[j]? = some v → w.cell? ((⟨g0, off, none⟩ : Addr).add j) = some v := by
        intro j v hv
        have hadd : (⟨g0, off, none⟩ : Addr).add j = ⟨g0, off + j, none⟩ := by unfold Addr.add; split <;> simp_all
        rw [hadd, cell_of_row _ g0 _ cur e (0, 0) hg0]
        rw [← htake, List.getElem?_take] at hv
        split at hv
        · rw [List.getElem?_drop] at hv; simpa using hv
        · cases hv
      have hr := run_append_grow (P := P) w t ty e i z ht hi' hz ⟨g0, off, none⟩ n c xs (by rw [hx, hs, Nat.mul_one]) holds ⟨g, 0, none⟩ 1 1 [u] hl hnews (by omega) (by omega) (growslice_fits (by omega) (by rw [hb]; exact hbytes))
      obtain ⟨q1, q2⟩ := grown c (blkQ (some ⟨g0, off, none⟩)) (by omega)
      exact ⟨_, _, _, hr, q1, q2, fun b hb' => .inr (by simp [blkQ] at hb'; omega)⟩
end
end Go.Proofs.YtgphngjniplonaaGreatDoor

namespace Go.Proofs.YtgphngjniplonaaGreatDoor
open Go.RowKit
abbrev intV (x : Int) : Value := .int .i64 x
structure WkM (w : World) (n : Int) (A : Option Addr) (m c : Nat) (kv : List (Int × Value)) (os qs : List Int) (g8 : Nat) (Ao : Option Addr) (co : Nat) (At : Option Addr) (ct : Nat) (W : World) : Prop where
  r2 : W.heap[w.heap.size]? = some (.cells #[.int .i64 n, .slice A m c] 31 (0, 0))
  mp : MapN W (w.heap.size + 1) kv
  r6 : W.heap[w.heap.size + 2]? = some (.cells #[.map (some (w.heap.size + 1))] 124 (0, 0))
  r7 : W.heap[w.heap.size + 3]? = some (.cells #[.slice Ao os.length co] 58 (0, 0))
  ro : W.ownsRow (w.heap.size + 4) 3 1 (.slice Ao os.length co) os.length (os.map intV)
  r8 : W.heap[g8]? = some (.cells #[.slice At qs.length ct] 58 (0, 0))
  rq : QRow W (w.heap.size + 4) 3 At qs.length ct (qs.map intV)
  ne : ∀ b ∈ blkOf Ao, b ∉ blkQ At
  lo : w.heap.size + 4 ≤ g8
  bw : Below w.heap.size w W
section
variable {w : World} {n : Int} {A : Option Addr} {m c : Nat} {kv : List (Int × Value)} {os qs : List Int} {g8 : Nat} {Ao : Option Addr} {co : Nat} {At : Option Addr} {ct : Nat} {W W' : World}
theorem own_mem (h : W.ownsRow (w.heap.size + 4) 3 1 (.slice Ao os.length co) os.length (os.map intV)) {b : Nat} (hb : b ∈ blkOf Ao) : w.heap.size + 4 ≤ b ∧ b < W.heap.size ∧ ∃ cur, W.heap[b]? = some (.cells cur 3 (0, 0)) := by
  rw [← ownBlock_blk Ao os.length co] at hb
  have hb' := Option.mem_toList.1 hb
  exact ⟨(own_blk h hb').1, (own_blk h hb').2, own_typeR h hb'⟩
theorem QRow.typ {base e nn cc : Nat} {xs : List Value} (h : QRow W base e At nn cc xs) {b : Nat} (hb : b ∈ blkQ At) : ∃ cur, W.heap[b]? = some (.cells cur e (0, 0)) := by
  rcases h.2 with ⟨rfl, -⟩ | ⟨g, off, cur, rfl, h1, h2, -⟩
  · cases hb
  · simp [blkQ] at hb; subst hb; exact ⟨cur, h2⟩
theorem WkM.g8o (h : WkM w n A m c kv os qs g8 Ao co At ct W) : g8 ∉ blkOf Ao := fun hb => by
  obtain ⟨-, -, cur, hc⟩ := own_mem h.ro hb
  rw [h.r8] at hc
  injection hc with hc
  injection hc with _ hc _
  exact absurd hc (by decide)
theorem WkM.g8q (h : WkM w n A m c kv os qs g8 Ao co At ct W) : g8 ∉ blkQ At := fun hb => by
  obtain ⟨cur, hc⟩ := h.rq.typ hb
  rw [h.r8] at hc
  injection hc with hc
  injection hc with _ hc _
  exact absurd hc (by decide)
theorem WkM.same (h : WkM w n A m c kv os qs g8 Ao co At ct W) (hs : ∀ b, (b = w.heap.size ∨ b = w.heap.size + 1 ∨ b = w.heap.size + 2 ∨ b = w.heap.size + 3 ∨ b = g8 ∨ b ∈ blkOf Ao ∨ b ∈ blkQ At) → W'.heap[b]? = W.heap[b]?) (hb : Below w.heap.size w W') : WkM w n A m c kv os qs g8 Ao co At ct W' := by
  refine ⟨(hs _ (by simp)).trans h.r2, h.mp.same (hs _ (by simp)), (hs _ (by simp)).trans h.r6, (hs _ (by simp)).trans h.r7, ?_, (hs _ (by simp)).trans h.r8, h.rq.same (fun b hb' => hs b (by simp [hb'])), h.ne, h.lo, hb⟩
  refine ⟨h.ro.1, ?_⟩
  rcases h.ro.2 with h0 | ⟨g, cap, cur, hv, h1, h2, h3⟩
  · exact .inl h0
  · injection hv with e1 _ _
    exact .inr ⟨g, cap, cur, by rw [e1]; simp_all, h1, (hs g (by rw [e1]; simp [blkOf])).trans h2, h3⟩
theorem WkM.below (h : WkM w n A m c kv os qs g8 Ao co At ct W) (hb : Below W.heap.size W W') : WkM w n A m c kv os qs g8 Ao co At ct W' := by
  have hz := h.mp.lt
  have h3 := (Array.getElem?_eq_some_iff.1 h.r7).1
  have h8 := (Array.getElem?_eq_some_iff.1 h.r8).1
  refine h.same (fun b hq => hb.block b ?_) (h.bw.trans (hb.mono h.bw.size))
  rcases hq with rfl | rfl | rfl | rfl | rfl | hq | hq
  · omega
  · omega
  · omega
  · omega
  · omega
  · exact (own_mem h.ro hq).2.1
  · exact (h.rq.blk hq).2
theorem WkM.soft (h : WkM w n A m c kv os qs g8 Ao co At ct W) {B : Nat} (hs : Soft B W W') (hB : w.heap.size + 1 < B) : WkM w n A m c kv os qs g8 Ao co At ct W' := by
  obtain ⟨es, clock, hm, -⟩ := h.mp.ex
  refine h.same (fun b hq => ?_) (h.bw.trans (hs.below (by omega) h.bw.size))
  rcases hq with rfl | rfl | rfl | rfl | rfl | hq | hq
  · rw [h.r2]; exact hs.row h.r2
  · rw [hm]; exact hs.same _ _ hm (.inl hB)
  · rw [h.r6]; exact hs.row h.r6
  · rw [h.r7]; exact hs.row h.r7
  · rw [h.r8]; exact hs.row h.r8
  · obtain ⟨-, -, cur, hc⟩ := own_mem h.ro hq; rw [hc]; exact hs.row hc
  · obtain ⟨cur, hc⟩ := h.rq.typ hq; rw [hc]; exact hs.row hc
theorem WkM.put {kv' : List (Int × Value)} (h : WkM w n A m c kv os qs g8 Ao co At ct W) (hg : W.grownBy W' (some (w.heap.size + 1))) (hm : MapN W' (w.heap.size + 1) kv') (_hz : W'.heap.size = W.heap.size) : WkM w n A m c kv' os qs g8 Ao co At ct W' := by
  have hb : Below w.heap.size w W' := h.bw.trans ((grown_out hg).below (fun b hb => by simp at hb; omega) h.bw.size)
  have hlt := h.mp.lt
  have h3 := (Array.getElem?_eq_some_iff.1 h.r7).1
  have h8 := (Array.getElem?_eq_some_iff.1 h.r8).1
  have h8l := h.lo
  have hs : ∀ b, b < W.heap.size → b ≠ w.heap.size + 1 → W'.heap[b]? = W.heap[b]? := fun b hb hne => hg.block b hb (by simpa using hne)
  refine ⟨(hs _ (by omega) (by omega)).trans h.r2, hm, (hs _ (by omega) (by omega)).trans h.r6, (hs _ (by omega) (by omega)).trans h.r7, ?_, (hs _ (by omega) (by omega)).trans h.r8, h.rq.same (fun b hb' => hs b (h.rq.blk hb').2 (by have := (h.rq.blk hb').1; omega)), h.ne, h.lo, hb⟩
  refine own_out' h.ro (grown_out hg) (fun b hb hm => ?_)
  have := (own_blk h.ro hb).1
  simp at hm
  omega
theorem int_info1 : (Tryz.prog.info? 3).map (fun i => (i.zero, i.size, i.bytes)) = some (some (.int .i64 0), 1, 8) := by kernel_rfl
theorem WkM.pushO (h : WkM w n A m c kv os qs g8 Ao co At ct W) (y : Int) (hk : os.length + 1 ≤ 1000000) :
    ∃ A' c' X, (∀ ty, (Builtin.append_ #[58, 58] ty #[.slice Ao os.length co, .slice (some ⟨W.heap.size, 0, none⟩) 1 1]).run Tryz.prog (W.alloc (.cells #[.int .i64 y] 3)) = .ok (.slice A' (os.length + 1) c') X) ∧
      X.cell? ⟨w.heap.size + 3, 0, none⟩ = some (.slice Ao os.length co) ∧ X.frozen? ⟨w.heap.size + 3, 0, none⟩ = false ∧ W.heap.size ≤ X.heap.size ∧
      WkM w n A m c kv (os ++ [y]) qs g8 A' c' At ct (X.setCell ⟨w.heap.size + 3, 0, none⟩ (.slice A' (os.length + 1) c')) ∧
      Out ((w.heap.size + 3) :: blkOf Ao) W (X.setCell ⟨w.heap.size + 3, 0, none⟩ (.slice A' (os.length + 1) c')) ∧ ∀ b ∈ blkOf A', b ∈ blkOf Ao ∨ W.heap.size ≤ b := by
  have hba : Below W.heap.size W (W.alloc (.cells #[.int .i64 y] 3)) := belowA (Below.refl _ _) _
  have h1 := h.below hba
  have hz1 : (W.alloc (.cells #[.int .i64 y] 3)).heap.size = W.heap.size + 1 := by simp
  have hlw := h1.bw.size
  have h3 := (Array.getElem?_eq_some_iff.1 h.r7).1
  have h8 := (Array.getElem?_eq_some_iff.1 h.r8).1
  have hl8 := h.lo
  obtain ⟨A', c', X, q1, q2, q3, q4⟩ := push_more (P := Tryz.prog) (ty := 0) (W.alloc (.cells #[.int .i64 y] 3)) (base := w.heap.size + 4) (t := 58) Tryz.underlying58 int_info1 rfl (by decide) h1.ro W.heap.size [.int .i64 y] rfl (heapNew rfl) (by intro u hu; rw [List.mem_singleton.1 hu]; rfl) (by simp only [maxLen]; omega) (by omega) (by rw [hz1]; omega)
  rw [ownBlock_blk] at q3
  have hOW : Out (blkOf Ao) W X := (Out.of_below hba _).trans q3 (fun b hb _ => hb)
  have hXz : W.heap.size + 1 ≤ X.heap.size := by rw [← hz1]; exact q3.size
  have hnO : ∀ b, b < w.heap.size + 4 → b ∉ blkOf Ao := fun b hb hm => by have := (own_mem h.ro hm).1; omega
  have hr7 : X.heap[w.heap.size + 3]? = some (.cells #[.slice Ao os.length co] 58 (0, 0)) := (hOW.block _ h3 (hnO _ (by omega))).trans h.r7
  have hnew : ∀ b ∈ blkOf A', b ∈ blkOf Ao ∨ W.heap.size ≤ b := fun b hb => by
    rw [← ownBlock_blk A' (os.length + 1) c'] at hb
    rcases q4 b (Option.mem_toList.1 hb) with h5 | h5
    · left; rw [← ownBlock_blk Ao os.length co]; exact Option.mem_toList.2 h5
    · right; rw [hz1] at h5; omega
  have hset := set_out X (w.heap.size + 3) 0 (.slice A' (os.length + 1) c')
  have hall : Out ((w.heap.size + 3) :: blkOf Ao) W (X.setCell ⟨w.heap.size + 3, 0, none⟩ (.slice A' (os.length + 1) c')) := (hOW.mono (fun b hb _ => List.mem_cons_of_mem _ hb)).trans hset (fun b hb _ => by simp at hb; simp [hb])
  have hle : (os ++ [y]).length = os.length + 1 := by simp
  have hk : ∀ b, b < W.heap.size → b ≠ w.heap.size + 3 → b ∉ blkOf Ao → (X.setCell ⟨w.heap.size + 3, 0, none⟩ (.slice A' (os.length + 1) c')).heap[b]? = W.heap[b]? := fun b hb h5 h6 => hall.block b hb (by simp [h5, h6])
  refine ⟨A', c', X, fun _ => q1, (cell_of_row _ _ 0 _ _ _ hr7).trans rfl, frozen_of_row _ _ _ _ _ hr7, by omega, ⟨?_, ?_, ?_, ?_, ?_, ?_, ?_, ?_, h.lo, ?_⟩, hall, hnew⟩
  · exact (hk _ (by omega) (by omega) (hnO _ (by omega))).trans h.r2
  · exact h.mp.same (hk _ (by omega) (by omega) (hnO _ (by omega)))
  · exact (hk _ (by omega) (by omega) (hnO _ (by omega))).trans h.r6
  · rw [hle]; exact set_zero hr7
  · rw [hle, List.map_append]
    exact own_out' q2 hset (fun b hb hm => by
      simp at hm
      rw [← Option.mem_toList, ownBlock_blk] at hb
      rcases hnew b hb with h5 | h5
      · exact hnO _ (by omega) h5
      · omega)
  · exact (hk _ h8 (by omega) h.g8o).trans h.r8
  · exact h.rq.same (fun b hb => hk b (h.rq.blk hb).2 (by have := (h.rq.blk hb).1; omega) (fun h5 => h.ne b h5 hb))
  · intro b hb hq
    rcases hnew b hb with h5 | h5
    · exact h.ne b h5 hq
    · have := (h.rq.blk hq).2; omega
  · exact h.bw.trans (hall.below (fun b hb => by
      rcases List.mem_cons.1 hb with rfl | hb
      · omega
      · have := (own_mem h.ro hb).1; omega) h.bw.size)
theorem WkM.pushQ (h : WkM w n A m c kv os qs g8 Ao co At ct W) (y : Int) (hk : qs.length + 1 ≤ 1000000) :
    ∃ A' c' X, (∀ ty, (Builtin.append_ #[58, 58] ty #[.slice At qs.length ct, .slice (some ⟨W.heap.size, 0, none⟩) 1 1]).run Tryz.prog (W.alloc (.cells #[.int .i64 y] 3)) = .ok (.slice A' (qs.length + 1) c') X) ∧
      X.cell? ⟨g8, 0, none⟩ = some (.slice At qs.length ct) ∧ X.frozen? ⟨g8, 0, none⟩ = false ∧ W.heap.size ≤ X.heap.size ∧
      WkM w n A m c kv os (qs ++ [y]) g8 Ao co A' c' (X.setCell ⟨g8, 0, none⟩ (.slice A' (qs.length + 1) c')) ∧
      Out (g8 :: blkQ At) W (X.setCell ⟨g8, 0, none⟩ (.slice A' (qs.length + 1) c')) ∧ ∀ b ∈ blkQ A', b ∈ blkQ At ∨ W.heap.size ≤ b := by
  have hba : Below W.heap.size W (W.alloc (.cells #[.int .i64 y] 3)) := belowA (Below.refl _ _) _
  have h1 := h.below hba
  have hz1 : (W.alloc (.cells #[.int .i64 y] 3)).heap.size = W.heap.size + 1 := by simp
  have hlw := h1.bw.size
  have h3 := (Array.getElem?_eq_some_iff.1 h.r7).1
  have h8 := (Array.getElem?_eq_some_iff.1 h.r8).1
  have hl8 := h.lo
  obtain ⟨A', c', X, q1, q2, q3, q4⟩ := h1.rq.push (P := Tryz.prog) (t := 58) (ty := 0) Tryz.underlying58 int_info1 rfl (g := W.heap.size) (u := .int .i64 y) (heapNew rfl) rfl (by simp only [maxLen]; omega) (by omega) (by rw [hz1]; omega)
  have hOW : Out (blkQ At) W X := (Out.of_below hba _).trans q3 (fun b hb _ => hb)
  have hXz : W.heap.size + 1 ≤ X.heap.size := by rw [← hz1]; exact q3.size
  have hnO : ∀ b, b < w.heap.size + 4 → b ∉ blkQ At := fun b hb hm => by have := (h.rq.blk hm).1; omega
  have hr8 : X.heap[g8]? = some (.cells #[.slice At qs.length ct] 58 (0, 0)) := (hOW.block _ h8 h.g8q).trans h.r8
  have hnew : ∀ b ∈ blkQ A', b ∈ blkQ At ∨ W.heap.size ≤ b := fun b hb => by
    rcases q4 b hb with h5 | h5
    · exact .inl h5
    · right; rw [hz1] at h5; omega
  have hset := set_out X g8 0 (.slice A' (qs.length + 1) c')
  have hall : Out (g8 :: blkQ At) W (X.setCell ⟨g8, 0, none⟩ (.slice A' (qs.length + 1) c')) := (hOW.mono (fun b hb _ => List.mem_cons_of_mem _ hb)).trans hset (fun b hb _ => by simp at hb; simp [hb])
  have hle : (qs ++ [y]).length = qs.length + 1 := by simp
  have hk : ∀ b, b < W.heap.size → b ≠ g8 → b ∉ blkQ At → (X.setCell ⟨g8, 0, none⟩ (.slice A' (qs.length + 1) c')).heap[b]? = W.heap[b]? := fun b hb h5 h6 => hall.block b hb (by simp [h5, h6])
  refine ⟨A', c', X, fun _ => q1, (cell_of_row _ _ 0 _ _ _ hr8).trans rfl, frozen_of_row _ _ _ _ _ hr8, by omega, ⟨?_, ?_, ?_, ?_, ?_, ?_, ?_, ?_, h.lo, ?_⟩, hall, hnew⟩
  · exact (hk _ (by omega) (by omega) (hnO _ (by omega))).trans h.r2
  · exact h.mp.same (hk _ (by omega) (by omega) (hnO _ (by omega)))
  · exact (hk _ (by omega) (by omega) (hnO _ (by omega))).trans h.r6
  · exact (hk _ h3 (by omega) (hnO _ (by omega))).trans h.r7
  · exact own_out' h.ro hall (fun b hb hm => by
      rw [← Option.mem_toList, ownBlock_blk] at hb
      rcases List.mem_cons.1 hm with rfl | hm
      · exact h.g8o hb
      · exact h.ne b hb hm)
  · rw [hle]; exact set_zero hr8
  · rw [hle, List.map_append]
    refine q2.same (fun b hb => ?_)
    refine World.heap_setCells_other' ?_
    rintro rfl
    rcases hnew b hb with h5 | h5
    · exact h.g8q h5
    · omega
  · intro b hb hq
    rcases hnew b hq with h5 | h5
    · exact h.ne b hb h5
    · have := (own_mem h.ro hb).2.1; omega
  · exact h.bw.trans (hall.below (fun b hb => by
      rcases List.mem_cons.1 hb with rfl | hb
      · omega
      · have := (h.rq.blk hb).1; omega) h.bw.size)
theorem WkM.box (h : WkM w n A m c kv os qs g8 Ao co At ct W) : WkM w n A m c kv os qs W.heap.size Ao co At ct (W.alloc (.cells #[.slice At qs.length ct] 58)) := by
  have h1 := h.below (belowA (Below.refl _ _) (.cells #[.slice At qs.length ct] 58))
  have h3 := (Array.getElem?_eq_some_iff.1 h.r8).1
  have h4 := h.lo
  exact ⟨h1.r2, h1.mp, h1.r6, h1.r7, h1.ro, heapNew rfl, h1.rq, h1.ne, by omega, h1.bw⟩
theorem WkM.tail {x : Int} (h : WkM w n A m c kv os (x :: qs) g8 Ao co At ct W) : ∃ b o, At = some ⟨b, o, none⟩ ∧ W.cell? ⟨b, o, none⟩ = some (.int .i64 x) ∧ qs.length + 1 ≤ ct ∧
    (1 < ct → WkM w n A m c kv os qs g8 Ao co (some ⟨b, o + 1, none⟩) (ct - 1) (W.setCell ⟨g8, 0, none⟩ (.slice (some ⟨b, o + 1, none⟩) qs.length (ct - 1)))) ∧
    (ct = 1 → WkM w n A m c kv os qs g8 Ao co (some ⟨b, o, none⟩) (ct - 1) (W.setCell ⟨g8, 0, none⟩ (.slice (some ⟨b, o, none⟩) qs.length (ct - 1)))) := by
  obtain ⟨b, o, rfl, hc, h0, h1⟩ := QRow.head (us := qs.map intV) h.rq
  have h3 := (Array.getElem?_eq_some_iff.1 h.r7).1
  have h8 := (Array.getElem?_eq_some_iff.1 h.r8).1
  have hl8 := h.lo
  obtain ⟨t1, t2⟩ := QRow.tail (n := qs.length) (u := .int .i64 x) (us := qs.map intV) h.rq
  have main : ∀ (A' : Option Addr) (c' : Nat), (∀ b' ∈ blkQ A', b' ∈ blkQ (some ⟨b, o, none⟩)) → QRow W (w.heap.size + 4) 3 A' qs.length c' (qs.map intV) → WkM w n A m c kv os qs g8 Ao co A' c' (W.setCell ⟨g8, 0, none⟩ (.slice A' qs.length c')) := fun A' c' hA hq => by
    have hset := set_out W g8 0 (.slice A' qs.length c')
    have hk : ∀ b', b' ≠ g8 → (W.setCell ⟨g8, 0, none⟩ (.slice A' qs.length c')).heap[b']? = W.heap[b']? := fun b' h5 => World.heap_setCells_other' h5
    refine ⟨(hk _ (by omega)).trans h.r2, h.mp.same (hk _ (by omega)), (hk _ (by omega)).trans h.r6, (hk _ (by omega)).trans h.r7, ?_, set_zero h.r8, ?_, ?_, h.lo, h.bw.trans (hset.below (fun b' hb' => by simp at hb'; omega) h.bw.size)⟩
    · exact own_out' h.ro hset (fun b' hb' hm => by
        simp at hm; subst hm
        rw [← Option.mem_toList, ownBlock_blk] at hb'
        exact h.g8o hb')
    · refine hq.same (fun b' hb' => hk b' ?_)
      rintro rfl
      exact h.g8q (hA _ hb')
    · exact fun b' hb' hq' => h.ne b' hb' (hA _ hq')
  exact ⟨b, o, rfl, hc, h1, fun h5 => main _ _ (fun b' hb' => by simpa [blkQ] using hb') (t1 h5), fun h5 => main _ _ (fun b' hb' => by simpa [blkQ] using hb') (t2 h5)⟩
end
end Go.Proofs.YtgphngjniplonaaGreatDoor
