/- All components, in whatever order: the walk of parts. -/
import Derived.Test.YtdbpbchhkdconaaScRn
namespace Go.Proofs.Ytdbpbchhkdconaa
open Go.RowKit

def PartsPost (N : Nat) (l : List GEdge) (w : World) (e : Ending) (w' : World) : Prop :=
  ∃ A c outs σ S, e = .returned (.slice A outs.length c) ∧ RowOf (Enc.slice Enc.nat) w' w.heap.size 29 S A outs.length c outs ∧ (∀ b ∈ blkOf A, b ∈ S) ∧ PartsOf outs σ.out ∧ TInv (needsN (N : Int) l) σ ∧ TIn N σ ∧ σ.wrk = [] ∧ (∀ v, v < N → σ.idx v ≠ 0) ∧ Below w.heap.size w w'

set_option maxRecDepth 100000 in
set_option maxHeartbeats 8000000 in
theorem parts_any (N : Nat) (hN : N ≤ 32) (A : Option Addr) (m c : Nat) (l : List GEdge) (w : World) (hl : SliceIs Enc.edge w w.heap.size A m c l) (hm : m ≤ 10000) : Calls Try.prog 26 #[graphV (N : Int) A m c] w (PartsPost N l w) := by
  have hmm := @run_makeMap Try.prog
  have HR := Lib.hid (fun (W : World) (p kI kL kO : Nat) (σ : TS) (h : TarS W w.heap.size p (N : Int) (.slice A m c) kI kL kO σ) (hb : Below w.heap.size w W) (h1 : TInv (needsN (N : Int) l) σ) (h2 : TIn N σ) (h3 : σ.wrk = []) (n0 : Nat) (hn0 : n0 < N) (h0 : σ.idx n0 = 0) => run_any N hN h hb.size (hl.below hb) hm h1 h2 h3 n0 hn0 h0)
  obtain ⟨P, HP⟩ : ∃ P : Ending → World → Prop, Hid (P = PartsPost N l w) := ⟨_, rfl⟩
  rw [← HP.out]
  clear hl
  go_enter Try.func26, Try.ntmps26
  go_wp2_with fail
  have ht0 : TarS (((((w.alloc (.cells #[.int .i64 (N : Int), .slice A m c] 24)).alloc (.map #[] 0)).alloc (.map #[] 0)).alloc (.map #[] 0)).alloc (.cells #[.int .i64 (N : Int), .slice A m c, .map (some (w.heap.size + 1)), .map (some (w.heap.size + 1 + 1)), .slice none 0 0, .map (some (w.heap.size + 1 + 1 + 1)), .slice none 0 0, .slice none 0 0] 77))
      w.heap.size (w.heap.size + 1 + 1 + 1 + 1) (N : Int) (.slice A m c) (w.heap.size + 1) (w.heap.size + 1 + 1) (w.heap.size + 1 + 1 + 1) TS.zero := by
    have k1 : NumN ((w.alloc (.cells #[.int .i64 (N : Int), .slice A m c] 24)).alloc (.map #[] 0)) (w.heap.size + 1) (fun _ => 0) 0 := by
      have := NumN.made (w := w.alloc (.cells #[.int .i64 (N : Int), .slice A m c] 24))
      simpa using this
    have k2 : NumN (((w.alloc (.cells #[.int .i64 (N : Int), .slice A m c] 24)).alloc (.map #[] 0)).alloc (.map #[] 0)) (w.heap.size + 1 + 1) (fun _ => 0) 0 := by
      have := NumN.made (w := (w.alloc (.cells #[.int .i64 (N : Int), .slice A m c] 24)).alloc (.map #[] 0))
      simpa using this
    have k3 : NumN ((((w.alloc (.cells #[.int .i64 (N : Int), .slice A m c] 24)).alloc (.map #[] 0)).alloc (.map #[] 0)).alloc (.map #[] 0)) (w.heap.size + 1 + 1 + 1) (fun _ => 0) 0 := by
      have := NumN.made (w := ((w.alloc (.cells #[.int .i64 (N : Int), .slice A m c] 24)).alloc (.map #[] 0)).alloc (.map #[] 0))
      simpa using this
    have up : ∀ (W : World) (o : Obj) (g : Nat), NumN W g (fun _ => 0) 0 → NumN (W.alloc o) g (fun _ => 0) 0 := fun W o g h => h.same (Below.heap_alloc W o g h.lt)
    refine ⟨none, 0, none, 0, none, 0, fun _ => 0, [], ⟨heapNew (by simp), up _ _ _ (up _ _ _ (up _ _ _ k1)), ⟨0, up _ _ _ (up _ _ _ k2)⟩, ⟨0, up _ _ _ k3⟩, RowOf.nil _, RowOf.nil _, RowOf.nil _, ⟨by omega, by omega, by omega⟩, ⟨by omega, by omega, by omega, by omega⟩⟩, fun v => by simp [TS.zero], ⟨rfl, fun i q p hq => by simp at hq⟩⟩
  have hb0 : Below w.heap.size w (((((w.alloc (.cells #[.int .i64 (N : Int), .slice A m c] 24)).alloc (.map #[] 0)).alloc (.map #[] 0)).alloc (.map #[] 0)).alloc (.cells #[.int .i64 (N : Int), .slice A m c, .map (some (w.heap.size + 1)), .map (some (w.heap.size + 1 + 1)), .slice none 0 0, .map (some (w.heap.size + 1 + 1 + 1)), .slice none 0 0, .slice none 0 0] 77)) := belowA (belowA (belowA (belowA (belowA (Below.refl _ _) _) _) _) _) _
  generalize (((((w.alloc (.cells #[.int .i64 (N : Int), .slice A m c] 24)).alloc (.map #[] 0)).alloc (.map #[] 0)).alloc (.map #[] 0)).alloc (.cells #[.int .i64 (N : Int), .slice A m c, .map (some (w.heap.size + 1)), .map (some (w.heap.size + 1 + 1)), .slice none 0 0, .map (some (w.heap.size + 1 + 1 + 1)), .slice none 0 0, .slice none 0 0] 77)) = V at ht0 hb0 ⊢
  have HT0 := Lib.hid ht0
  have HB0 := Lib.hid hb0
  clear ht0 hb0 hmm
  generalize hp : w.heap.size + 1 + 1 + 1 + 1 = p at *
  generalize hk1 : w.heap.size + 1 + 1 + 1 = kO at *
  generalize hk2 : w.heap.size + 1 + 1 = kL at *
  generalize hk3 : w.heap.size + 1 = kI at *
  clear hp hk1 hk2 hk3
  go_loopw [4, 13] (fun _ i wr => ∃ (j : Nat) (σ : TS), j ≤ N ∧ i = .int .i64 (j : Int) ∧ Hid (TarS wr w.heap.size p (N : Int) (.slice A m c) kI kL kO σ) ∧ Hid (TInv (needsN (N : Int) l) σ ∧ TIn N σ ∧ σ.wrk = []) ∧ Hid (∀ v, v < j → σ.idx v ≠ 0) ∧ Hid (Below w.heap.size w wr)) (fun _ i _ => N - (intOf i).toNat)
  case atStart => exact ⟨0, TS.zero, by omega, rfl, HT0, ⟨TInv.zero _, TIn.zero, rfl⟩, (fun v hv => by omega), HB0⟩
  case round =>
    obtain ⟨j, σ, hj, rfl, HT, HI, HV, HB⟩ := hrel
    have i0 : (0 : Int) ≤ (j : Int) := by omega
    obtain ⟨As, cs, Aw, cw, Ao, co, fO, outs, ht, hfo, hpa⟩ := HT.out
    have p2 := ht.cells.2.2.1
    have p7 := ht.cells.2.2.2.2.2.2.2
    have lk := ht.mI.look under_map under_int (zero_num _) j
    by_cases hlt : j < N
    · have i1 : (j : Int) < (N : Int) := by omega
      by_cases h0 : σ.idx j = 0
      · rw [h0] at lk
        have HC := Lib.hid (HR.out wr p kI kL kO σ HT.out HB.out HI.out.1 HI.out.2.1 HI.out.2.2 j hlt h0)
        clear ht hfo hpa h0 p7
        go_wp2_with fail
        refine HC.out.mono ?_
        rintro e w1 ⟨rfl, ⟨σ', ht', ⟨g1, g2, g3, g4⟩, hw'⟩, hb'⟩
        have HT' := Lib.hid ht'
        have HI' : Hid (TInv (needsN (N : Int) l) σ' ∧ TIn N σ' ∧ σ'.wrk = []) := ⟨g1, g2, hw'⟩
        have HV' : Hid (∀ v, v < j + 1 → σ'.idx v ≠ 0) := fun v hv => by
          rcases Nat.lt_or_ge v j with hh | hh
          · exact g4 v (.inl (HV.out v hh))
          · exact g4 v (.inr (by omega))
        have HB' : Hid (Below w.heap.size w w1) := HB.out.trans hb'
        clear ht' g1 g2 g3 g4 hw' hb' HC p2 lk
        go_wp2_with fail
        go_roundw
        case rel => exact ⟨j + 1, σ', by omega, by go_num, HT', HI', HV', HB'⟩
        case measure => simp [intOf]; omega
      · have z : (((σ.idx j : Nat) : Int) == 0) = false := by simp; omega
        have HV' : Hid (∀ v, v < j + 1 → σ.idx v ≠ 0) := fun v hv => by
          rcases Nat.lt_or_ge v j with hh | hh
          · exact HV.out v hh
          · obtain rfl : v = j := by omega
            exact h0
        clear ht hfo hpa h0 p7
        go_wp2_with fail
        go_roundw
        case rel => exact ⟨j + 1, σ, by omega, by go_num, HT, HI, HV', HB⟩
        case measure => simp [intOf]; omega
    · have i1 : ¬ (j : Int) < (N : Int) := by omega
      have HE : Hid (P (.returned (.slice Ao outs.length co)) wr) := by
        show P _ _
        rw [HP.out]
        exact ⟨Ao, co, outs, σ, _, rfl, ht.ro, fun b hb => mem_tarS.2 (by simp [hb]), hpa, HI.out.1, HI.out.2.1, HI.out.2.2, fun v hv => HV.out v (by omega), HB.out⟩
      clear ht hfo hpa p2 lk
      go_wp2_with fail
      exact HE.out
end Go.Proofs.Ytdbpbchhkdconaa
