/- Tarjan's state in memory: the struct, its maps, its rows. -/
import Derived.Test.YtdbpbchhkdconaaScG
import Derived.Test.YtdbpbchhkdconaaScT
namespace Go.Proofs.Ytdbpbchhkdconaa
open Go.RowKit

theorem info_nat : (Try.prog.info? 3).map (fun i => (i.zero, i.size, i.bytes)) = some (some (.int .i64 0), 1, 8) := by kernel_rfl
theorem info_frame : (Try.prog.info? 91).map (fun i => (i.zero, i.size, i.bytes)) = some (some (.agg #[.int .i64 0, .slice none 0 0]), 2, 32) := by kernel_rfl
theorem info_part : (Try.prog.info? 29).map (fun i => (i.zero, i.size, i.bytes)) = some (some (.slice none 0 0), 1, 24) := by kernel_rfl
theorem zero_num (w : World) : (zeroValue 3).run Try.prog w = .ok (.int .i64 0) w := by kernel_rfl
theorem under_map : Try.prog.underlying 56 = some (.map 3 3) := Try.underlying56
theorem under_int : Try.prog.underlying 3 = some (.int .i64) := Try.underlying3

/-- the blocks that the way may write -/
def tarS (p kI kL kO : Nat) (As Aw Ao : Option Addr) : List Nat := p :: kI :: kL :: kO :: (blkOf As ++ (blkOf Aw ++ blkOf Ao))
/-- the state in memory: B: all blocks lie from there on -/
structure TarAt (w : World) (B p : Nat) (N : Int) (EV : Value) (kI kL kO : Nat) (As : Option Addr) (cs : Nat) (Aw : Option Addr) (cw : Nat) (Ao : Option Addr) (co : Nat)
    (fI fL fO : Nat → Nat) (cnt : Nat) (stk : List Nat) (wrk : List (Nat × List Nat)) (outs : List (List Nat)) : Prop where
  row : w.heap[p]? = some (.cells #[.int .i64 N, EV, .map (some kI), .map (some kL), .slice As stk.length cs, .map (some kO), .slice Aw wrk.length cw, .slice Ao outs.length co] 77 (0, 0))
  mI : NumN w kI fI cnt
  mL : ∃ n, NumN w kL fL n
  mO : ∃ n, NumN w kO fO n
  rs : RowOf Enc.nat w B 3 (tarS p kI kL kO As Aw Ao) As stk.length cs stk
  rw : RowOf Enc.frame w B 91 (tarS p kI kL kO As Aw Ao) Aw wrk.length cw wrk
  ro : RowOf (Enc.slice Enc.nat) w B 29 (tarS p kI kL kO As Aw Ao) Ao outs.length co outs
  ne : kI ≠ kL ∧ kI ≠ kO ∧ kL ≠ kO
  ge : B ≤ p ∧ B ≤ kI ∧ B ≤ kL ∧ B ≤ kO
section
variable {w w' : World} {B p : Nat} {N : Int} {EV : Value} {kI kL kO : Nat} {As : Option Addr} {cs : Nat} {Aw : Option Addr} {cw : Nat} {Ao : Option Addr} {co : Nat}
  {fI fL fO : Nat → Nat} {cnt : Nat} {stk : List Nat} {wrk : List (Nat × List Nat)} {outs : List (List Nat)} {T : List Nat}
theorem TarAt.cells (h : TarAt w B p N EV kI kL kO As cs Aw cw Ao co fI fL fO cnt stk wrk outs) :
    w.cell? ⟨p, 0, none⟩ = some (.int .i64 N) ∧ w.cell? ⟨p, 1, none⟩ = some EV ∧ w.cell? ⟨p, 2, none⟩ = some (.map (some kI)) ∧ w.cell? ⟨p, 3, none⟩ = some (.map (some kL)) ∧ w.cell? ⟨p, 4, none⟩ = some (.slice As stk.length cs) ∧
    w.cell? ⟨p, 5, none⟩ = some (.map (some kO)) ∧ w.cell? ⟨p, 6, none⟩ = some (.slice Aw wrk.length cw) ∧ w.cell? ⟨p, 7, none⟩ = some (.slice Ao outs.length co) :=
  ⟨(cell_of_row _ _ 0 _ _ _ h.row).trans rfl, (cell_of_row _ _ 1 _ _ _ h.row).trans rfl, (cell_of_row _ _ 2 _ _ _ h.row).trans rfl, (cell_of_row _ _ 3 _ _ _ h.row).trans rfl, (cell_of_row _ _ 4 _ _ _ h.row).trans rfl, (cell_of_row _ _ 5 _ _ _ h.row).trans rfl, (cell_of_row _ _ 6 _ _ _ h.row).trans rfl, (cell_of_row _ _ 7 _ _ _ h.row).trans rfl⟩
theorem TarAt.free (h : TarAt w B p N EV kI kL kO As cs Aw cw Ao co fI fL fO cnt stk wrk outs) (o : Nat) : w.frozen? ⟨p, o, none⟩ = false := frozen_of_row _ _ _ _ _ h.row
theorem TarAt.plt (h : TarAt w B p N EV kI kL kO As cs Aw cw Ao co fI fL fO cnt stk wrk outs) : p < w.heap.size := (Array.getElem?_eq_some_iff.1 h.row).1
/-- the maps' blocks hold no cells, each row's block holds cells of its own type -/
theorem TarAt.apart (h : TarAt w B p N EV kI kL kO As cs Aw cw Ao co fI fL fO cnt stk wrk outs) :
    (p ≠ kI ∧ p ≠ kL ∧ p ≠ kO) ∧ (∀ b ∈ blkOf As, b ≠ p ∧ b ≠ kI ∧ b ≠ kL ∧ b ≠ kO ∧ b ∉ blkOf Aw ∧ b ∉ blkOf Ao) ∧ (∀ b ∈ blkOf Aw, b ≠ p ∧ b ≠ kI ∧ b ≠ kL ∧ b ≠ kO ∧ b ∉ blkOf As ∧ b ∉ blkOf Ao) ∧ (∀ b ∈ blkOf Ao, b ≠ p ∧ b ≠ kI ∧ b ≠ kL ∧ b ≠ kO ∧ b ∉ blkOf As ∧ b ∉ blkOf Aw) := by
  obtain ⟨eI, iI, hI⟩ := h.mI.map
  obtain ⟨nL, hL⟩ := h.mL
  obtain ⟨eL, iL, hL⟩ := hL.map
  obtain ⟨nO, hO⟩ := h.mO
  obtain ⟨eO, iO, hO⟩ := hO.map
  have hp := h.row
  have hs := fun b hb => (h.rs.blk (b := b) hb).2.2
  have hw := fun b hb => (h.rw.blk (b := b) hb).2.2
  have ho := fun b hb => (h.ro.blk (b := b) hb).2.2
  have k1 : ∀ {b k : Nat} {cu : Array Value} {e : TypeId} {es : Array MapEntry} {i : Nat}, w.heap[b]? = some (.cells cu e (0, 0)) → w.heap[k]? = some (.map es i) → b ≠ k := by
    intro b k cu e es i h1 h2 e; subst e; rw [h1] at h2; cases h2
  have k2 : ∀ {b k : Nat} {cu cu' : Array Value} {e e' : TypeId}, e ≠ e' → w.heap[b]? = some (.cells cu e (0, 0)) → w.heap[k]? = some (.cells cu' e' (0, 0)) → b ≠ k := by
    intro b k cu cu' e e' hne h1 h2 e; subst e; rw [h1] at h2; injection h2 with h2; injection h2 with _ h2 _; exact hne h2
  refine ⟨⟨k1 hp hI, k1 hp hL, k1 hp hO⟩, fun b hb => ?_, fun b hb => ?_, fun b hb => ?_⟩
  · obtain ⟨cu, hc⟩ := hs b hb
    refine ⟨k2 (by decide) hc hp, k1 hc hI, k1 hc hL, k1 hc hO, fun hh => ?_, fun hh => ?_⟩
    · obtain ⟨cu', hc'⟩ := hw b hh; exact k2 (by decide) hc hc' rfl
    · obtain ⟨cu', hc'⟩ := ho b hh; exact k2 (by decide) hc hc' rfl
  · obtain ⟨cu, hc⟩ := hw b hb
    refine ⟨k2 (by decide) hc hp, k1 hc hI, k1 hc hL, k1 hc hO, fun hh => ?_, fun hh => ?_⟩
    · obtain ⟨cu', hc'⟩ := hs b hh; exact k2 (by decide) hc hc' rfl
    · obtain ⟨cu', hc'⟩ := ho b hh; exact k2 (by decide) hc hc' rfl
  · obtain ⟨cu, hc⟩ := ho b hb
    refine ⟨k2 (by decide) hc hp, k1 hc hI, k1 hc hL, k1 hc hO, fun hh => ?_, fun hh => ?_⟩
    · obtain ⟨cu', hc'⟩ := hs b hh; exact k2 (by decide) hc hc' rfl
    · obtain ⟨cu', hc'⟩ := hw b hh; exact k2 (by decide) hc hc' rfl
theorem mem_tarS {b : Nat} : b ∈ tarS p kI kL kO As Aw Ao ↔ b = p ∨ b = kI ∨ b = kL ∨ b = kO ∨ b ∈ blkOf As ∨ b ∈ blkOf Aw ∨ b ∈ blkOf Ao := by simp [tarS]
theorem TarAt.low (h : TarAt w B p N EV kI kL kO As cs Aw cw Ao co fI fL fO cnt stk wrk outs) : ∀ b ∈ tarS p kI kL kO As Aw Ao, B ≤ b ∧ b < w.heap.size := by
  intro b hb
  obtain ⟨nL, hL⟩ := h.mL
  obtain ⟨nO, hO⟩ := h.mO
  rcases mem_tarS.1 hb with rfl | rfl | rfl | rfl | hb | hb | hb
  · exact ⟨h.ge.1, h.plt⟩
  · exact ⟨h.ge.2.1, h.mI.lt⟩
  · exact ⟨h.ge.2.2.1, hL.lt⟩
  · exact ⟨h.ge.2.2.2, hO.lt⟩
  · exact ⟨(h.rs.blk hb).1, (h.rs.blk hb).2.1⟩
  · exact ⟨(h.rw.blk hb).1, (h.rw.blk hb).2.1⟩
  · exact ⟨(h.ro.blk hb).1, (h.ro.blk hb).2.1⟩
theorem TarAt.out_below (h : TarAt w B p N EV kI kL kO As cs Aw cw Ao co fI fL fO cnt stk wrk outs) (hB : B ≤ w.heap.size) (ho : Out T w w') (hT : ∀ b ∈ T, b ∈ tarS p kI kL kO As Aw Ao) : Below B w w' := ho.below (fun b hb => (h.low b (hT b hb)).1) hB
theorem TarAt.on (h : TarAt w B p N EV kI kL kO As cs Aw cw Ao co fI fL fO cnt stk wrk outs) (hb : Below w.heap.size w w') : TarAt w' B p N EV kI kL kO As cs Aw cw Ao co fI fL fO cnt stk wrk outs where
  row := (hb.block p h.plt).trans h.row
  mI := h.mI.same (hb.block _ h.mI.lt)
  mL := by obtain ⟨n, hn⟩ := h.mL; exact ⟨n, hn.same (hb.block _ hn.lt)⟩
  mO := by obtain ⟨n, hn⟩ := h.mO; exact ⟨n, hn.same (hb.block _ hn.lt)⟩
  rs := h.rs.below hb
  rw := h.rw.below hb
  ro := h.ro.below hb
  ne := h.ne
  ge := h.ge
/-- one of the maps is changed -/
theorem TarAt.mapI (h : TarAt w B p N EV kI kL kO As cs Aw cw Ao co fI fL fO cnt stk wrk outs) (ho : Out [kI] w w') {f : Nat → Nat} {n : Nat} (hm : NumN w' kI f n) : TarAt w' B p N EV kI kL kO As cs Aw cw Ao co f fL fO n stk wrk outs := by
  obtain ⟨a1, a2, a3, a4⟩ := h.apart
  obtain ⟨nL, hL⟩ := h.mL
  obtain ⟨nO, hO⟩ := h.mO
  have hT : ∀ b ∈ [kI], b < w.heap.size → b ∈ tarS p kI kL kO As Aw Ao := fun b hb _ => by simp at hb; subst hb; exact mem_tarS.2 (by simp)
  exact ⟨(ho.block p h.plt (by simp [a1.1])).trans h.row, hm, ⟨nL, hL.same (ho.block _ hL.lt (by simp [Ne.symm h.ne.1]))⟩, ⟨nO, hO.same (ho.block _ hO.lt (by simp [Ne.symm h.ne.2.1]))⟩,
    h.rs.out ho (fun b hb => by simp [(a2 b hb).2.1]) hT (fun _ hb _ => hb), h.rw.out ho (fun b hb => by simp [(a3 b hb).2.1]) hT (fun _ hb _ => hb), h.ro.out ho (fun b hb => by simp [(a4 b hb).2.1]) hT (fun _ hb _ => hb), h.ne, h.ge⟩
theorem TarAt.mapL (h : TarAt w B p N EV kI kL kO As cs Aw cw Ao co fI fL fO cnt stk wrk outs) (ho : Out [kL] w w') {f : Nat → Nat} {n : Nat} (hm : NumN w' kL f n) : TarAt w' B p N EV kI kL kO As cs Aw cw Ao co fI f fO cnt stk wrk outs := by
  obtain ⟨a1, a2, a3, a4⟩ := h.apart
  obtain ⟨nO, hO⟩ := h.mO
  have hT : ∀ b ∈ [kL], b < w.heap.size → b ∈ tarS p kI kL kO As Aw Ao := fun b hb _ => by simp at hb; subst hb; exact mem_tarS.2 (by simp)
  exact ⟨(ho.block p h.plt (by simp [a1.2.1])).trans h.row, h.mI.same (ho.block _ h.mI.lt (by simp [h.ne.1])), ⟨n, hm⟩, ⟨nO, hO.same (ho.block _ hO.lt (by simp [Ne.symm h.ne.2.2]))⟩,
    h.rs.out ho (fun b hb => by simp [(a2 b hb).2.2.1]) hT (fun _ hb _ => hb), h.rw.out ho (fun b hb => by simp [(a3 b hb).2.2.1]) hT (fun _ hb _ => hb), h.ro.out ho (fun b hb => by simp [(a4 b hb).2.2.1]) hT (fun _ hb _ => hb), h.ne, h.ge⟩
theorem TarAt.mapO (h : TarAt w B p N EV kI kL kO As cs Aw cw Ao co fI fL fO cnt stk wrk outs) (ho : Out [kO] w w') {f : Nat → Nat} {n : Nat} (hm : NumN w' kO f n) : TarAt w' B p N EV kI kL kO As cs Aw cw Ao co fI fL f cnt stk wrk outs := by
  obtain ⟨a1, a2, a3, a4⟩ := h.apart
  obtain ⟨nL, hL⟩ := h.mL
  have hT : ∀ b ∈ [kO], b < w.heap.size → b ∈ tarS p kI kL kO As Aw Ao := fun b hb _ => by simp at hb; subst hb; exact mem_tarS.2 (by simp)
  exact ⟨(ho.block p h.plt (by simp [a1.2.2])).trans h.row, h.mI.same (ho.block _ h.mI.lt (by simp [h.ne.2.1])), ⟨nL, hL.same (ho.block _ hL.lt (by simp [h.ne.2.2]))⟩, ⟨n, hm⟩,
    h.rs.out ho (fun b hb => by simp [(a2 b hb).2.2.2.1]) hT (fun _ hb _ => hb), h.rw.out ho (fun b hb => by simp [(a3 b hb).2.2.2.1]) hT (fun _ hb _ => hb), h.ro.out ho (fun b hb => by simp [(a4 b hb).2.2.2.1]) hT (fun _ hb _ => hb), h.ne, h.ge⟩
theorem TarAt.funs (h : TarAt w B p N EV kI kL kO As cs Aw cw Ao co fI fL fO cnt stk wrk outs) {gI gL gO : Nat → Nat} (e1 : ∀ v, fI v = gI v) (e2 : ∀ v, fL v = gL v) (e3 : ∀ v, fO v = gO v) : TarAt w B p N EV kI kL kO As cs Aw cw Ao co gI gL gO cnt stk wrk outs := by
  rw [← funext e1, ← funext e2, ← funext e3]; exact h

/-! ### the struct's rows -/
theorem set_cell8 {W : World} {g e i : Nat} {xs : Array Value} {v : Value} (h : W.heap[g]? = some (.cells xs e (0, 0))) : (W.setCell ⟨g, i, none⟩ v).heap[g]? = some (.cells (xs.setIfInBounds i v) e (0, 0)) := by
  simp [World.setCell, Array.getElem?_modify, h]
/-- the stack's row and its field are changed -/
theorem TarAt.setS (h : TarAt w B p N EV kI kL kO As cs Aw cw Ao co fI fL fO cnt stk wrk outs) (ho : Out T w w') (hT : ∀ b ∈ T, b ∈ blkOf As) {A' : Option Addr} {c' n' : Nat} {stk' : List Nat} (hl : stk'.length = n')
    (hr : ∀ U : List Nat, (∀ b ∈ U, b < w.heap.size → b ∈ tarS p kI kL kO As Aw Ao) → RowOf Enc.nat w' B 3 U A' n' c' stk') (hb : ∀ b ∈ blkOf A', b ∈ blkOf As ∨ w.heap.size ≤ b) :
    TarAt (w'.setCell ⟨p, 4, none⟩ (.slice A' n' c')) B p N EV kI kL kO A' c' Aw cw Ao co fI fL fO cnt stk' wrk outs := by
  subst hl
  obtain ⟨a1, a2, a3, a4⟩ := h.apart
  obtain ⟨nL, hL⟩ := h.mL
  obtain ⟨nO, hO⟩ := h.mO
  have hTS : ∀ b ∈ T, b < w.heap.size → b ∈ tarS p kI kL kO As Aw Ao := fun b hb' _ => mem_tarS.2 (by simp [hT b hb'])
  have hU : ∀ b ∈ tarS p kI kL kO A' Aw Ao, b < w.heap.size → b ∈ tarS p kI kL kO As Aw Ao := fun b hb' hlt => by
    rcases mem_tarS.1 hb' with h1 | h1 | h1 | h1 | h1 | h1 | h1
    · exact mem_tarS.2 (by simp [h1])
    · exact mem_tarS.2 (by simp [h1])
    · exact mem_tarS.2 (by simp [h1])
    · exact mem_tarS.2 (by simp [h1])
    · rcases hb b h1 with h2 | h2
      · exact mem_tarS.2 (by simp [h2])
      · omega
    · exact mem_tarS.2 (by simp [h1])
    · exact mem_tarS.2 (by simp [h1])
  have hpw : p ∉ T := fun hh => (a2 p (hT p hh)).1 rfl
  have ho1 : Out [p] w' (w'.setCell ⟨p, 4, none⟩ (.slice A' stk'.length c')) := set_out _ _ _ _
  have ho2 : Out (p :: T) w (w'.setCell ⟨p, 4, none⟩ (.slice A' stk'.length c')) := (ho.mono (fun b hb _ => List.mem_cons_of_mem _ hb)).trans ho1 (fun b hb _ => by simp at hb; simp [hb])
  have hpT : ∀ b ∈ p :: T, b < w.heap.size → b ∈ tarS p kI kL kO As Aw Ao := fun b hb' hlt => by
    rcases List.mem_cons.1 hb' with rfl | hb'
    · exact mem_tarS.2 (by simp)
    · exact hTS b hb' hlt
  have hrow := (ho.block p h.plt hpw).trans h.row
  refine ⟨set_cell8 hrow, h.mI.same (ho2.block _ h.mI.lt ?_), ⟨nL, hL.same (ho2.block _ hL.lt ?_)⟩, ⟨nO, hO.same (ho2.block _ hO.lt ?_)⟩, ?_, ?_, ?_, h.ne, h.ge⟩
  · intro hh
    rcases List.mem_cons.1 hh with hh | hh
    · exact a1.1 hh.symm
    · exact (a2 _ (hT _ hh)).2.1 rfl
  · intro hh
    rcases List.mem_cons.1 hh with hh | hh
    · exact a1.2.1 hh.symm
    · exact (a2 _ (hT _ hh)).2.2.1 rfl
  · intro hh
    rcases List.mem_cons.1 hh with hh | hh
    · exact a1.2.2 hh.symm
    · exact (a2 _ (hT _ hh)).2.2.2.1 rfl
  · have hpl := h.plt
    have hA' : ∀ b ∈ blkOf A', b ∉ [p] := fun b hb' hp' => by
      simp at hp'; subst hp'
      rcases hb b hb' with h2 | h2
      · exact (a2 b h2).1 rfl
      · omega
    exact (hr _ hU).out (T := [p]) ho1 hA' (fun b hb' _ => by simp at hb'; exact mem_tarS.2 (by simp [hb'])) (fun _ hb' _ => hb')
  · refine h.rw.out ho2 (fun b hb' hh => ?_) hpT hU
    rcases List.mem_cons.1 hh with hh | hh
    · exact (a3 b hb').1 hh
    · exact (a3 b hb').2.2.2.2.1 (hT b hh)
  · refine h.ro.out ho2 (fun b hb' hh => ?_) hpT hU
    rcases List.mem_cons.1 hh with hh | hh
    · exact (a4 b hb').1 hh
    · exact (a4 b hb').2.2.2.2.1 (hT b hh)
/-- the work's row and its field are changed -/
theorem TarAt.setW (h : TarAt w B p N EV kI kL kO As cs Aw cw Ao co fI fL fO cnt stk wrk outs) (ho : Out T w w') (hT : ∀ b ∈ T, b ∈ blkOf Aw) {A' : Option Addr} {c' n' : Nat} {wrk' : List (Nat × List Nat)} (hl : wrk'.length = n')
    (hr : ∀ U : List Nat, (∀ b ∈ U, b < w.heap.size → b ∈ tarS p kI kL kO As Aw Ao) → RowOf Enc.frame w' B 91 U A' n' c' wrk') (hb : ∀ b ∈ blkOf A', b ∈ blkOf Aw ∨ w.heap.size ≤ b) :
    TarAt (w'.setCell ⟨p, 6, none⟩ (.slice A' n' c')) B p N EV kI kL kO As cs A' c' Ao co fI fL fO cnt stk wrk' outs := by
  subst hl
  obtain ⟨a1, a2, a3, a4⟩ := h.apart
  obtain ⟨nL, hL⟩ := h.mL
  obtain ⟨nO, hO⟩ := h.mO
  have hTS : ∀ b ∈ T, b < w.heap.size → b ∈ tarS p kI kL kO As Aw Ao := fun b hb' _ => mem_tarS.2 (by simp [hT b hb'])
  have hU : ∀ b ∈ tarS p kI kL kO As A' Ao, b < w.heap.size → b ∈ tarS p kI kL kO As Aw Ao := fun b hb' hlt => by
    rcases mem_tarS.1 hb' with h1 | h1 | h1 | h1 | h1 | h1 | h1
    · exact mem_tarS.2 (by simp [h1])
    · exact mem_tarS.2 (by simp [h1])
    · exact mem_tarS.2 (by simp [h1])
    · exact mem_tarS.2 (by simp [h1])
    · exact mem_tarS.2 (by simp [h1])
    · rcases hb b h1 with h2 | h2
      · exact mem_tarS.2 (by simp [h2])
      · omega
    · exact mem_tarS.2 (by simp [h1])
  have hpw : p ∉ T := fun hh => (a3 p (hT p hh)).1 rfl
  have ho1 : Out [p] w' (w'.setCell ⟨p, 6, none⟩ (.slice A' wrk'.length c')) := set_out _ _ _ _
  have ho2 : Out (p :: T) w (w'.setCell ⟨p, 6, none⟩ (.slice A' wrk'.length c')) := (ho.mono (fun b hb _ => List.mem_cons_of_mem _ hb)).trans ho1 (fun b hb _ => by simp at hb; simp [hb])
  have hpT : ∀ b ∈ p :: T, b < w.heap.size → b ∈ tarS p kI kL kO As Aw Ao := fun b hb' hlt => by
    rcases List.mem_cons.1 hb' with rfl | hb'
    · exact mem_tarS.2 (by simp)
    · exact hTS b hb' hlt
  have hrow := (ho.block p h.plt hpw).trans h.row
  refine ⟨set_cell8 hrow, h.mI.same (ho2.block _ h.mI.lt ?_), ⟨nL, hL.same (ho2.block _ hL.lt ?_)⟩, ⟨nO, hO.same (ho2.block _ hO.lt ?_)⟩, ?_, ?_, ?_, h.ne, h.ge⟩
  · intro hh
    rcases List.mem_cons.1 hh with hh | hh
    · exact a1.1 hh.symm
    · exact (a3 _ (hT _ hh)).2.1 rfl
  · intro hh
    rcases List.mem_cons.1 hh with hh | hh
    · exact a1.2.1 hh.symm
    · exact (a3 _ (hT _ hh)).2.2.1 rfl
  · intro hh
    rcases List.mem_cons.1 hh with hh | hh
    · exact a1.2.2 hh.symm
    · exact (a3 _ (hT _ hh)).2.2.2.1 rfl
  · refine h.rs.out ho2 (fun b hb' hh => ?_) hpT hU
    rcases List.mem_cons.1 hh with hh | hh
    · exact (a2 b hb').1 hh
    · exact (a2 b hb').2.2.2.2.1 (hT b hh)
  · have hpl := h.plt
    have hA' : ∀ b ∈ blkOf A', b ∉ [p] := fun b hb' hp' => by
      simp at hp'; subst hp'
      rcases hb b hb' with h2 | h2
      · exact (a3 b h2).1 rfl
      · omega
    exact (hr _ hU).out (T := [p]) ho1 hA' (fun b hb' _ => by simp at hb'; exact mem_tarS.2 (by simp [hb'])) (fun _ hb' _ => hb')
  · refine h.ro.out ho2 (fun b hb' hh => ?_) hpT hU
    rcases List.mem_cons.1 hh with hh | hh
    · exact (a4 b hb').1 hh
    · exact (a4 b hb').2.2.2.2.2 (hT b hh)
/-- the parts' row and its field are changed -/
theorem TarAt.setO (h : TarAt w B p N EV kI kL kO As cs Aw cw Ao co fI fL fO cnt stk wrk outs) (ho : Out T w w') (hT : ∀ b ∈ T, b ∈ blkOf Ao) {A' : Option Addr} {c' n' : Nat} {outs' : List (List Nat)} (hl : outs'.length = n')
    (hr : ∀ U : List Nat, (∀ b ∈ U, b < w.heap.size → b ∈ tarS p kI kL kO As Aw Ao) → RowOf (Enc.slice Enc.nat) w' B 29 U A' n' c' outs') (hb : ∀ b ∈ blkOf A', b ∈ blkOf Ao ∨ w.heap.size ≤ b) :
    TarAt (w'.setCell ⟨p, 7, none⟩ (.slice A' n' c')) B p N EV kI kL kO As cs Aw cw A' c' fI fL fO cnt stk wrk outs' := by
  subst hl
  obtain ⟨a1, a2, a3, a4⟩ := h.apart
  obtain ⟨nL, hL⟩ := h.mL
  obtain ⟨nO, hO⟩ := h.mO
  have hTS : ∀ b ∈ T, b < w.heap.size → b ∈ tarS p kI kL kO As Aw Ao := fun b hb' _ => mem_tarS.2 (by simp [hT b hb'])
  have hU : ∀ b ∈ tarS p kI kL kO As Aw A', b < w.heap.size → b ∈ tarS p kI kL kO As Aw Ao := fun b hb' hlt => by
    rcases mem_tarS.1 hb' with h1 | h1 | h1 | h1 | h1 | h1 | h1
    · exact mem_tarS.2 (by simp [h1])
    · exact mem_tarS.2 (by simp [h1])
    · exact mem_tarS.2 (by simp [h1])
    · exact mem_tarS.2 (by simp [h1])
    · exact mem_tarS.2 (by simp [h1])
    · exact mem_tarS.2 (by simp [h1])
    · rcases hb b h1 with h2 | h2
      · exact mem_tarS.2 (by simp [h2])
      · omega
  have hpw : p ∉ T := fun hh => (a4 p (hT p hh)).1 rfl
  have ho1 : Out [p] w' (w'.setCell ⟨p, 7, none⟩ (.slice A' outs'.length c')) := set_out _ _ _ _
  have ho2 : Out (p :: T) w (w'.setCell ⟨p, 7, none⟩ (.slice A' outs'.length c')) := (ho.mono (fun b hb _ => List.mem_cons_of_mem _ hb)).trans ho1 (fun b hb _ => by simp at hb; simp [hb])
  have hpT : ∀ b ∈ p :: T, b < w.heap.size → b ∈ tarS p kI kL kO As Aw Ao := fun b hb' hlt => by
    rcases List.mem_cons.1 hb' with rfl | hb'
    · exact mem_tarS.2 (by simp)
    · exact hTS b hb' hlt
  have hrow := (ho.block p h.plt hpw).trans h.row
  refine ⟨set_cell8 hrow, h.mI.same (ho2.block _ h.mI.lt ?_), ⟨nL, hL.same (ho2.block _ hL.lt ?_)⟩, ⟨nO, hO.same (ho2.block _ hO.lt ?_)⟩, ?_, ?_, ?_, h.ne, h.ge⟩
  · intro hh
    rcases List.mem_cons.1 hh with hh | hh
    · exact a1.1 hh.symm
    · exact (a4 _ (hT _ hh)).2.1 rfl
  · intro hh
    rcases List.mem_cons.1 hh with hh | hh
    · exact a1.2.1 hh.symm
    · exact (a4 _ (hT _ hh)).2.2.1 rfl
  · intro hh
    rcases List.mem_cons.1 hh with hh | hh
    · exact a1.2.2 hh.symm
    · exact (a4 _ (hT _ hh)).2.2.2.1 rfl
  · refine h.rs.out ho2 (fun b hb' hh => ?_) hpT hU
    rcases List.mem_cons.1 hh with hh | hh
    · exact (a2 b hb').1 hh
    · exact (a2 b hb').2.2.2.2.2 (hT b hh)
  · refine h.rw.out ho2 (fun b hb' hh => ?_) hpT hU
    rcases List.mem_cons.1 hh with hh | hh
    · exact (a3 b hb').1 hh
    · exact (a3 b hb').2.2.2.2.2 (hT b hh)
  · have hpl := h.plt
    have hA' : ∀ b ∈ blkOf A', b ∉ [p] := fun b hb' hp' => by
      simp at hp'; subst hp'
      rcases hb b hb' with h2 | h2
      · exact (a4 b h2).1 rfl
      · omega
    exact (hr _ hU).out (T := [p]) ho1 hA' (fun b hb' _ => by simp at hb'; exact mem_tarS.2 (by simp [hb'])) (fun _ hb' _ => hb')
theorem TarAt.pop {b v : Nat} {ws : List (Nat × List Nat)} {r r' : List Nat} (h : TarAt w B p N EV kI kL kO As cs (some ⟨b, 0, none⟩) cw Ao co fI fL fO cnt stk (ws ++ [(v, r)]) outs) {A' : Option Addr} {m' c' : Nat} (hr : SliceFar Enc.nat w (tarS p kI kL kO As (some ⟨b, 0, none⟩) Ao) A' m' c' r') :
    TarAt (w.setCell ⟨b, ws.length * 2 + 1, none⟩ (.slice A' m' c')) B p N EV kI kL kO As cs (some ⟨b, 0, none⟩) cw Ao co fI fL fO cnt stk (ws ++ [(v, r')]) outs := by
  obtain ⟨a1, a2, a3, a4⟩ := h.apart
  obtain ⟨nL, hL⟩ := h.mL
  obtain ⟨nO, hO⟩ := h.mO
  have hbb : b ∈ blkOf (some ⟨b, 0, none⟩) := by simp [blkOf]
  obtain ⟨q1, q2, q3, q4, q5, q6⟩ := a3 b hbb
  have ho : Out [b] w (w.setCell ⟨b, ws.length * 2 + 1, none⟩ (.slice A' m' c')) := set_out _ _ _ _
  have hT : ∀ x ∈ [b], x < w.heap.size → x ∈ tarS p kI kL kO As (some ⟨b, 0, none⟩) Ao := fun x hx _ => by simp at hx; subst hx; exact mem_tarS.2 (by simp [hbb])
  have e : (ws ++ [(v, r')]).length = (ws ++ [(v, r)]).length := by simp
  refine ⟨?_, h.mI.same (ho.block _ h.mI.lt (by simp [Ne.symm q2])), ⟨nL, hL.same (ho.block _ hL.lt (by simp [Ne.symm q3]))⟩, ⟨nO, hO.same (ho.block _ hO.lt (by simp [Ne.symm q4]))⟩,
    h.rs.out ho (fun x hx hh => by simp at hh; subst hh; exact q5 hx) hT (fun _ hb _ => hb), ?_, h.ro.out ho (fun x hx hh => by simp at hh; subst hh; exact q6 hx) hT (fun _ hb _ => hb), h.ne, h.ge⟩
  · rw [e]; exact (ho.block p h.plt (by simp [Ne.symm q1])).trans h.row
  · rw [e]
    exact h.rw.set_last (mem_tarS.2 (by simp [hbb])) hr
end
end Go.Proofs.Ytdbpbchhkdconaa
