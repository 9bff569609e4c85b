/- corollaryref13.Set: an environment with a value more. -/
import Derived.Test.YtplekbpmfaghbaaGreatDoorEnv
import Derived.Deep.RegionHeld3
namespace Go.Proofs.YtplekbpmfaghbaaGreatDoor
open Go.RowKit

theorem told_info : (Tryz.prog.info? 119).map (fun i => (i.zero, i.size, i.bytes)) = some (some (.agg #[.string ⟨#[]⟩, .int .i64 0, .int .i64 0, .string ⟨#[]⟩]), 4, 48) := by kernel_rfl

def SetPost (l : List GTold) (m : Nat) (w : World) (e : Ending) (w' : World) : Prop :=
  ∃ A c, e = .returned (.slice A m c) ∧ SliceIs Enc.told w' w'.heap.size A m c l ∧ Below w.heap.size w w'

theorem told_one (x : GTold) : ∀ u ∈ x.cells, u.oneCell' = true := by intro u hu; simp [GTold.cells] at hu; rcases hu with rfl | rfl | rfl | rfl <;> rfl

/-- the first append: of the list onto a new row -/
theorem set_app1 {w W : World} {A : Option Addr} {n c g : Nat} {l : List GTold} (hl : SliceIs Enc.told w w.heap.size A n c l) (hn : n ≤ 1000000) (hb : Below w.heap.size w W) (hg : w.heap.size ≤ g) (h : W.heap[g]? = some (.cells #[] 119 (0, 0))) :
    ∃ v' w', (Builtin.append_ #[92, 92] 92 #[.slice (some ⟨g, 0, none⟩) 0 0, .slice A n c]).run Tryz.prog W = .ok v' w' ∧
      (w'.ownsRow w.heap.size 119 4 v' n (l.flatMap GTold.cells) ∧ W.grownBy w' (some g) ∧ Below w.heap.size w w' ∧ w.heap.size ≤ w'.heap.size) := by
  obtain ⟨v', w', h1, h2, h3, h4⟩ := run_append_slice (P := Tryz.prog) (E := Enc.told) (B := w.heap.size) (ty := 92) GTold.cells (fun _ => rfl) (fun h => h.1) told_one W (base := w.heap.size) Tryz.underlying92 told_info rfl (by decide)
    (own_empty hg h) (hl.below hb) (by simp [maxLen]; omega) (by omega) hb.size
  exact ⟨v', w', h1, by simpa [Enc.told] using h2, h3, hb.trans h4, Nat.le_trans hb.size h4.size⟩

/-- the second one: of one element -/
theorem set_app2 {w W : World} {n g : Nat} {xs : List Value} {v1 : Value} (s : ByteArray) (v : GV) (hn : n ≤ 1000000) (hb : Below w.heap.size w W) (hz : w.heap.size ≤ W.heap.size) (hown : W.ownsRow w.heap.size 119 4 v1 n xs)
    (h : W.heap[g]? = some (.cells #[.string s, .int .i64 v.k, .int .i64 v.n, .string v.s] 119 (0, 0))) :
    ∃ v' w', (Builtin.append_ #[92, 92] 92 #[v1, .slice (some ⟨g, 0, none⟩) 1 1]).run Tryz.prog W = .ok v' w' ∧
      (w'.ownsRow w.heap.size 119 4 v' (n + 1) (xs ++ GTold.cells ⟨s, v⟩) ∧ Below w.heap.size w w') := by
  obtain ⟨v', w', h1, h2, h3, h4⟩ := run_push_at (P := Tryz.prog) (ty := 92) W (base := w.heap.size) Tryz.underlying92 told_info rfl (by decide) hown g (GTold.cells ⟨s, v⟩) rfl h (told_one ⟨s, v⟩)
    (by simp [maxLen]; omega) (by omega) hz
  exact ⟨v', w', h1, h2, hb.trans h4⟩

theorem heapNew2 {w : World} {o : Obj} {g : Nat} (h : w.heap.size = g) : (w.alloc o).drew.heap[g]? = some o := heapNew h
theorem heapOld2 {w : World} {o x : Obj} {g : Nat} (h : w.heap[g]? = some x) : (w.alloc o).drew.heap[g]? = some x := heapOld h

theorem set_end {w w2 : World} {base n : Nat} {v2 : Value} {xs : List Value} {l : List GTold} {s : ByteArray} {v : GV} (hown : w2.ownsRow base 119 4 v2 (n + 1) (xs ++ GTold.cells ⟨s, v⟩)) (hx : l.flatMap GTold.cells = xs) (hl : l.length = n) (hn : n ≤ 1000000)
    (hs : s.size ≤ reachN) (hv : v.ok) (hall : ∀ t ∈ l, t.x.size ≤ reachN ∧ t.v.ok) (hb : Below w.heap.size w w2) : SetPost (l ++ [⟨s, v⟩]) (n + 1) w (.returned v2) w2 := by
  obtain ⟨A2, c2, rfl⟩ := own_form hown
  have hlen : (l ++ [(⟨s, v⟩ : GTold)]).length = n + 1 := by simp [hl]
  refine ⟨A2, c2, rfl, ?_, hb⟩
  refine SliceIs.of_flat (E := Enc.told) GTold.cells (fun _ => rfl) (base := base) (e := 119) (by rw [List.flatMap_append, hx]; simpa [Enc.told] using hown) hlen (by simp [reachN]; omega) (fun t ht => ?_)
  refine ⟨rfl, ?_⟩
  rcases List.mem_append.1 ht with ht | ht
  · exact hall t ht
  · simp at ht; subst ht; exact ⟨hs, hv⟩

set_option maxRecDepth 100000 in
set_option maxHeartbeats 400000 in
theorem set_any (A : Option Addr) (n c : Nat) (l : List GTold) (s : ByteArray) (v : GV) (w : World) (hl : SliceIs Enc.told w w.heap.size A n c l) (hn : n ≤ 1000000) (hs : s.size ≤ reachN) (hv : v.ok) (hall : ∀ t ∈ l, t.x.size ≤ reachN ∧ t.v.ok) :
    Calls Tryz.prog 104 #[.slice A n c, .string s, v.v] w (SetPost (l ++ [⟨s, v⟩]) (n + 1) w) := by
  have Hs := Lib.hid hs
  have Hv := Lib.hid hv
  have Hall := Lib.hid hall
  have Hlen := Lib.hid hl.1
  clear hs hv hall
  go_enter Tryz.func104, Tryz.ntmps104
  go_wp2_with fail
  have hbw : Below w.heap.size w (w.alloc (.cells #[.int .i64 v.k, .int .i64 v.n, .string v.s] 31)) := belowA (Below.refl _ _) _
  have c0 : (w.alloc (.cells #[.int .i64 v.k, .int .i64 v.n, .string v.s] 31)).cell? ⟨w.heap.size, 0, none⟩ = some (.int .i64 v.k) := by simp
  have c1 : (w.alloc (.cells #[.int .i64 v.k, .int .i64 v.n, .string v.s] 31)).cell? ⟨w.heap.size, 1, none⟩ = some (.int .i64 v.n) := by simp
  have c2 : (w.alloc (.cells #[.int .i64 v.k, .int .i64 v.n, .string v.s] 31)).cell? ⟨w.heap.size, 2, none⟩ = some (.string v.s) := by simp
  generalize w.alloc (.cells #[.int .i64 v.k, .int .i64 v.n, .string v.s] 31) = wb at hbw c0 c1 c2 ⊢
  generalize w.heap.size = g0 at c0 c1 c2 ⊢
  have A1 := Lib.hid (fun (W : World) (g : Nat) => set_app1 (W := W) (g := g) ((hl.below hbw).mono hbw.size (fun _ _ => rfl)) hn)
  have A2 := Lib.hid (fun (W : World) (g : Nat) (v1 : Value) => set_app2 (w := wb) (W := W) (g := g) (v1 := v1) (xs := l.flatMap GTold.cells) s v hn)
  clear hl
  generalize hgen : l.flatMap GTold.cells = xs at A1 A2
  have HG := Lib.hid hgen
  clear hgen
  have hk : ∀ W : World, Below wb.heap.size wb W → W.cell? ⟨g0, 0, none⟩ = some (.int .i64 v.k) ∧ W.cell? ⟨g0, 1, none⟩ = some (.int .i64 v.n) ∧ W.cell? ⟨g0, 2, none⟩ = some (.string v.s) := fun _ h => ⟨below_cell h c0, below_cell h c1, below_cell h c2⟩
  have Hk := Lib.hid hk
  clear hk
  go_region_held3 (fun w' => w'.cell? ⟨g0, 0, none⟩ = some (.int .i64 v.k) ∧ w'.cell? ⟨g0, 1, none⟩ = some (.int .i64 v.n) ∧ w'.cell? ⟨g0, 2, none⟩ = some (.string v.s))
    (first
      | (refine Hk.out _ ?_; first | assumption | (repeat (first | exact Below.refl _ _ | assumption | refine Below.drew ?_ | refine belowA ?_ _)))
      | go_keep)
    ((first
      | (refine step_append_ex (by rfl) (.tmp 7) (.tmp 8) _ (by rfl) _ _ (by rfl) (by rfl) _ (A1.out _ _ ?a1 ?a2 ?a3) ?_
         case a1 => repeat (first | exact Below.refl _ _ | refine Below.drew ?_ | refine belowA ?_ _)
         case a2 => simp
         case a3 => first | (refine heapNew2 ?_; simp; done) | (refine heapOld2 (heapNew ?_); simp; done)
         rintro v1 w1 ⟨hown1, hg1, hb1, hz1⟩)
      | (refine step_append_ex (by rfl) (.tmp 9) (.tmp 13) _ (by rfl) _ _ (by rfl) (by rfl) _ (A2.out _ _ _ ?a1 ?a2 ?a3 ?a4) ?_
         case a1 => first | exact hb1 | exact belowA hb1 _
         case a2 => first | exact hz1 | (simp; omega)
         case a3 => first | exact hown1 | exact hown1.alloc _
         case a4 =>
           first
             | exact heapNew rfl
             | (refine (hg1.block _ ?_ ?_).trans ?_
                · (simp <;> omega)
                · (simp <;> omega)
                · first | (refine heapNew2 ?_; simp; done) | (refine heapOld2 (heapNew ?_); simp; done))
         rintro v2 w2 ⟨hown2, hb2⟩)))
  all_goals
    go_wp2
    go_ret
    exact set_end hown2 HG.out Hlen.out hn Hs.out Hv.out Hall.out (hbw.trans (hb2.mono hbw.size))
end Go.Proofs.YtplekbpmfaghbaaGreatDoor
