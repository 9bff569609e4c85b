/- The chapter's example. -/
import Derived.Test.YtggbfpjpkfhaeaaMeet
import Derived.Deep.DeepCutAuto
namespace Go.Proofs.Ytggbfpjpkfhaeaa
open Go.RowKit

def num1 (k : Int) : GV := ⟨1, k, ⟨#[]⟩⟩
set_option maxRecDepth 100000 in
set_option maxHeartbeats 400000 in
theorem n_any (k : Int) (w : World) : Calls Try.prog 37 #[.int .i64 k] w (fun e w' => e = .returned (num1 k).v ∧ Below w.heap.size w w') := by
  go_enter Try.func37, Try.ntmps37
  go_wp2
  exact bodyPost_ret (v := (num1 k).v) (by simp [results, Try.results37, go_sem, num1]) rfl ⟨rfl, belowA (Below.refl _ _) _⟩

def strX : ByteArray := ⟨#[88]⟩
def strP : ByteArray := ⟨#[112]⟩
def argsX : List GTold := [⟨strX, zeroV⟩, ⟨strX, zeroV⟩, ⟨⟨#[]⟩, num1 1⟩]

/-- what the third statement leaves: the atom's variable, its terms in a block of their own -/
def AtomAt (w : World) (v : Value) (W : World) : Prop :=
  ∃ g3 g1, v = .pointer (some ⟨g3, 0, none⟩) ∧ W.cell? ⟨g3, 0, none⟩ = some (.string strP) ∧ W.cell? ⟨g3, 1, none⟩ = some (.slice (some ⟨g1, 0, none⟩) 3 3) ∧ W.heap[g1]? = some (.cells (argsX.flatMap GTold.cells).toArray 78 (0, 0)) ∧ Below w.heap.size w W

theorem AtomAt.below {w W W' : World} {v : Value} (h : AtomAt w v W) (hb : Below W.heap.size W W') : AtomAt w v W' := by
  obtain ⟨g3, g1, h1, h2, h3, h4, h5⟩ := h
  exact ⟨g3, g1, h1, below_cell hb h2, below_cell hb h3, (hb.block g1 (Array.getElem?_eq_some_iff.1 h4).1).trans h4, h5.trans (hb.mono h5.size)⟩

theorem set2 {W : World} {g e : Nat} {a b u v : Value} (h : W.heap[g]? = some (.cells #[a, b] e (0, 0))) : ((W.setCell ⟨g, 0, none⟩ u).setCell ⟨g, 1, none⟩ v).heap[g]? = some (.cells #[u, v] e (0, 0)) := by
  simp [World.setCell, Array.getElem?_modify, h]

theorem strX_list : strX.toList = [88] := by rw [ByteArray.toList_eq]; rfl
theorem meetX : meetF argsX [num1 2, num1 2, num1 1] (fun _ => none) = some (upd (fun _ => none) strX (num1 2)) := by
  simp [meetF, meetL, meet1, argsX, strX_list, upd]
theorem meetY : meetF argsX [num1 2, num1 3, num1 1] (fun _ => none) = none := by
  have h : ¬ (num1 2 = num1 3) := by simp [num1]
  simp [meetF, meetL, meet1, argsX, strX_list, upd, h]
theorem num1_ok {k : Int} (h : fits k) : (num1 k).ok := ⟨by show (Lit.int .i64 1).wf = true; decide, h, Nat.zero_le _⟩
theorem argsX_ok : ∀ x ∈ argsX, x.x.size ≤ reachN ∧ x.v.ok := by
  intro x hx
  simp only [argsX, List.mem_cons, List.not_mem_nil, or_false] at hx
  rcases hx with rfl | rfl | rfl
  · exact ⟨by decide, GV.ok_zero⟩
  · exact ⟨by decide, GV.ok_zero⟩
  · exact ⟨by decide, num1_ok (by unfold fits; decide)⟩
theorem at_args {W : World} {g1 : Nat} (h : W.heap[g1]? = some (.cells (argsX.flatMap GTold.cells).toArray 78 (0, 0))) : SliceIs Enc.told W W.heap.size (some ⟨g1, 0, none⟩) 3 3 argsX :=
  SliceIs.of_block GTold.cells (fun _ => rfl) h rfl (by decide) (fun x hx => ⟨rfl, argsX_ok x hx⟩)
theorem at_vals {W : World} {g : Nat} {a b c : Int} (ha : fits a) (hb : fits b) (hc : fits c) (h : W.heap[g]? = some (.cells ([num1 a, num1 b, num1 c].flatMap GV.cells).toArray 63 (0, 0))) : SliceIs Enc.val W W.heap.size (some ⟨g, 0, none⟩) 3 3 [num1 a, num1 b, num1 c] :=
  SliceIs.of_block GV.cells (fun _ => rfl) h rfl (by simp [reachN]) (fun x hx => ⟨rfl, by
    simp only [List.mem_cons, List.not_mem_nil, or_false] at hx
    rcases hx with rfl | rfl | rfl
    · exact num1_ok ha
    · exact num1_ok hb
    · exact num1_ok hc⟩)
theorem env_none (W : World) : EnvIs W (.map none) (fun _ => none) := ⟨[], .inl ⟨rfl, rfl⟩, by simp, fun _ => rfl⟩

/-- an environment of one variable: its length, and what it tells -/
theorem env1 {W : World} {m : Value} (h : EnvIs W m (upd (fun _ => none) strX (num1 2))) : (∀ ty, (Builtin.len_ #[35] ty #[m]).run Try.prog W = .ok (.int .i64 1) W) ∧ (Instr.lookup 35 m (.string ⟨#[88]⟩) false).run Try.prog W = .ok (num1 2).v W := by
  show _ ∧ (Instr.lookup 35 m (.string strX) false).run Try.prog W = .ok (num1 2).v W
  obtain ⟨kvs, h1, h2, h3⟩ := h
  have hl : kvs.length = 1 := keys_same (b := [(strX, num1 2)]) h2 (by simp) (fun s => by rw [h3, kvGet_cons]; unfold upd; simp [kvGet])
  refine ⟨fun ty => by rw [mapV_len h1, hl]; rfl, ?_⟩
  rcases h1 with ⟨rfl, rfl⟩ | ⟨g, rfl, h1⟩
  · simp at hl
  · rw [h1.lookup Try.underlying35 Try.underlying9 (zero_value _) strX, gvs_get, h3]
    simp [upd]

set_option maxRecDepth 100000 in
set_option maxHeartbeats 1000000 in
theorem alive_any (w : World) : Calls Try.prog 7 #[] w (RetBool true w) := by
  go_enter Try.func7, Try.ntmps7
  go_upto_region 3 with (fail)
  go_cut [3] (fun v3 W => AtomAt w v3 W)
  case first =>
    have hbw : Below w.heap.size w (w.alloc (.cells #[.string ⟨#[88]⟩, .int .i64 0, .int .i64 0, .string ⟨#[]⟩] 78)) := belowA (Below.refl _ _) _
    have c0 : (w.alloc (.cells #[.string ⟨#[88]⟩, .int .i64 0, .int .i64 0, .string ⟨#[]⟩] 78)).cell? ⟨w.heap.size, 0, none⟩ = some (.string ⟨#[88]⟩) := by simp
    have c1 : (w.alloc (.cells #[.string ⟨#[88]⟩, .int .i64 0, .int .i64 0, .string ⟨#[]⟩] 78)).cell? ⟨w.heap.size, 1, none⟩ = some (.int .i64 0) := by simp
    have c2 : (w.alloc (.cells #[.string ⟨#[88]⟩, .int .i64 0, .int .i64 0, .string ⟨#[]⟩] 78)).cell? ⟨w.heap.size, 2, none⟩ = some (.int .i64 0) := by simp
    have c3 : (w.alloc (.cells #[.string ⟨#[88]⟩, .int .i64 0, .int .i64 0, .string ⟨#[]⟩] 78)).cell? ⟨w.heap.size, 3, none⟩ = some (.string ⟨#[]⟩) := by simp
    generalize w.alloc (.cells #[.string ⟨#[88]⟩, .int .i64 0, .int .i64 0, .string ⟨#[]⟩] 78) = wb at hbw c0 c1 c2 c3 ⊢
    have Hk := Lib.hid (fun W (h : Below wb.heap.size wb W) => And.intro (below_cell h c0) (And.intro (below_cell h c1) (And.intro (below_cell h c2) (below_cell h c3))))
    go_region_held3 (fun w' => w'.cell? ⟨w.heap.size, 0, none⟩ = some (.string ⟨#[88]⟩) ∧ w'.cell? ⟨w.heap.size, 1, none⟩ = some (.int .i64 0) ∧ w'.cell? ⟨w.heap.size, 2, none⟩ = some (.int .i64 0) ∧ w'.cell? ⟨w.heap.size, 3, none⟩ = some (.string ⟨#[]⟩))
      (first
        | (refine Hk.out _ ?_; (repeat (first | with_reducible exact Below.refl _ _ | with_reducible assumption | with_reducible refine Below.drew ?_ | with_reducible refine belowA ?_ _ | with_reducible refine belowS ?_ _ _ (Nat.le_refl _) _ | (with_reducible refine belowS ?_ _ _ (Nat.le_succ _) _))))
        | go_keep)
      ((go_at_call 37
        refine (n_any _ _).mono ?_
        rintro e w1 ⟨rfl, hq1⟩
        obtain ⟨hc1, hf1⟩ := bcell hq1
        have hz0 := hq1.size
        simp only [World.size_alloc, World.size_drew] at hz0 hc1 hf1
        try simp only [Nat.add_one_le_iff] at hz0
        have hb1 : Below wb.heap.size wb w1 := by
          refine Below.trans ?_ (Below.mono hq1 ?_)
          · repeat (first | with_reducible exact Below.refl _ _ | with_reducible assumption | with_reducible refine Below.drew ?_ | with_reducible refine belowA ?_ _)
          · simp
        skip))
    all_goals
      go_wp2_with fail
      go_meet
    · exact ⟨w1.heap.size + 1, w1.heap.size, rfl, by simp [strP], by simp, heapOld (heapNew rfl), hbw.trans ((belowA (belowA hb1 _) _).mono hbw.size)⟩
    · exact ⟨w1.heap.size, w1.heap.size + 1, rfl, cellA (by simp [strP]), cellA (by simp), heapNew (by simp), hbw.trans ((belowA (belowA hb1 _) _).mono hbw.size)⟩
    · have hkb := set2 (u := .string ⟨#[112]⟩) (v := .slice (some ⟨w1.heap.size, 0, none⟩) 3 3) ((hq1.block wb.heap.size (by simp)).trans (heapNew2 rfl))
      exact ⟨wb.heap.size, w1.heap.size, rfl, cellA ((cell_of_row _ _ 0 _ _ _ hkb).trans rfl), cellA ((cell_of_row _ _ 1 _ _ _ hkb).trans rfl), heapNew (by simp [World.setCell]), hbw.trans ((belowA (belowS (belowS hb1 _ _ (Nat.le_refl _) _) _ _ (Nat.le_refl _) _) _).mono hbw.size)⟩
  case rest =>
    have HA := Lib.hid hcut
    obtain ⟨g3, g1, rfl, d0, d1, hg1, hbw⟩ := hcut
    go_upto_region 4 with (fail)
    go_cut [4, 5] (fun v4 v5 W => v5 = .bool true ∧ EnvIs W v4 (upd (fun _ => none) strX (num1 2)) ∧ AtomAt w (.pointer (some ⟨g3, 0, none⟩)) W)
    case first =>
      have Hk := Lib.hid (fun W (h : Below wc.heap.size wc W) => And.intro (below_cell h d0) (below_cell h d1))
      have Hg := Lib.hid (fun W (h : Below wc.heap.size wc W) => at_args ((h.block g1 (Array.getElem?_eq_some_iff.1 hg1).1).trans hg1))
      go_region_held3 (fun w' => w'.cell? ⟨g3, 0, none⟩ = some (.string strP) ∧ w'.cell? ⟨g3, 1, none⟩ = some (.slice (some ⟨g1, 0, none⟩) 3 3))
        (first
          | (refine Hk.out _ ?_; (repeat (first | with_reducible exact Below.refl _ _ | with_reducible assumption | with_reducible refine Below.drew ?_ | with_reducible refine belowA ?_ _)))
          | go_keep)
        ((first
          | (go_at_call 37
             refine (n_any _ _).mono ?_
             rintro e w1 ⟨rfl, hq1⟩
             have hb1 : Below wc.heap.size wc w1 := by
               refine Below.trans ?_ (Below.mono hq1 ?_)
               · repeat (first | with_reducible exact Below.refl _ _ | with_reducible assumption | with_reducible refine Below.drew ?_ | with_reducible refine belowA ?_ _)
               · first | exact hb1.size | exact Nat.le_refl _)
          | (go_at_call 21
             refine (meet_any strP _ 3 3 argsX _ 3 3 [num1 2, num1 2, num1 1] (.map none) (fun _ => none) _ ?m1 ?m2 ?m3).mono ?_
             case m1 => exact Hg.out _ (belowA hb1 _)
             case m2 => exact at_vals (by unfold fits; decide) (by unfold fits; decide) (by unfold fits; decide) (heapNew rfl)
             case m3 => exact env_none _
             rw [meetX]
             rintro e w1 ⟨v4, rfl, hv4, hq1⟩
             have hb1 : Below wc.heap.size wc w1 := (belowA hb1 _).trans (hq1.mono (belowA hb1 _).size))))
      go_wp2_with fail
      go_meet
      exact ⟨rfl, hv4, HA.out.below hb1⟩
    case rest =>
      obtain ⟨rfl, hv4, hat⟩ := hcut
      clear d0 d1 hg1 hbw HA
      have HA := Lib.hid hat
      obtain ⟨g4, g1, hgg, d0, d1, hg1, hbw⟩ := hat
      obtain rfl : g4 = g3 := by injection hgg with hgg; injection hgg with hgg; injection hgg with hgg; exact hgg.symm
      clear hgg
      go_upto_region 5 with (fail)
      go_cut [6, 7] (fun _ v7 W => v7 = .bool false ∧ EnvIs W u4 (upd (fun _ => none) strX (num1 2)) ∧ Below w.heap.size w W)
      case first =>
        have Hk := Lib.hid (fun W (h : Below wc.heap.size wc W) => And.intro (below_cell h d0) (below_cell h d1))
        have Hg := Lib.hid (fun W (h : Below wc.heap.size wc W) => at_args ((h.block g1 (Array.getElem?_eq_some_iff.1 hg1).1).trans hg1))
        go_region_held3 (fun w' => w'.cell? ⟨g4, 0, none⟩ = some (.string strP) ∧ w'.cell? ⟨g4, 1, none⟩ = some (.slice (some ⟨g1, 0, none⟩) 3 3))
          (first
            | (refine Hk.out _ ?_; (repeat (first | with_reducible exact Below.refl _ _ | with_reducible assumption | with_reducible refine Below.drew ?_ | with_reducible refine belowA ?_ _)))
            | go_keep)
          ((first
            | (go_at_call 37
               refine (n_any _ _).mono ?_
               rintro e w1 ⟨rfl, hq1⟩
               have hb1 : Below wc.heap.size wc w1 := by
                 refine Below.trans ?_ (Below.mono hq1 ?_)
                 · repeat (first | with_reducible exact Below.refl _ _ | with_reducible assumption | with_reducible refine Below.drew ?_ | with_reducible refine belowA ?_ _)
                 · first | exact hb1.size | exact Nat.le_refl _)
            | (go_at_call 21
               refine (meet_any strP _ 3 3 argsX _ 3 3 [num1 2, num1 3, num1 1] (.map none) (fun _ => none) _ ?m1 ?m2 ?m3).mono ?_
               case m1 => exact Hg.out _ (belowA hb1 _)
               case m2 => exact at_vals (by unfold fits; decide) (by unfold fits; decide) (by unfold fits; decide) (heapNew rfl)
               case m3 => exact env_none _
               rw [meetY]
               rintro e w1 ⟨v4, rfl, hv4', hq1⟩
               have hb1 : Below wc.heap.size wc w1 := (belowA hb1 _).trans (hq1.mono (belowA hb1 _).size))))
        go_wp2_with fail
        go_meet
        exact ⟨rfl, hv4.below hb1, hbw.trans (hb1.mono hbw.size)⟩
      case rest =>
        clear d0 d1 hg1 hbw HA hv4
        obtain ⟨rfl, hv4, hbw⟩ := hcut
        have q1 := fun W (h : Below wc.heap.size wc W) => (env1 (hv4.below h)).1
        have q2 := fun W (h : Below wc.heap.size wc W) => (env1 (hv4.below h)).2
        have rn := run_eql_value (num1 2) (num1 2)
        rw [GV.beq_self] at rn
        clear hv4
        go_wp2_with fail
        go_region_held3 (fun w' => Below wc.heap.size wc w')
          (first | with_reducible assumption | exact (Below.refl _ _).drew)
          ((go_at_call 37
            refine (n_any _ _).mono ?_
            rintro e w1 ⟨rfl, hq1⟩
            have hb1 : Below wc.heap.size wc w1 := ((Below.refl _ wc).drew).trans (hq1.mono (Nat.le_refl _))))
        all_goals
          go_wp2_with fail
          go_ret
          exact ⟨rfl, hbw.trans (hb1.mono hbw.size)⟩
end Go.Proofs.Ytggbfpjpkfhaeaa
