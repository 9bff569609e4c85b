/- TupleShards: the walk. -/
import Derived.Test.YtgomfmfaoeojkaaDoorTupPicks
namespace Go.Proofs.YtgomfmfaoeojkaaDoor
open Go.RowKit

theorem int_info : (Tryd.prog.info? 3).map (fun i => (i.zero, i.size, i.bytes)) = some (some (.int .i64 0), 1, 8) := by kernel_rfl
theorem int_push {B : Nat} {W : World} {v : Value} {n : Nat} {xs : List Value} (x : Int) (hn : n ≤ 1000000) (hB : B ≤ W.heap.size) (hown : W.ownsRow B 3 1 v n xs) :
    ∃ v' w', (∀ ty, (Builtin.append_ #[45, 45] ty #[v, .slice (some ⟨W.heap.size, 0, none⟩) 1 1]).run Tryd.prog (W.alloc (.cells #[.int .i64 x] 3)) = .ok v' w') ∧
      w'.ownsRow B 3 1 v' (n + 1) (xs ++ [.int .i64 x]) ∧ Below B W w' := by
  obtain ⟨v', w', h1, h2, h3⟩ := run_push (P := Tryd.prog) W W.heap.size rfl (base := B) (t := 45) (ty := 45) Tryd.underlying45 int_info rfl (by decide) hown [.int .i64 x] rfl (by simp [Value.oneCell'])
    (by simp [maxLen]; omega) (by omega) hB
  exact ⟨v', w', fun _ => h1, h2, h3⟩
theorem ints_is {W : World} {B : Nat} {A : Option Addr} {n c : Nat} {l : List Int} (h : W.ownsRow B 3 1 (.slice A n c) n (l.map fun x => .int .i64 x)) (hl : l.length = n) (hr : n ≤ reachN) (hf : ∀ x ∈ l, fits x) : SliceIs Enc.int W W.heap.size A n c l := by
  refine SliceIs.of_flat (E := Enc.int) (fun n => [.int .i64 n]) (fun _ => rfl) (base := B) (e := 3) ?_ hl hr (fun x hx => ⟨rfl, hf x hx⟩)
  have e : (l.flatMap fun n => [Value.int .i64 n]) = l.map fun x => Value.int .i64 x := by
    rw [← List.flatMap_singleton' (l.map _), List.flatMap_map]
  rw [e]; exact h
theorem workers_some (wk : Int) : ∃ k : Nat, 1 ≤ k ∧ k ≤ 16 ∧ wrap64 (1 + wrap64 ((IntKind.u64.wrap wk).tmod 16)) = (k : Int) := by
  have h0 : 0 ≤ IntKind.u64.wrap wk := by simp [IntKind.wrap, IntKind.signed, IntKind.bits]; omega
  rw [Int.tmod_eq_emod_of_nonneg h0]
  generalize IntKind.u64.wrap wk = q at h0
  refine ⟨(1 + q % 16).toNat, by omega, by omega, ?_⟩
  unfold wrap64; omega

/-- what is picked of two tuples that are alike there -/
theorem pick_alike {a b : List GV} {cs : List Int} (h : ∀ c ∈ cs, ∃ j : Nat, c = (j : Int) ∧ j < a.length ∧ j < b.length ∧ a[j]? = b[j]?) : pickV a cs = pickV b cs := by
  unfold pickV
  apply List.map_congr_left
  intro c hc
  obtain ⟨j, rfl, -, -, e⟩ := h c hc
  rw [List.getD_eq_getElem?_getD, List.getD_eq_getElem?_getD, Int.toNat_natCast, e]
theorem pickOk_alike {a b : List GV} {cs : List Int} (h : ∀ c ∈ cs, ∃ j : Nat, c = (j : Int) ∧ j < a.length ∧ j < b.length ∧ a[j]? = b[j]?) : pickOk a.length cs = true ∧ pickOk b.length cs = true :=
  ⟨pickOk_true fun c hc => by obtain ⟨j, rfl, h1, h2, -⟩ := h c hc; omega, pickOk_true fun c hc => by obtain ⟨j, rfl, h1, h2, -⟩ := h c hc; omega⟩

set_option maxRecDepth 100000 in
set_option maxHeartbeats 4000000 in
theorem tupleShards_walk (A B : Option Addr) (n c m d : Nat) (a b : List GV) (wk : Int) (hwk : fits wk) (w : World) (ha : SliceIs Enc.val w w.heap.size A n c a) (hb : SliceIs Enc.val w w.heap.size B m d b) (h : TabW w) :
    Calls Tryd.prog 6 #[.slice A n c, .slice B m d, .int .i64 wk] w (RetBool true w) := by
  have hn := ha.bound
  have hm := hb.bound
  have hla := Lib.hid ha.1
  have hlb := Lib.hid hb.1
  have HA := Lib.hid ha
  have HB := Lib.hid hb
  have HW := Lib.hid h
  have hwk' := (fits_iff wk).1 hwk
  clear ha hb h hwk
  go_enter Tryd.func6, Tryd.ntmps6
  go_wp2_with fail
  refine (alive_any _ HW.out).mono ?_
  rintro e2 w1 ⟨rfl, hbw⟩
  have HL := Lib.hid (long02_any (some ⟨w1.heap.size, 0, none⟩) 2 2 [a, b] _ (two_tuples (HA.out.keep hbw) (HB.out.keep hbw)))
  go_wp2_with fail
  refine HL.out.mono ?_
  clear HL
  rintro e2 w2 ⟨r, rfl, hr, hq2⟩
  replace hbw := below_next (belowA hbw _) hq2
  clear hq2 hr
  cases r with
  | true =>
    go_wp2_with fail
    go_ret
    exact ⟨rfl, hbw⟩
  | false =>
  by_cases hn6 : 6 < n
  · have i1 : (6 : Int) < (n : Int) := by omega
    go_wp2_with fail
    go_ret
    exact ⟨rfl, hbw⟩
  · have i1 : ¬ (6 : Int) < (n : Int) := by omega
    by_cases hm6 : 6 < m
    · have i2 : (6 : Int) < (m : Int) := by omega
      go_wp2_with fail
      go_ret
      exact ⟨rfl, hbw⟩
    · have i2 : ¬ (6 : Int) < (m : Int) := by omega
      go_upto_region 6 with fail
      obtain ⟨k16, hk1, hk2, hkk⟩ := workers_some wk
      rw [hkk]
      clear hkk hwk'
      have hb2 := Below.refl w2.heap.size w2
      have hz0 : w2.heap.size ≤ w2.heap.size := Nat.le_refl _
      go_wp2_with fail
      go_loopw [7, 8, 37] (fun v _ i wr => ∃ (k q : Nat) (A' : Option Addr) (c' : Nat) (cs : List Int), k ≤ n ∧ q ≤ k ∧ v = .slice A' q c' ∧ i = .int .i64 k ∧ Hid (wr.ownsRow w2.heap.size 3 1 (.slice A' q c') q (cs.map fun x => .int .i64 x)) ∧ Hid (∀ x ∈ cs, ∃ j : Nat, x = (j : Int) ∧ j < a.length ∧ j < b.length ∧ a[j]? = b[j]?) ∧ Below w2.heap.size w2 wr) (fun _ _ i _ => n - (intOf i).toNat)
      case atStart => exact ⟨0, 0, _, _, [], by omega, by omega, rfl, rfl, own_empty (Nat.le_refl _) (heapNew rfl), fun x hx => by simp at hx, belowA hb2 _⟩
      case round =>
        obtain ⟨k, q, A', c', cs, hk, hq, rfl, rfl, how, hcs, hbr⟩ := hrel
        have i0 : (0 : Int) ≤ (k : Int) := by omega
        by_cases hlt : k < n
        · have i3 : (k : Int) < (n : Int) := by omega
          obtain ⟨b1, o1, x, rfl, _, hx, x1, x2, x3, -⟩ := (HA.out.keep (below_next hbw hbr)).val_at hlt
          by_cases hlm : k < m
          · have i4 : (k : Int) < (m : Int) := by omega
            obtain ⟨b2, o2, y, rfl, _, hy, y1, y2, y3, -⟩ := (HB.out.keep (below_next hbw hbr)).val_at hlm
            have rn := run_eql_value x y
            rw [GV.beq_dec] at rn
            by_cases hxy : x = y
            · simp only [hxy, decide_true] at rn
              subst hxy
              have HS : Hid (∀ z ∈ cs ++ [(k : Int)], ∃ j : Nat, z = (j : Int) ∧ j < a.length ∧ j < b.length ∧ a[j]? = b[j]?) := by
                intro z hz
                rcases List.mem_append.1 hz with hz | hz
                · exact hcs.out z hz
                · simp at hz
                  exact ⟨k, hz, by rw [hla.out]; exact hlt, by rw [hlb.out]; exact hlm, by rw [hx.out, hy.out]⟩
              have HP := Lib.hid (fun W (hb : Below w2.heap.size w2 W) (ho : W.ownsRow w2.heap.size 3 1 (.slice A' q c') q (cs.map fun x => .int .i64 x)) => int_push (B := w2.heap.size) (k : Int) (by omega) hb.size ho)
              clear hx hy hcs
              go_wp2_with fail
              go_quiet (fail)
              all_goals
                obtain ⟨v', w', hrun, hown', hb'⟩ := HP.out (wr.drewN nq) (below_next hbr (below_drewN _ _ _)) (own_below how.out (below_drewN _ _ _))
                obtain ⟨A2, c2, rfl⟩ := own_form hown'
                have hbx : Below w2.heap.size w2 w' := (below_next hbr (below_drewN wr nq _)).trans hb'
                have HRun := Lib.hid hrun
                have HO : Hid (w'.ownsRow w2.heap.size 3 1 (.slice A2 (q + 1) c2) (q + 1) ((cs ++ [(k : Int)]).map fun x => .int .i64 x)) := by
                  show World.ownsRow _ _ _ _ _ _ _
                  rw [List.map_append]; exact hown'
                clear hrun hown' hb' HP
                go_wp2_with (at_builtin; refine wpList_append_run rfl _ _ _ rfl _ _ rfl rfl (HRun.out _) ?_)
                go_roundw
                case rel => exact ⟨k + 1, q + 1, A2, c2, _, by omega, by omega, rfl, by go_num, HO.out, HS.out, hbx⟩
                case measure => simp [intOf]; omega
            · simp only [hxy, decide_false] at rn
              clear hxy hx hy
              go_wp2_with fail
              go_quiet (fail)
              all_goals
                go_wp2_with fail
                go_roundw
                case rel => exact ⟨k + 1, q, A', c', cs, by omega, by omega, rfl, by go_num, how.out, hcs.out, below_next hbr (below_drewN _ _ _)⟩
                case measure => simp [intOf]; omega
          · have i4 : ¬ (k : Int) < (m : Int) := by omega
            clear hx
            go_wp2_with fail
            go_quiet (fail)
            all_goals
              go_wp2_with fail
              go_roundw
              case rel => exact ⟨k + 1, q, A', c', cs, by omega, by omega, rfl, by go_num, how.out, hcs.out, below_next hbr (below_drewN _ _ _)⟩
              case measure => simp [intOf]; omega
        · have i3 : ¬ (k : Int) < (n : Int) := by omega
          have hcl : cs.length = q := by
            have := how.out.1
            simpa using this
          have hsl := ints_is how.out hcl (by simp [reachN]; omega) (by
            intro x hx
            obtain ⟨j, rfl, h1, -, -⟩ := hcs.out x hx
            exact (fits_iff _).2 (by have := hla.out; omega))
          replace hbw := below_next hbw hbr
          obtain ⟨ho1, ho2⟩ := pickOk_alike hcs.out
          have hpv := pick_alike hcs.out
          have hq6 : ¬ 6 < cs.length := by omega
          have pe1 := pickE_ok ho1 hq6
          have pe2 := pickE_ok ho2 hq6
          have pl : pickL a cs = pickL b cs := by simp only [pickL, pe1, pe2, if_true, hpv]
          have se1 : shardE a.length k16 cs = 0 := by unfold shardE; rw [if_neg (by omega)]; exact pe1
          have se2 : shardE b.length k16 cs = 0 := by unfold shardE; rw [if_neg (by omega)]; exact pe2
          have sv1 : shardV a k16 cs = (hashT (pickL a cs) : Int) % k16 := by unfold shardV; rw [if_pos se1]
          have sv2 : shardV b k16 cs = (hashT (pickL a cs) : Int) % k16 := by unfold shardV; rw [if_pos se2, pl]
          have hs1 := shard_any A A' n c q c' a cs k16 wr (HW.out.on hbw) (HA.out.keep hbw) hsl
          rw [se1, sv1] at hs1
          have hs2 := Lib.hid (fun W (hb : Below wr.heap.size wr W) => shard_any B A' m d q c' b cs k16 W (HW.out.on (below_next hbw hb)) (HB.out.keep (below_next hbw hb)) (hsl.keep hb))
          rw [se2, sv2] at hs2
          have b1 := Int.emod_nonneg (hashT (pickL a cs) : Int) (show (k16 : Int) ≠ 0 by omega)
          have b2 := Int.emod_lt_of_pos (hashT (pickL a cs) : Int) (show (0 : Int) < k16 by omega)
          generalize (hashT (pickL a cs) : Int) % k16 = sv at hs1 hs2 b1 b2
          have e0 : (sv == sv) = true := by simp
          have hs1 := Lib.hid hs1
          simp only [errV, if_true] at hs1 hs2
          clear hcl hsl ho1 ho2 hpv hq6 pe1 pe2 pl se1 se2 sv1 sv2 hcs how
          go_wp2_with fail
          refine hs1.out.mono ?_
          rintro e w3 ⟨rfl, hq3⟩
          go_wp2_with fail
          refine (hs2.out _ hq3).mono ?_
          rintro e w4 ⟨rfl, hq4⟩
          go_wp2_with fail
          go_ret
          exact ⟨by simp, below_next hbw (below_next hq3 hq4)⟩
end Go.Proofs.YtgomfmfaoeojkaaDoor
