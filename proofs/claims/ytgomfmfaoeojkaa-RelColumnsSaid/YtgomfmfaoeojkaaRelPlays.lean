/- RelPlays: the walk. -/
import Derived.Test.YtgomfmfaoeojkaaRelPInv
import Derived.Test.YtgomfmfaoeojkaaRelWalks
namespace Go.Proofs.Ytgomfmfaoeojkaa
open Go.RowKit

set_option maxRecDepth 100000 in
theorem isN_any (n : Int) (h : n ≠ 0) (w : World) : Calls Try.prog 19 #[.iface 45 (.int .i64 n), .int .i64 n] w (RetBool true w) := by
  have hn := Lib.hid (num_any n w)
  simp only [errV, if_neg h] at hn
  have hb : (n == n) = true := by simp
  clear h
  go_enter Try.func19, Try.ntmps19
  go_wp2_with fail
  refine hn.out.mono ?_
  rintro e w1 ⟨rfl, hb1⟩
  go_wp2_with fail
  go_ret
  exact ⟨rfl, hb1⟩

theorem set_row {W : World} {g e i : Nat} {cur : Array Value} {v : Value} (h : W.heap[g]? = some (.cells cur e (0, 0))) : (W.setCell ⟨g, i, none⟩ v).heap[g]? = some (.cells (cur.setIfInBounds i v) e (0, 0)) := by
  simp [World.setCell, Array.getElem?_modify, h]

/-- the numbers of a row of values, whatever they are -/
def NumsAt (W : World) (A : Option Addr) (n : Nat) : Prop := 0 < n → ∃ g cur, A = some ⟨g, 0, none⟩ ∧ W.heap[g]? = some (.cells cur 56 (0, 0)) ∧ ∀ i, i < n → ∃ v : Int, cur[i * 3 + 1]? = some (.int .i64 v)
theorem NumsAt.own {W : World} {base : Nat} {A : Option Addr} {c : Nat} {t : List GV} (h : TupOwn W base (.slice A t.length c) t) : NumsAt W A t.length := by
  intro h0
  rcases h.2 with ⟨hv, hn⟩ | ⟨g, cap, cur, hv, hg, hh, hnc, hcm, hsz, htk⟩
  · omega
  · simp only [Value.slice.injEq] at hv
    obtain ⟨rfl, _, rfl⟩ := hv
    refine ⟨g, cur, rfl, hh, fun i hi => ⟨t[i].n, ?_⟩⟩
    have h1 := flat_piece GV.cells (sz := 3) (fun _ => rfl) t i _ (List.getElem?_eq_getElem hi)
    have h2 : ((t.flatMap GV.cells).drop (i * 3))[1]? = some (.int .i64 t[i].n) := by
      have := congrArg (fun l => l[1]?) h1
      simp only [List.getElem?_take] at this
      rw [if_pos (by omega)] at this
      rw [this]; rfl
    rw [List.getElem?_drop, ← htk, List.getElem?_take] at h2
    split at h2
    · simpa [Array.getElem?_toList] using h2
    · cases h2
theorem NumsAt.set {W : World} {g n j c : Nat} {v : Int} (h : NumsAt W (some ⟨g, 0, none⟩) n) (hj : j < n) : NumsAt (W.setCell ⟨g, j * 3 + 1, none⟩ (.int .i64 v)) (some ⟨g, 0, none⟩) n := by
  intro h0
  obtain ⟨g', cur, e, hh, hc⟩ := h h0
  injection e with e; injection e with e; subst e
  refine ⟨g, _, rfl, set_row hh, fun i hi => ?_⟩
  rw [Array.getElem?_setIfInBounds]
  split
  · rename_i he
    obtain ⟨u, hu⟩ := hc i hi
    have := (Array.getElem?_eq_some_iff.1 hu).1
    rw [if_pos (by omega)]
    exact ⟨v, rfl⟩
  · exact hc i hi

set_option maxRecDepth 100000 in
set_option maxHeartbeats 8000000 in
theorem relPlays_walk (ar : Int) (A : Option Addr) (n c : Nat) (l : List GAct) (w : World) (hl : SliceIs Enc.act w w.heap.size A n c l) :
    Calls Try.prog 4 #[.int .i64 ar, .slice A n c] w (RetBool true w) := by
  have hn := hl.bound
  have HL := Lib.hid hl
  clear hl
  go_enter Try.func4, Try.ntmps4
  go_wp2_with fail
  refine (alive_any _).mono ?_
  rintro e w1 ⟨rfl, hb1⟩
  by_cases h60 : 60 < n
  · have h60' : (60 : Int) < (n : Int) := by omega
    go_wp2_with fail
    go_ret
    exact ⟨rfl, hb1⟩
  have h60' : ¬ (60 : Int) < (n : Int) := by omega
  clear h60
  by_cases h06 : 0 ≤ ar ∧ ar ≤ 6
  rotate_left
  · have HN := Lib.hid (new_no ar (by omega) w1)
    have HI := Lib.hid (isN_any 6 (by decide) w1)
    by_cases hlt0 : ar < 0
    · clear h06
      go_wp2_with fail
      refine HN.out.mono ?_
      rintro e w2 ⟨rfl, rfl⟩
      go_wp2_with fail
      refine HI.out.mono ?_
      rintro e w3 ⟨rfl, hb3⟩
      go_wp2_with fail
      go_ret
      exact ⟨by simp, below_next hb1 hb3⟩
    · have h6 : 6 < ar := by omega
      clear h06
      go_wp2_with fail
      refine HN.out.mono ?_
      rintro e w2 ⟨rfl, rfl⟩
      go_wp2_with fail
      refine HI.out.mono ?_
      rintro e w3 ⟨rfl, hb3⟩
      go_wp2_with fail
      go_ret
      exact ⟨by simp, below_next hb1 hb3⟩
  obtain ⟨h0, h6⟩ := h06
  have h0' : ¬ ar < 0 := by omega
  have h6' : ¬ 6 < ar := by omega
  have HN := Lib.hid (new_yes ar h0 h6 w1)
  go_wp2_with fail
  refine HN.out.mono ?_
  rintro e w2 ⟨rfl, hw2⟩
  have hb2 : Below w1.heap.size w1 w2 := by rw [hw2]; exact belowA (Below.refl _ _) _
  have hs2 : w1.heap.size < w2.heap.size := by rw [hw2]; simp
  have HR2 : Hid (RelAt w2 (w2.heap.size :: w1.heap.size :: []) w1.heap.size none ar []) := by
    show RelAt _ _ _ _ _ _
    rw [hw2]; exact RelAt.new ar (by simp)
  have Hw2 := Lib.hid hw2
  have hs1 := hb1.size
  clear hw2
  generalize hp : w1.heap.size = p at *
  unfold relP
  go_wp2_with fail
  have hP0 : PInv [] w w2.heap.size p none ar [] [] none 0 (w2.alloc (.cells #[.int .i64 ar, .slice none 0 0] 47)) := by
    have hb3 := belowA (Below.refl w2.heap.size w2) (.cells #[.int .i64 ar, .slice none 0 0] 47)
    have hb12 : Below w.heap.size w w2 := hb1.trans (hb2.mono (by omega))
    exact ⟨(HR2.out).on hb3, heapNew rfl, SliceFar.nil, hb12.trans (hb3.mono hb12.size), by omega, by omega, by omega, (fun b hb => by cases hb), fun b hb => by cases hb⟩
  have HP0 := Lib.hid hP0
  clear hP0 HN HR2 Hw2
  generalize w2.alloc (.cells #[.int .i64 ar, .slice none 0 0] 47) = w3 at HP0 ⊢
  generalize w2.heap.size = gm at *
  go_loopw [46] (fun i wr => ∃ (k : Nat) (rb : Option Nat) (L : List (List GV)) (A' : Option Addr) (c' : Nat), k ≤ n ∧ i = .int .i64 k ∧ Hid (PInv [] w gm p rb ar L L A' c' wr)) (fun i _ => n - (intOf i).toNat)
  case atStart => exact ⟨0, none, [], none, 0, by omega, rfl, HP0⟩
  case round =>
    obtain ⟨k, rb, L, A', c', hk, rfl, HP⟩ := hrel
    have i0 : (0 : Int) ≤ (k : Int) := by omega
    have hL2 : L.length ≤ 2000 := HP.out.rel.len
    by_cases hlt : k < n
    · have i1 : (k : Int) < (n : Int) := by omega
      obtain ⟨b, o, x, A1, n1, c1, rfl, hb, hx, hc0, hc1, h1⟩ := HL.out.act_at hlt
      replace hc0 := below_cell HP.out.low hc0
      replace hc1 := below_cell HP.out.low hc1
      have HX := Lib.hid h1
      obtain rfl : x.t.length = n1 := h1.1
      clear h1 hx
      have ha : (wr.alloc (.cells #[.slice A1 x.t.length c1, .bool x.d] 49)).heap[wr.heap.size]? = some (.cells #[.slice A1 x.t.length c1, .bool x.d] 49 (0, 0)) := heapNew rfl
      have hbA : Below wr.heap.size wr (wr.alloc (.cells #[.slice A1 x.t.length c1, .bool x.d] 49)) := belowA (Below.refl _ _) _
      have HPA := Lib.hid (HP.out.on hbA)
      have hga : ∀ b ∈ gm :: p :: (rb.toList ++ []), b < wr.heap.size := HP.out.lt
      have HLg := Lib.hid (long02_any (some ⟨(wr.alloc (.cells #[.slice A1 x.t.length c1, .bool x.d] 49)).heap.size, 0, none⟩) 1 1 [x.t] _ (one_tuple (HX.out.mono HPA.out.low.size HPA.out.low.block)))
      simp only [World.size_alloc] at HLg
      have HGA := Lib.hid hga
      clear hga
      go_wp2_with fail
      refine HLg.out.mono ?_
      rintro e w4 ⟨r, rfl, hr, hb4⟩
      have hb4' : Below wr.heap.size wr w4 := hbA.trans (((belowA (Below.refl _ _) _).trans (hb4.mono (by simp))).mono hbA.size)
      have hal : wr.heap.size < (wr.alloc (.cells #[.slice A1 x.t.length c1, .bool x.d] 49)).heap.size := by simp
      have ha4 : w4.heap[wr.heap.size]? = some (.cells #[.slice A1 x.t.length c1, .bool x.d] 49 (0, 0)) :=
        ((((belowA (Below.refl _ _) _).trans (hb4.mono (by simp))).block _ hal)).trans ha
      have HP4 := Lib.hid (HP.out.on hb4')
      clear HLg HPA hbA hb4 ha
      cases r with
      | true =>
        clear hr
        go_wp2_with fail
        go_ret
        exact ⟨rfl, HP4.out.low⟩
      | false =>
      have h50 : x.t.length ≤ 50 := hr rfl x.t (by simp)
      clear hr
      have e0 : w4.cell? ⟨wr.heap.size, 0, none⟩ = some (.slice A1 x.t.length c1) := (cell_of_row _ _ 0 _ _ _ ha4).trans rfl
      have e1 : w4.cell? ⟨wr.heap.size, 1, none⟩ = some (.bool x.d) := (cell_of_row _ _ 1 _ _ _ ha4).trans rfl
      have e2 : w4.cell? ⟨gm, 0, none⟩ = some (.int .i64 ar) := (cell_of_row _ _ 0 _ _ _ HP4.out.row).trans rfl
      have e3 : w4.cell? ⟨gm, 1, none⟩ = some (.slice A' L.length c') := (cell_of_row _ _ 1 _ _ _ HP4.out.row).trans rfl
      cases hd : x.d with
      | true =>
        rw [hd] at ha4 e1
        have HAW : Hid (∀ W, Below w4.heap.size w4 W → W.cell? ⟨wr.heap.size, 0, none⟩ = some (.slice A1 x.t.length c1) ∧ W.cell? ⟨gm, 0, none⟩ = some (.int .i64 ar) ∧ W.cell? ⟨gm, 1, none⟩ = some (.slice A' L.length c')) := fun W hb => ⟨below_cell hb e0, below_cell hb e2, below_cell hb e3⟩
        have HD := Lib.hid (fun (W : World) (hb : Below w4.heap.size w4 W) => drop_any (HP4.out.rel.on hb) A1 x.t.length c1 x.t (HX.out.mono (HP4.out.on hb).low.size (HP4.out.on hb).low.block))
        unfold relP at HD
        go_wp2_with fail
        go_region_held3 (fun w' => w'.cell? ⟨wr.heap.size, 0, none⟩ = some (.slice A1 x.t.length c1) ∧ w'.cell? ⟨gm, 0, none⟩ = some (.int .i64 ar) ∧ w'.cell? ⟨gm, 1, none⟩ = some (.slice A' L.length c'))
          (first
            | (refine HAW.out _ ?_; (repeat (first | exact Below.refl _ _ | assumption | refine Below.drew ?_ | refine belowA ?_ _)); done)
            | (exact ⟨y0, y1, y2⟩)
            | (exact ⟨below_cell hb6 y0, below_cell hb6 y1, below_cell hb6 y2⟩)
            | go_keep)
          ((first
            | (go_at_call 16
               with_reducible refine (HD.out _ ?a1).mono ?_
               case a1 => repeat (first | with_reducible exact Below.refl _ _ | with_reducible assumption | with_reducible refine Below.drew ?_ | with_reducible refine belowA ?_ _)
               rintro e w5 ⟨rfl, hr5, ho5⟩
               have hP5 := (HP4.out.on (Below.drew (Below.refl _ _))).out ho5 hr5 (fun b hb => .inl hb)
               have ha5 := (ho5.block _ (by have := (Array.getElem?_eq_some_iff.1 ha4).1; exact this) (fun hb => by have := HP.out.rel.lt _ hb; omega)).trans ha4
               have y0 : w5.cell? ⟨wr.heap.size, 0, none⟩ = some (.slice A1 x.t.length c1) := (cell_of_row _ _ 0 _ _ _ ha5).trans rfl
               have y1 : w5.cell? ⟨gm, 0, none⟩ = some (.int .i64 ar) := (cell_of_row _ _ 0 _ _ _ hP5.row).trans rfl
               have y2 : w5.cell? ⟨gm, 1, none⟩ = some (.slice A' L.length c') := (cell_of_row _ _ 1 _ _ _ hP5.row).trans rfl
               have HH5 := Lib.hid (fun (W : World) (hb : Below w5.heap.size w5 W) => refHas_any ar A' A1 L.length c' x.t.length c1 L x.t W (hP5.on hb).far.is (HX.out.mono (hP5.on hb).low.size (hP5.on hb).low.block))
               have HP5 := Lib.hid hP5
               have HA5 := Lib.hid ha5
               clear hP5 ha5 hr5 ho5)
            | (go_at_call 20
               with_reducible refine (HH5.out _ ?b1).mono ?_
               case b1 => repeat (first | with_reducible exact Below.refl _ _ | with_reducible assumption | with_reducible refine Below.drew ?_ | with_reducible refine belowA ?_ _)
               rintro e w6 ⟨rfl, hb6⟩)))
        all_goals
          have hP6 := HP5.out.on hb6
          have ha6 := (hb6.block _ (Array.getElem?_eq_some_iff.1 HA5.out).1).trans HA5.out
          have z0 : w6.cell? ⟨wr.heap.size, 0, none⟩ = some (.slice A1 x.t.length c1) := (cell_of_row _ _ 0 _ _ _ ha6).trans rfl
          have z1 : w6.cell? ⟨gm, 0, none⟩ = some (.int .i64 ar) := (cell_of_row _ _ 0 _ _ _ hP6.row).trans rfl
          have z2 : w6.cell? ⟨gm, 1, none⟩ = some (.slice A' L.length c') := (cell_of_row _ _ 1 _ _ _ hP6.row).trans rfl
          have HRD := Lib.hid (refDrop_any ar A' A1 L.length c' x.t.length c1 L x.t w6 (gm :: p :: (rb.toList ++ [])) hP6.lt hP6.far (HX.out.mono hP6.low.size hP6.low.block) (Nat.le_trans hL2 (by decide)))
          have HP6 := Lib.hid hP6
          clear hP6 ha6 y0 y1 y2 HAW HD HA5 HH5 HP5 HP4 e0 e1 e2 e3 ha4
          go_wp2_with fail
          refine HRD.out.mono ?_
          rintro e w7 ⟨A7, c7, rfl, hs7, hb7⟩
          have hP7 := HP6.out.on hb7
          have q0 : w7.frozen? ⟨gm, 0, none⟩ = false := frozen_of_row _ _ _ _ _ hP7.row
          have q1 : w7.frozen? ⟨gm, 1, none⟩ = false := frozen_of_row _ _ _ _ _ hP7.row
          have q2 : w7.cell? ⟨gm, 0, none⟩ = some (.int .i64 ar) := (cell_of_row _ _ 0 _ _ _ hP7.row).trans rfl
          have q3 : w7.cell? ⟨gm, 1, none⟩ = some (.slice A' L.length c') := (cell_of_row _ _ 1 _ _ _ hP7.row).trans rfl
          have HP8 := Lib.hid (hP7.set rfl hs7)
          clear hP7 hs7 HRD HP6 z0 z1 z2
          go_wp2_with fail
          go_roundw
          case rel => exact ⟨k + 1, rb, delL L x.t, A7, c7, by omega, by go_num, HP8⟩
          case measure => simp [intOf]; omega
      | false =>
        rw [hd] at ha4 e1
        have hbB : Below w4.heap.size w4 (w4.alloc (.cells #[] 56)) := belowA (Below.refl _ _) _
        obtain ⟨v5, w5, hrun5, hown5, hb45⟩ := clone_app (w := w4) (W := w4.alloc (.cells #[] 56)) (g := w4.heap.size) (HX.out.mono HP4.out.low.size HP4.out.low.block) (by omega) hbB (Nat.le_refl _) (heapNew rfl)
        obtain ⟨A5, c5, rfl⟩ := own_form hown5
        have HR5 := Lib.hid hrun5
        have eA0 := cellA (o := .cells #[] 56) e0
        clear hrun5
        go_wp2_with (at_builtin; refine wpList_append_run (o := ⟨some 72, _, _, _, _, _⟩) rfl _ _ _ rfl _ _ rfl rfl (HR5.out _) ?_)
        have hb45' : Below w4.heap.size w4 w5 := hb45
        have hP5 := HP4.out.on hb45
        have hob : ∀ g, (Value.slice A5 x.t.length c5).ownBlock = some g → w4.heap.size ≤ g ∧ g < w5.heap.size := fun g hg => own_blk hown5 hg
        have hga4 : wr.heap.size < w4.heap.size := (Array.getElem?_eq_some_iff.1 ha4).1
        obtain ⟨OB, hOB⟩ : ∃ OB, OB = (Value.slice A5 x.t.length c5).ownBlock.toList := ⟨_, rfl⟩
        have hPX : PInv OB w gm p rb ar L L A' c' w5 := HP4.out.more hb45 (fun b hb => by rw [hOB] at hb; have := hob b (by simpa using hb); omega)
        have hown5' : TupOwn w5 w4.heap.size (.slice A5 x.t.length c5) x.t := hown5
        have Hok := Lib.hid (vals_ok HX.out)
        have HAd := Lib.hid (add_any hPX.rel hPX.lt A5 x.t.length c5 x.t (hown5'.is rfl (by simp [reachN]; omega) Hok.out))
        unfold relP at HAd
        have HO5 := Lib.hid hown5'
        have HPX := Lib.hid hPX
        have HOB := Lib.hid hOB
        have HA5 : Hid (w5.heap[wr.heap.size]? = some (.cells #[.slice A1 x.t.length c1, .bool false] 49 (0, 0))) := (hb45.block _ (by omega)).trans ha4
        have HNB : Hid (wr.heap.size ∉ OB ∧ wr.heap.size ∉ p :: rb.toList) := ⟨fun hb => by rw [hOB] at hb; have := hob _ (by simpa using hb); omega, fun hb => by
          have := HP.out.rel.lt _ hb; omega⟩
        have HO4 : Hid (∀ b ∈ OB, b ∉ p :: rb.toList) := fun b hb hb' => by
          have h1 := hPX.xs b hb
          simp at hb'
          rcases hb' with hb' | hb'
          · exact h1.2.2.2.1 hb'
          · exact h1.2.2.2.2 hb'
        clear hPX hown5 hown5' hob hP5 e0 e1 e2 e3 eA0 HR5 hOB
        refine HAd.out.mono ?_
        rintro e w6 ⟨rb6, rfl, hr6, ho6, hrb6⟩
        have hP6 := HPX.out.out ho6 (rb' := rb6) (L' := addL ar L x.t) (hr6.out (T := []) (Out.refl [] w6) (fun _ h _ => by cases h) (fun b hb _ => by
            simp only [List.mem_cons, List.mem_append, Option.mem_toList] at hb ⊢
            rcases hb with hb | hb | hb | hb
            · exact .inr (.inl hb)
            · exact .inr (.inr (.inl hb))
            · exact .inl hb
            · exact .inr (.inr (.inr (.inr hb)))) (by simp) (fun b hb => by simp [hb])) (fun b hb => (hrb6 b hb).2)
        have HO6 : Hid (TupOwn w6 w4.heap.size (.slice A5 x.t.length c5) x.t) := own_out' HO5.out ho6 (fun b hb => HO4.out b (by rw [HOB.out]; simp [hb]))
        have ha6 := (ho6.block _ (Array.getElem?_eq_some_iff.1 HA5.out).1 HNB.out.2).trans HA5.out
        have z0 : w6.cell? ⟨wr.heap.size, 0, none⟩ = some (.slice A1 x.t.length c1) := (cell_of_row _ _ 0 _ _ _ ha6).trans rfl
        have z1 : w6.cell? ⟨gm, 0, none⟩ = some (.int .i64 ar) := (cell_of_row _ _ 0 _ _ _ hP6.row).trans rfl
        have z2 : w6.cell? ⟨gm, 1, none⟩ = some (.slice A' L.length c') := (cell_of_row _ _ 1 _ _ _ hP6.row).trans rfl
        have HRA := Lib.hid (refAdd_any ar A' A1 L.length c' x.t.length c1 L x.t w6 (gm :: p :: (rb6.toList ++ OB)) hP6.lt hP6.far (HX.out.mono hP6.low.size hP6.low.block) hL2 (by omega))
        have HP6 := Lib.hid hP6
        have HL2 : Hid ((addL ar L x.t).length ≤ 2000) := hP6.rel.len
        generalize addL ar L x.t = L2 at *
        generalize addB ar L x.t = b6 at *
        generalize addE ar L x.t = x6 at *
        generalize hE6 : errV 45 x6 = e6
        have HE6 := Lib.hid hE6
        clear hP6 hr6 hrb6 ho6 HPX HAd HO5 HA5 hE6 HO4
        go_wp2_with fail
        refine HRA.out.mono ?_
        rintro e w7 ⟨A7, c7, rfl, hs7, hb7⟩
        have hP7 := HP6.out.on hb7
        have hb8 : Below w7.heap.size w7 (w7.alloc (.cells #[.int .i64 ar, .slice A7 L2.length c7] 47)) := belowA (Below.refl _ _) _
        have hP8 := hP7.on hb8
        have q0 : (w7.alloc (.cells #[.int .i64 ar, .slice A7 L2.length c7] 47)).frozen? ⟨gm, 0, none⟩ = false := frozen_of_row _ _ _ _ _ hP8.row
        have q1 : (w7.alloc (.cells #[.int .i64 ar, .slice A7 L2.length c7] 47)).frozen? ⟨gm, 1, none⟩ = false := frozen_of_row _ _ _ _ _ hP8.row
        have q2 : (w7.alloc (.cells #[.int .i64 ar, .slice A7 L2.length c7] 47)).cell? ⟨gm, 0, none⟩ = some (.int .i64 ar) := (cell_of_row _ _ 0 _ _ _ hP8.row).trans rfl
        have q3 : (w7.alloc (.cells #[.int .i64 ar, .slice A7 L2.length c7] 47)).cell? ⟨gm, 1, none⟩ = some (.slice A' L.length c') := (cell_of_row _ _ 1 _ _ _ hP8.row).trans rfl
        have HP9 := Lib.hid (hP8.set rfl (hs7.on hb8))
        have hb68 := below_next hb7 hb8
        have ho9 : Out [gm] (w7.alloc (.cells #[.int .i64 ar, .slice A7 L2.length c7] 47)) (((w7.alloc (.cells #[.int .i64 ar, .slice A7 L2.length c7] 47)).setCell ⟨gm, 0, none⟩ (.int .i64 ar)).setCell ⟨gm, 1, none⟩ (.slice A7 L2.length c7)) := (set_out _ gm 0 _).trans (set_out _ gm 1 _) (fun b hb _ => hb)
        have HO9 := Lib.hid (NumsAt.own (own_out' (own_below HO6.out hb68) ho9 (fun b hb hb' => by
          have := (HP6.out.xs b (by rw [HOB.out]; simp [hb])).2.2.1
          simp at hb'; exact this hb')))
        have ha9 : Hid ((((w7.alloc (.cells #[.int .i64 ar, .slice A7 L2.length c7] 47)).setCell ⟨gm, 0, none⟩ (.int .i64 ar)).setCell ⟨gm, 1, none⟩ (.slice A7 L2.length c7)).heap[wr.heap.size]? = some (.cells #[.slice A1 x.t.length c1, .bool false] 49 (0, 0))) := by
          have hgne : wr.heap.size ≠ gm := by have := (Array.getElem?_eq_some_iff.1 HP.out.row).1; omega
          exact (World.heap_setCells_other' hgne).trans ((World.heap_setCells_other' hgne).trans ((hb68.block _ (Array.getElem?_eq_some_iff.1 ha6).1).trans ha6))
        clear hP7 hP8 hs7 HRA HP6 z0 z1 z2 HO6 hb8 hb7 hb68 ho9
        go_wp2_with fail
        generalize (((w7.alloc (.cells #[.int .i64 ar, .slice A7 L2.length c7] 47)).setCell ⟨gm, 0, none⟩ (.int .i64 ar)).setCell ⟨gm, 1, none⟩ (.slice A7 L2.length c7)) = w9 at HP9 HO9 ha9 ⊢
        have HNB2 := Lib.hid HNB.out.1
        clear q0 q1 q2 q3 HP ha6 ha4 HNB hga4 HGA
        generalize wr.heap.size = ga at *
        go_loopw [16, 90] (fun _ i wr => ∃ j : Nat, j ≤ x.t.length ∧ i = .int .i64 j ∧ Out OB w9 wr ∧ Hid (NumsAt wr A5 x.t.length)) (fun _ i _ => x.t.length - (intOf i).toNat)
        case atStart => exact ⟨0, Nat.zero_le _, rfl, Out.refl _ _, HO9⟩
        case round =>
          obtain ⟨j, hj, rfl, hoq, HNq⟩ := hrel
          have j0 : (0 : Int) ≤ (j : Int) := by omega
          by_cases hjt : j < x.t.length
          · have j1 : (j : Int) < (x.t.length : Int) := by omega
            obtain ⟨g, cur, rfl, hh, hcur⟩ := HNq.out (by omega)
            obtain ⟨v, hv⟩ := hcur j hjt
            have cv : wr.cell? ⟨g, j * 3 + 1, none⟩ = some (.int .i64 v) := (cell_of_row _ _ (j * 3 + 1) _ _ _ hh).trans hv
            have fv : wr.frozen? ⟨g, j * 3 + 1, none⟩ = false := frozen_of_row _ _ _ _ _ hh
            have hoS : ∀ u, Out OB w9 (wr.setCell ⟨g, j * 3 + 1, none⟩ u) := fun u => hoq.trans (set_out wr g _ u) (fun b hb _ => by rw [HOB.out]; simpa [Value.ownBlock] using hb)
            have HoS := Lib.hid hoS
            have HNS := Lib.hid (fun u => NumsAt.set (c := 0) (v := u) HNq.out hjt)
            clear hh hcur hv hoS
            go_wp2_with fail
            go_roundw
            case rel => exact ⟨j + 1, by omega, by go_num, HoS.out _, HNS.out _⟩
            case measure => simp [intOf]; omega
          · have j1 : ¬ (j : Int) < (x.t.length : Int) := by omega
            have hP10 := HP9.out.less hoq
            have ha10 := (hoq.block _ (Array.getElem?_eq_some_iff.1 ha9.out).1 HNB2.out).trans ha9.out
            have HP10 := Lib.hid hP10
            have z0 : wr.cell? ⟨ga, 0, none⟩ = some (.slice A1 x.t.length c1) := (cell_of_row _ _ 0 _ _ _ ha10).trans rfl
            have z1 : wr.cell? ⟨gm, 0, none⟩ = some (.int .i64 ar) := (cell_of_row _ _ 0 _ _ _ hP10.row).trans rfl
            have z2 : wr.cell? ⟨gm, 1, none⟩ = some (.slice A7 L2.length c7) := (cell_of_row _ _ 1 _ _ _ hP10.row).trans rfl
            have HKp := Lib.hid (fun (W : World) (hb : Below wr.heap.size wr W) => And.intro (below_cell hb z0) (And.intro (below_cell hb z1) (below_cell hb z2)))
            have HXW := fun (W : World) (hb : Below wr.heap.size wr W) => HX.out.mono (HP10.out.on hb).low.size (HP10.out.on hb).low.block
            have HC1 : Hid (∀ W, Calls Try.prog 23 #[e6] W (RetInt x6 W)) := fun W => by rw [← HE6.out]; exact num_any x6 W
            have HC2 := Lib.hid (fun (W : World) (hb : Below wr.heap.size wr W) => has_any (HP10.out.on hb).rel A1 x.t.length c1 x.t (HXW W hb))
            have HC3 := Lib.hid (fun (W : World) (hb : Below wr.heap.size wr W) => refHas_any ar A7 A1 L2.length c7 x.t.length c1 L2 x.t W (HP10.out.on hb).far.is (HXW W hb))
            unfold relP at HC2
            generalize decide (x.t ∈ L2) = b9 at HC2 HC3
            clear hP10 ha10 HXW hoq HNq HO9 HP9 ha9
            have n1 : (b6 != b6) = false := by simp
            have n2 : (x6 != x6) = false := by simp
            have n3 : (b9 != b9) = false := by simp
            go_wp2_with fail
            go_region_held3 (fun w' => w'.cell? ⟨ga, 0, none⟩ = some (.slice A1 x.t.length c1) ∧ w'.cell? ⟨gm, 0, none⟩ = some (.int .i64 ar) ∧ w'.cell? ⟨gm, 1, none⟩ = some (.slice A7 L2.length c7))
              (first
                | (refine HKp.out _ ?_; (repeat (first | exact Below.refl _ _ | assumption | refine Below.drew ?_ | refine belowA ?_ _)); done)
                | go_keep)
              ((first
                | (go_at_call 23
                   with_reducible refine (HC1.out _).mono ?_
                   rintro e w11 ⟨rfl, hq11⟩
                   have hb11 : Below wr.heap.size wr w11 := below_next (Below.drew (Below.refl _ _)) hq11)
                | (go_at_call 15
                   with_reducible refine (HC2.out _ ?a1).mono ?_
                   case a1 => repeat (first | with_reducible exact Below.refl _ _ | with_reducible assumption | with_reducible refine Below.drew ?_ | with_reducible refine belowA ?_ _)
                   rintro e w12 ⟨rfl, hq12⟩
                   have hb12 : Below wr.heap.size wr w12 := below_next hb11 hq12)
                | (go_at_call 20
                   with_reducible refine (HC3.out _ ?a1).mono ?_
                   case a1 => repeat (first | with_reducible exact Below.refl _ _ | with_reducible assumption | with_reducible refine Below.drew ?_ | with_reducible refine belowA ?_ _)
                   rintro e w13 ⟨rfl, hq13⟩
                   have hb13 : Below wr.heap.size wr w13 := below_next hb12 hq13)))
            all_goals
              have HP13 := Lib.hid (HP10.out.on hb13)
              go_wp2_with fail
              go_roundw
              case rel => exact ⟨k + 1, rb6, L2, A7, c7, by omega, by go_num, HP13⟩
              case measure => simp [intOf]; omega
    · have i1 : ¬ (k : Int) < (n : Int) := by omega
      have HC := Lib.hid (rcopy_any HP.out.rel)
      unfold relP at HC
      go_wp2_with fail
      refine HC.out.mono ?_
      rintro e w4 ⟨q, qb, rfl, hb4, hcop, hq1, hq2, hqb⟩
      have HP4 : Hid (PInv (q :: qb.toList) w gm p rb ar L L A' c' w4) := HP.out.more hb4 (fun b hb => by
        simp at hb
        rcases hb with rfl | hb
        · exact ⟨hq1, hq2⟩
        · exact hqb b hb)
      have HC4 : Hid (RelAt w4 (q :: qb.toList) q qb ar L) := hcop.own
      clear hcop HC HP hb4 hqb hq1 hq2
      unfold relP
      go_wp2_with fail
      go_loopw [127] (fun i wr => ∃ (k : Nat) (C : List (List GV)), k ≤ n ∧ i = .int .i64 k ∧ Hid (PInv (q :: qb.toList) w gm p rb ar L L A' c' wr) ∧ Hid (RelAt wr (q :: qb.toList) q qb ar C)) (fun i _ => n - (intOf i).toNat)
      case atStart => exact ⟨0, L, by omega, rfl, HP4, HC4⟩
      case round =>
        obtain ⟨j, C, hj, rfl, HPj, HCj⟩ := hrel
        have j0 : (0 : Int) ≤ (j : Int) := by omega
        by_cases hjt : j < n
        · have j1 : (j : Int) < (n : Int) := by omega
          obtain ⟨b, o, x, A1, n1, c1, rfl, hb, hx, hc0, hc1, h1⟩ := HL.out.act_at hjt
          replace hc0 := below_cell HPj.out.low hc0
          replace hc1 := below_cell HPj.out.low hc1
          have hbA : Below wr.heap.size wr (wr.alloc (.cells #[.slice A1 n1 c1, .bool x.d] 49)) := belowA (Below.refl _ _) _
          have hPA := HPj.out.on hbA
          have HD := Lib.hid (drop_any (HCj.out.on hbA) A1 n1 c1 x.t (h1.mono hPA.low.size hPA.low.block))
          have HPA := Lib.hid hPA
          unfold relP at HD
          clear h1 hx hPA hbA
          go_wp2_with fail
          refine HD.out.mono ?_
          rintro e w5 ⟨rfl, hr5, ho5⟩
          have HP5 := Lib.hid (HPA.out.turn ho5)
          have HC5 := Lib.hid hr5
          clear hr5 ho5 HD HPA HPj HCj
          go_wp2_with fail
          go_roundw
          case rel => exact ⟨j + 1, _, by omega, by go_num, HP5, HC5⟩
          case measure => simp [intOf]; omega
        · have j1 : ¬ (j : Int) < (n : Int) := by omega
          have z1 : wr.cell? ⟨gm, 0, none⟩ = some (.int .i64 ar) := (cell_of_row _ _ 0 _ _ _ HPj.out.row).trans rfl
          have z2 : wr.cell? ⟨gm, 1, none⟩ = some (.slice A' L.length c') := (cell_of_row _ _ 1 _ _ _ HPj.out.row).trans rfl
          have HI := Lib.hid (is_yes HPj.out.rel A' c' HPj.out.far.is)
          unfold relP at HI
          go_wp2_with fail
          refine HI.out.mono ?_
          rintro e w5 ⟨rfl, hb5⟩
          go_wp2_with fail
          go_ret
          exact ⟨by simp, below_next HPj.out.low hb5⟩
end Go.Proofs.Ytgomfmfaoeojkaa
