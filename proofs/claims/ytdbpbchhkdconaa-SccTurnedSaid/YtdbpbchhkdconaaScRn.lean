/- Tarjan's way from one node: the walk. -/
import Derived.Test.YtdbpbchhkdconaaScLv
import Derived.Test.YtdbpbchhkdconaaScSt
namespace Go.Proofs.Ytdbpbchhkdconaa
open Go.RowKit

def PartsOf (outs out : List (List Nat)) : Prop := outs.length = out.length ∧ ∀ (i : Nat) (q p : List Nat), outs[i]? = some q → out[i]? = some p → q.Perm p ∧ q.Pairwise (· ≤ ·)
theorem PartsOf.snoc {outs out : List (List Nat)} (h : PartsOf outs out) {q p : List Nat} (h1 : q.Perm p) (h2 : q.Pairwise (· ≤ ·)) : PartsOf (outs ++ [q]) (out ++ [p]) := by
  refine ⟨by simp [h.1], fun i x y hx hy => ?_⟩
  rcases Nat.lt_trichotomy i outs.length with hi | hi | hi
  · rw [List.getElem?_append_left hi] at hx
    rw [List.getElem?_append_left (by rw [← h.1]; exact hi)] at hy
    exact h.2 i x y hx hy
  · rw [List.getElem?_append_right (by omega)] at hx
    rw [List.getElem?_append_right (by rw [← h.1]; omega), ← h.1] at hy
    rw [hi, Nat.sub_self] at hx hy
    simp at hx hy
    subst hx; subst hy
    exact ⟨h1, h2⟩
  · rw [List.getElem?_eq_none (by simp; omega)] at hx; cases hx
theorem TarAt.top {w : World} {B p : Nat} {N : Int} {EV : Value} {kI kL kO : Nat} {As : Option Addr} {cs : Nat} {Aw : Option Addr} {cw : Nat} {Ao : Option Addr} {co : Nat} {fI fL fO : Nat → Nat} {cnt : Nat} {stk : List Nat} {ws : List (Nat × List Nat)} {outs : List (List Nat)} {v : Nat} {r : List Nat}
    (h : TarAt w B p N EV kI kL kO As cs Aw cw Ao co fI fL fO cnt stk (ws ++ [(v, r)]) outs) : ∃ bw A1 c1, Aw = some ⟨bw, 0, none⟩ ∧ w.cell? ⟨bw, ws.length * 2, none⟩ = some (.int .i64 (v : Int)) ∧ w.cell? ⟨bw, ws.length * 2 + 1, none⟩ = some (.slice A1 r.length c1) ∧ w.frozen? ⟨bw, ws.length * 2 + 1, none⟩ = false ∧ SliceFar Enc.nat w (tarS p kI kL kO As Aw Ao) A1 r.length c1 r ∧ v ≤ 1000 ∧ ws.length + 1 ≤ cw := by
  obtain ⟨bw, x, cs', rfl, hx, ⟨A1, n1, c1, rfl, h1, h2⟩, hc, hf, hn, -⟩ := h.rw.at_ (i := ws.length) (by simp)
  obtain rfl : (v, r) = x := by simpa using hx
  have e : r.length = n1 := h2.1
  subst e
  refine ⟨bw, A1, c1, rfl, ?_, ?_, hf _, h2, h1, by simpa using hn⟩
  · have := hc 0 _ rfl; exact this
  · have := hc 1 _ rfl; exact this
/-- Tarjan's plain state, in memory -/
def TarS (w : World) (B p : Nat) (N : Int) (EV : Value) (kI kL kO : Nat) (σ : TS) : Prop :=
  ∃ As cs Aw cw Ao co fO outs, TarAt w B p N EV kI kL kO As cs Aw cw Ao co σ.idx σ.low fO σ.cnt σ.stk σ.wrk outs ∧ (∀ v, fO v = if v ∈ σ.stk then 1 else 0) ∧ PartsOf outs σ.out
theorem TarS.meas {w : World} {B p : Nat} {N : Int} {EV : Value} {kI kL kO : Nat} {σ : TS} (h : TarS w B p N EV kI kL kO σ) : mapSize w kI = σ.cnt ∧ sliceLen (w.cell? ⟨p, 6, none⟩) = σ.wrk.length := by
  obtain ⟨As, cs, Aw, cw, Ao, co, fO, outs, ht, -, -⟩ := h
  refine ⟨ht.mI.size, ?_⟩
  rw [ht.cells.2.2.2.2.2.2.1]; rfl
/-- what holds between the rounds: of the plain state σ, since the state σ0 and the node n0 -/
def Good (succ : Nat → List Nat) (Nn : Nat) (σ0 : TS) (n0 : Nat) (σ : TS) : Prop := TInv succ σ ∧ TIn Nn σ ∧ FIn succ σ ∧ (∀ v, σ0.idx v ≠ 0 ∨ v = n0 → σ.idx v ≠ 0)
def RunPost (succ : Nat → List Nat) (Nn : Nat) (B p : Nat) (N : Int) (EV : Value) (kI kL kO : Nat) (σ0 : TS) (n0 : Nat) (w : World) (e : Ending) (w' : World) : Prop :=
  e = .returned (.tuple #[]) ∧ (∃ σ, TarS w' B p N EV kI kL kO σ ∧ Good succ Nn σ0 n0 σ ∧ σ.wrk = []) ∧ Below B w w'

set_option maxRecDepth 100000 in
set_option maxHeartbeats 16000000 in
theorem run_any {w : World} {B p : Nat} {A : Option Addr} {m c : Nat} {kI kL kO : Nat} {l : List GEdge} {σ0 : TS} (Nn : Nat) (hNn : Nn ≤ 32)
    (h : TarS w B p (Nn : Int) (.slice A m c) kI kL kO σ0) (hB : B ≤ w.heap.size) (hl : SliceIs Enc.edge w B A m c l) (hm : m ≤ 10000) (h1 : TInv (needsN (Nn : Int) l) σ0) (h2 : TIn Nn σ0) (h3 : σ0.wrk = []) (n0 : Nat) (hn0 : n0 < Nn) (h0 : σ0.idx n0 = 0) :
    Calls Try.prog 44 #[.pointer (some ⟨p, 0, none⟩), .int .i64 (n0 : Int)] w (RunPost (needsN (Nn : Int) l) Nn B p (Nn : Int) (.slice A m c) kI kL kO σ0 n0 w) := by
  have mixed : Try.prog.follows .mixedOrders = true := by kernel_rfl
  have hF : FIn (needsN (Nn : Int) l) σ0 := fun f hf => by rw [h3] at hf; cases hf
  -- an entering, in plain words
  have HEn : Hid (∀ (W : World) (σ : TS) (ws : List (Nat × List Nat)) (k : Nat), (∃ As cs Aw cw Ao co fO outs, TarAt W B p (Nn : Int) (.slice A m c) kI kL kO As cs Aw cw Ao co σ.idx σ.low fO σ.cnt σ.stk ws outs ∧ (∀ v, fO v = if v ∈ σ.stk then 1 else 0) ∧ PartsOf outs σ.out) →
      Below B w W → TInv (needsN (Nn : Int) l) σ → TIn Nn σ → ws.length ≤ 1000 → k < Nn → σ.idx k = 0 →
      Calls Try.prog 54 #[.pointer (some ⟨p, 0, none⟩), .int .i64 (k : Int)] W (fun e w' => e = .returned (.tuple #[]) ∧ TarS w' B p (Nn : Int) (.slice A m c) kI kL kO (σ.enter (needsN (Nn : Int) l) ws k) ∧ Below B W w')) := by
    rintro W σ ws k ⟨As, cs, Aw, cw, Ao, co, fO, outs, ht, hfo, hp⟩ hbW hi1 hi2 hws hk hk0
    have hst := hi1.stk_len hi2
    have hks : k ∉ σ.stk := fun hh => by have := hi1.pos hh; omega
    have hcn := hi2.most
    refine (enter_any ht (Nat.le_trans hB hbW.size) (hl.below hbW) hm k (by omega) hk0 (by rw [hfo, if_neg hks]) (by omega) (by omega) hws).mono ?_
    rintro e w' ⟨rfl, ⟨As', cs', Aw', cw', ht'⟩, hb⟩
    refine ⟨rfl, ⟨As', cs', Aw', cw', Ao, co, _, outs, ht', fun v => ?_, hp⟩, hb⟩
    unfold updN
    show _ = if v ∈ σ.stk ++ [k] then 1 else 0
    by_cases hv : v = k
    · subst hv; simp
    · rw [if_neg hv, hfo]
      by_cases hm : v ∈ σ.stk <;> simp [hm, hv]
  have HE := Lib.hid (HEn.out w σ0 [] n0 (by obtain ⟨As, cs, Aw, cw, Ao, co, fO, outs, ht, r⟩ := h; rw [h3] at ht; exact ⟨As, cs, Aw, cw, Ao, co, fO, outs, ht, r⟩) (Below.refl _ _) h1 h2 (by simp) hn0 h0)
  have HG : Hid (Good (needsN (Nn : Int) l) Nn σ0 n0 (σ0.enter (needsN (Nn : Int) l) [] n0)) := ⟨h1.first_enter h3 h0, h2.enter hn0 h0 [], hF.enter (fun f hf => by cases hf), fun v hv => by
    show updN σ0.idx n0 (σ0.cnt + 1) v ≠ 0
    by_cases hvn : v = n0
    · subst hvn; rw [updN_same]; omega
    · rw [updN_ne hvn]; rcases hv with hv | hv
      · exact hv
      · exact absurd hv hvn⟩
  obtain ⟨P, HPe⟩ : ∃ P : Ending → World → Prop, Hid (P = RunPost (needsN (Nn : Int) l) Nn B p (Nn : Int) (.slice A m c) kI kL kO σ0 n0 w) := ⟨_, rfl⟩
  rw [← HPe.out]
  have Hl := Lib.hid hl
  clear h h1 h2 h3 hF hl
  go_enter Try.func44, Try.ntmps44
  go_wp2_with fail
  go_step3
  go_wp2_with fail
  refine HE.out.mono ?_
  rintro e w1 ⟨rfl, ht1, hb1⟩
  have HT1 := Lib.hid ht1
  have HB1 := Lib.hid hb1
  clear ht1 hb1 HE
  go_wp2_with fail
  try go_step3
  try go_wp2_with fail
  go_loopw [4, 5, 6, 7] (fun _ _ _ _ wr => ∃ σ, Hid (TarS wr B p (Nn : Int) (.slice A m c) kI kL kO σ) ∧ Hid (Good (needsN (Nn : Int) l) Nn σ0 n0 σ) ∧ Hid (Below B w wr)) (fun _ _ _ _ wr => 2 * (Nn - mapSize wr kI) + sliceLen (wr.cell? ⟨p, 6, none⟩))
  case atStart => exact ⟨_, HT1, HG, HB1⟩
  case round =>
    obtain ⟨σ, HT, HG1, HB2⟩ := hrel
    obtain ⟨As, cs, Aw, cw, Ao, co, fO, outs, ht, hfo, hp⟩ := HT.out
    obtain ⟨g1, g2, g3, g4⟩ := HG1.out
    rcases List.eq_nil_or_concat σ.wrk with hw0 | ⟨ws, ⟨v, r⟩, hw⟩
    · -- nothing is left
      have HE : Hid (P (.returned (.tuple #[])) wr) := by
        show P _ _
        rw [HPe.out]
        exact ⟨rfl, ⟨σ, HT.out, HG1.out, hw0⟩, HB2.out⟩
      have c6 := ht.cells.2.2.2.2.2.2.1
      rw [hw0, List.length_nil] at c6
      clear ht hfo hp g1 g2 g3 g4 hw0 HT HG1 HB2 HG HT1 HB1 HPe
      go_wp2_with fail
      go_end0
      exact HE.out
    · rw [List.concat_eq_append] at hw
      rw [hw] at ht
      obtain ⟨bw, A1, c1, rfl, y0, y1, yf, yfar, hv, hcw⟩ := ht.top
      have c6 := ht.cells.2.2.2.2.2.2.1
      obtain ⟨nW, HnW⟩ : ∃ n, Hid (n = ws.length + 1) := ⟨_, rfl⟩
      obtain ⟨lW, HlW⟩ : ∃ n, Hid (n = ws.length) := ⟨_, rfl⟩
      rw [show (ws ++ [(v, r)]).length = nW by rw [HnW.out]; simp] at c6
      rw [← HlW.out] at y0 y1 yf
      have k1 : ((nW : Int) - 1) = (lW : Int) := by have := HnW.out; have := HlW.out; omega
      have k2 : (0 : Int) < (nW : Int) := by have := HnW.out; omega
      have k3 : (lW : Int) < (nW : Int) := by omega
      have k4 : (0 : Int) ≤ (lW : Int) := by omega
      have k5 : (nW : Int) ≤ 33 := by have h5 := g1.wrk_len g2; rw [hw] at h5; simp at h5; have := HnW.out; omega
      have HM0 : Hid (2 * (Nn - mapSize wr kI) + sliceLen (wr.cell? ⟨p, 6, none⟩) = 2 * (Nn - σ.cnt) + (ws.length + 1)) := by
        show _ = _
        rw [HT.out.meas.1, HT.out.meas.2, hw]; simp
      have HT0 : Hid (TarAt wr.drew B p (Nn : Int) (.slice A m c) kI kL kO As cs (some ⟨bw, 0, none⟩) cw Ao co σ.idx σ.low fO σ.cnt σ.stk (ws ++ [(v, r)]) outs) := ht.on (Below.drew (Below.refl _ _))
      have Hfo := Lib.hid hfo
      have Hp := Lib.hid hp
      have Hw := Lib.hid hw
      clear ht hfo hp g1 g2 g3 g4 hw y0 y1 yf yfar HG HT1 HB1
      go_wp2_with fail
      refine drawnS mixed _ (fun W => W = wr.drew) rfl (by kernel_rfl) rfl rfl ?_
      iterate 12
        apply seqS_op
        · rintro W rfl
          go_wp2_with fail
          exact ⟨rfl, rfl, fun d hd => by cases hd; simp only [List.getElem?_toArray, List.getElem?_cons_succ, List.getElem?_cons_zero]; rfl, rfl⟩
        simp only [Act.put, List.setIfInBounds_toArray, List.set_cons_succ, List.set_cons_zero]
      apply seqS_end
      rintro W rfl
      clear c6
      have mixed' := mixed
      go_wp2_with fail
      obtain ⟨V0, hV0⟩ : ∃ V, V = wr := ⟨_, rfl⟩
      subst hV0
      have hdW : decide (0 < nW) = true := by simp; omega
      try simp only [hdW]
      go_loopw [5] (fun _ wr => ∃ (σ1 : TS) (r1 : List Nat) (fO1 : Nat → Nat), Hid (TarAt wr B p (Nn : Int) (.slice A m c) kI kL kO As cs (some ⟨bw, 0, none⟩) cw Ao co σ1.idx σ1.low fO1 σ1.cnt σ1.stk (ws ++ [(v, r1)]) outs) ∧ Hid (∀ x, fO1 x = if x ∈ σ1.stk then 1 else 0) ∧ Hid (PartsOf outs σ1.out) ∧
          Hid (σ1.wrk = ws ++ [(v, r1)]) ∧ Hid (Good (needsN (Nn : Int) l) Nn σ0 n0 σ1) ∧ Hid (Below B V0 wr) ∧ Hid (σ1.cnt = σ.cnt)) (fun _ wr => sliceLen (wr.cell? ⟨bw, lW * 2 + 1, none⟩))
      case atStart => exact ⟨σ, r, fO, HT0, Hfo, Hp, Hw, HG1, Below.drew (Below.refl _ _), rfl⟩
      case round =>
        obtain ⟨σ1, r1, fO1, HT1, Hfo1, Hp1, Hw1, HG2, HB3, Hcn⟩ := hrel
        obtain ⟨bw', A2, c2, hA2, y0, y1, yf, yfar, hv', -⟩ := HT1.out.top
        obtain rfl : bw = bw' := by injection hA2 with hA2; injection hA2
        rw [← HlW.out] at y0 y1 yf
        obtain ⟨g1, g2, g3, g4⟩ := HG2.out
        cases r1 with
        | cons k rest =>
          have hkn : k ∈ needsN (Nn : Int) l v := g3 (v, k :: rest) (by rw [Hw1.out]; simp) k (List.mem_cons_self ..)
          have hkN : k < Nn := by have := (needsN_in hkn).1; omega
          obtain ⟨b2, o2, x2, rfl, hb2, hx2, z0, -⟩ := yfar.is.nat_at (i := 0) (by simp)
          obtain rfl : k = x2 := by have := hx2.out; simpa using this
          have hrl : rest.length ≤ 140737488351232 := by have := yfar.bound; simp at this; omega
          obtain ⟨nR, HnR⟩ : ∃ n, Hid (n = rest.length + 1) := ⟨_, rfl⟩
          have hcR : rest.length + 1 ≤ c2 := by have := yfar.is.2.1; simpa using this
          rw [show (k :: rest).length = nR by rw [HnR.out]; rfl] at y1
          rw [Nat.add_zero] at z0
          have q1 : (0 : Int) < (nR : Int) := by have := HnR.out; omega
          have q2 : (1 : Int) ≤ (nR : Int) := by omega
          have q3 : (nR : Int) ≤ (c2 : Int) := by have := HnR.out; omega
          have q4 : (1 : Int) ≤ (c2 : Int) := by omega
          obtain ⟨A3, c3, hA3, far3⟩ : ∃ (A3 : Option Addr) (c3 : Nat), ((c2 = 1 ∧ A3 = some ⟨b2, o2, none⟩ ∧ c3 = 0) ∨ ((1 < c2 ∧ ¬ c2 = 1) ∧ A3 = some ⟨b2, o2 + 1, none⟩ ∧ c3 = c2 - 1)) ∧ SliceFar Enc.nat wr (tarS p kI kL kO As (some ⟨bw, 0, none⟩) Ao) A3 rest.length c3 rest := by
            by_cases hc1 : c2 = 1
            · refine ⟨_, _, .inl ⟨hc1, rfl, rfl⟩, ?_⟩
              have hr0 : rest = [] := List.eq_nil_of_length_eq_zero (by omega)
              subst hr0
              exact ⟨rfl, Nat.le_refl _, by simp [maxLen], by simp [reachN], .inl rfl⟩
            · exact ⟨_, _, .inr ⟨⟨by omega, hc1⟩, rfl, rfl⟩, SliceIs.nat_tail yfar⟩
          have HT2 : Hid (TarAt (wr.setCell ⟨bw, lW * 2 + 1, none⟩ (.slice A3 (nR - 1) c3)) B p (Nn : Int) (.slice A m c) kI kL kO As cs (some ⟨bw, 0, none⟩) cw Ao co σ1.idx σ1.low fO1 σ1.cnt σ1.stk (ws ++ [(v, rest)]) outs) := by
            rw [HlW.out]
            refine HT1.out.pop ?_
            rw [show nR - 1 = rest.length by have := HnR.out; omega]
            exact far3
          have Hm2 : Hid (sliceLen ((wr.setCell ⟨bw, lW * 2 + 1, none⟩ (.slice A3 (nR - 1) c3)).cell? ⟨bw, lW * 2 + 1, none⟩) < sliceLen (wr.cell? ⟨bw, lW * 2 + 1, none⟩)) := by
            rw [y1, World.cell?_setCell_same _ _ _ y1]
            show nR - 1 < nR
            omega
          have Hb3 : Hid (Below B V0 (wr.setCell ⟨bw, lW * 2 + 1, none⟩ (.slice A3 (nR - 1) c3))) := HB3.out.setCell (HT1.out.rw.blk (b := bw) (by simp [blkOf])).1 _
          have p2 := HT2.out.cells.2.2.1
          have lk := HT2.out.mI.look under_map under_int (zero_num _) k
          have Hfar := Lib.hid yfar
          clear yfar far3 q1 q2 q3 q4
          have q1 : (0 : Int) < (nR : Int) := by have := HnR.out; omega
          have q2 : (1 : Int) ≤ (nR : Int) := by omega
          have q3 : (nR : Int) ≤ (c2 : Int) := by have := HnR.out; omega
          rcases hA3 with ⟨rfl, rfl, rfl⟩ | ⟨⟨q5, q6⟩, rfl, rfl⟩
          all_goals
            by_cases hk0 : σ1.idx k = 0
            · -- it is begun
              rw [hk0] at lk
              have hc32 := g1.wrk_len g2
              have HE := Lib.hid (HEn.out _ σ1 (ws ++ [(v, rest)]) k ⟨_, _, _, _, _, _, _, _, HT2.out, Hfo1.out, Hp1.out⟩ (HB2.out.trans Hb3.out) g1 g2 (by rw [Hw1.out] at hc32; simp at hc32 ⊢; omega) hkN hk0)
              have HG3 : Hid (Good (needsN (Nn : Int) l) Nn σ0 n0 (σ1.enter (needsN (Nn : Int) l) (ws ++ [(v, rest)]) k)) := ⟨g1.step_enter g3 Hw1.out hk0, g2.enter hkN hk0 _, g3.enter (fun f hf => by
                  rw [Hw1.out]
                  rcases List.mem_append.1 hf with hf | hf
                  · exact ⟨f, List.mem_append_left _ hf, rfl, fun _ h => h⟩
                  · simp at hf; subst hf; exact ⟨(v, k :: rest), by simp, rfl, fun _ h => List.mem_cons_of_mem _ h⟩), fun x hx => by
                  show updN σ1.idx k (σ1.cnt + 1) x ≠ 0
                  by_cases hxk : x = k
                  · subst hxk; rw [updN_same]; omega
                  · rw [updN_ne hxk]; exact g4 x hx⟩
              have Hcl : Hid (σ1.cnt < Nn) := g2.room hkN hk0
              clear g1 g2 g3 g4 hkn hc32 hk0 hb2 hx2 HT1 Hfo1 Hp1 Hw1 HG2
              go_wp2_with fail
              refine HE.out.mono ?_
              rintro e w9 ⟨rfl, ht9, hb9⟩
              have HT9 := Lib.hid ht9
              have HB9 : Hid (Below B w w9) := HB2.out.trans (Hb3.out.trans hb9)
              have HM9 : Hid (2 * (Nn - mapSize w9 kI) + sliceLen (w9.cell? ⟨p, 6, none⟩) < 2 * (Nn - mapSize V0 kI) + sliceLen (V0.cell? ⟨p, 6, none⟩)) := by
                have e1 := ht9.meas.1
                have e2 := ht9.meas.2
                have e3 := HM0.out
                have e4 := Hcl.out
                have e5 := Hcn.out
                show _ < _
                rw [e1, e2, e3]
                show 2 * (Nn - (σ1.cnt + 1)) + ((ws ++ [(v, rest)]) ++ [(k, _)]).length < _
                simp only [List.length_append, List.length_cons, List.length_nil]
                omega
              clear ht9 hb9 HE p2 lk
              go_wp2_with fail
              go_roundw
              case rel => exact ⟨_, HT9, HG3, HB9⟩
              case measure => exact HM9.out
            · -- it is known
              have z : (((σ1.idx k : Nat) : Int) == 0) = false := by simp; omega
              have hvn : v ∈ σ1.nodes := by simp [TS.nodes, Hw1.out]
              have HGp : Hid (Good (needsN (Nn : Int) l) Nn σ0 n0 (σ1.pass ws v k rest)) := ⟨g1.pass Hw1.out hk0 hkn, g2.pass _ _ _ _, g3.pass Hw1.out, g4⟩
              obtain ⟨nO, hO⟩ := HT2.out.mO
              have lkO := hO.look under_map under_int (zero_num _) k
              have p5 := HT2.out.cells.2.2.2.2.2.1
              by_cases hks : k ∈ σ1.stk
              · rw [Hfo1.out, if_pos hks] at lkO
                have HT3 := HT2.out.on (Below.drew (Below.refl _ _))
                obtain ⟨bw', A4, c4, hA4, t0, -, -, -, -, -⟩ := HT3.top
                obtain rfl : bw = bw' := by injection hA4 with hA4; injection hA4
                rw [← HlW.out] at t0
                have p3 := HT3.cells.2.2.2.1
                have p2d := HT3.cells.2.2.1
                have lkd := HT3.mI.look under_map under_int (zero_num _) k
                obtain ⟨nL, hL⟩ := HT3.mL
                have lkL := hL.look under_map under_int (zero_num _) v
                have hlow : σ1.low v ≠ 0 := by
                  obtain ⟨-, x9, hx9, hx10, -⟩ := g1.lowi v hvn
                  have := g1.pos hx9
                  omega
                obtain ⟨w10, u10, n10, o10, s10⟩ := hL.put under_map under_int v (min (σ1.low v) (σ1.idx k)) (by omega)
                have HTp : Hid (TarAt w10 B p (Nn : Int) (.slice A m c) kI kL kO As cs (some ⟨bw, 0, none⟩) cw Ao co (σ1.pass ws v k rest).idx (σ1.pass ws v k rest).low fO1 (σ1.pass ws v k rest).cnt (σ1.pass ws v k rest).stk (ws ++ [(v, rest)]) outs) :=
                  (HT3.mapL o10 n10).funs (fun _ => rfl) (fun x => by simp [TS.pass, hks]) (fun _ => rfl)
                have HMp : Hid (sliceLen (w10.cell? ⟨bw, lW * 2 + 1, none⟩) < sliceLen (wr.cell? ⟨bw, lW * 2 + 1, none⟩)) := by
                  obtain ⟨bw2, A5, c5, hA5, -, t5, -⟩ := HTp.out.top
                  obtain rfl : bw = bw2 := by injection hA5 with hA5; injection hA5
                  rw [← HlW.out] at t5
                  show _ < _
                  rw [t5, y1]
                  show rest.length < nR
                  have := HnR.out
                  omega
                have HBp : Hid (Below B V0 w10) := Hb3.out.trans ((Below.drew (Below.refl B _)).trans (HT3.out_below (Nat.le_trans (Nat.le_trans hB HB2.out.size) (Nat.le_trans Hb3.out.size (by simp))) o10 (fun b hb => by simp at hb; subst hb; exact mem_tarS.2 (by simp))))
                have emin : ((min (σ1.low v) (σ1.idx k) : Nat) : Int) = min ((σ1.low v : Nat) : Int) ((σ1.idx k : Nat) : Int) := by omega
                rw [emin] at u10
                generalize hxv : σ1.low v = xv at *
                generalize hyv : σ1.idx k = yv at *
                clear hvn hkn hkN hk0 hks hlow hA4
                go_wp2_with fail
                refine drawnM mixed' _ (fun W => W = _) rfl (by kernel_rfl) rfl rfl ?_
                iterate 23
                  apply seqL_op
                  · rintro W rfl
                    go_wp2_with fail
                    exact ⟨rfl, rfl, fun d hd => by cases hd; simp only [List.getElem?_toArray, List.getElem?_cons_succ, List.getElem?_cons_zero]; rfl, rfl⟩
                  simp only [Act.put, List.setIfInBounds_toArray, List.set_cons_succ, List.set_cons_zero]
                apply seqL_op
                · rintro W rfl
                  go_wp2_with fail
                  refine ⟨rfl, rfl, fun d hd => ?_, rfl⟩
                  cases hd
                  simp only [List.getElem?_toArray, List.getElem?_cons_succ, List.getElem?_cons_zero]
                  rfl
                simp only [Act.put, List.setIfInBounds_toArray, List.set_cons_succ, List.set_cons_zero]
                apply seqL_end
                rintro W rfl
                go_wp2_with fail
                go_roundw
                case rel => exact ⟨σ1.pass ws v k rest, rest, fO1, HTp, Hfo1, Hp1, rfl, HGp, HBp, Hcn⟩
                case measure => exact HMp.out
              · rw [Hfo1.out, if_neg hks] at lkO
                have HTp : Hid (TarAt _ B p (Nn : Int) (.slice A m c) kI kL kO As cs (some ⟨bw, 0, none⟩) cw Ao co (σ1.pass ws v k rest).idx (σ1.pass ws v k rest).low fO1 (σ1.pass ws v k rest).cnt (σ1.pass ws v k rest).stk (ws ++ [(v, rest)]) outs) :=
                  HT2.out.funs (fun _ => rfl) (fun x => by simp [TS.pass, hks]) (fun _ => rfl)
                generalize hyv : σ1.idx k = yv at *
                clear hvn hkn hkN hk0 hks
                go_wp2_with fail
                go_roundw
                case rel => exact ⟨σ1.pass ws v k rest, rest, fO1, HTp, Hfo1, Hp1, rfl, HGp, Hb3, Hcn⟩
                case measure => exact Hm2.out
        | nil =>
          rw [List.length_nil] at y1
          have hvn : v ∈ σ1.nodes := by simp [TS.nodes, Hw1.out]
          have hvs := g1.wst v hvn
          have HT3 := HT1.out.on (Below.drew (Below.refl _ _))
          have hsl := g1.stk_len g2
          have hol := g1.out_len g2
          have hop := Hp1.out.1
          have hB3 : B ≤ wr.heap.size := Nat.le_trans (Nat.le_trans hB HB2.out.size) HB3.out.size
          have c6 := HT3.cells.2.2.2.2.2.2.1
          rw [show (ws ++ [(v, ([] : List Nat))]).length = nW by rw [HnW.out]; simp] at c6
          have f6 := HT3.free 6
          have HTc : Hid (TarAt (wr.drew.setCell ⟨p, 6, none⟩ (.slice (some ⟨bw, 0, none⟩) lW cw)) B p (Nn : Int) (.slice A m c) kI kL kO As cs (some ⟨bw, 0, none⟩) cw Ao co σ1.idx σ1.low fO1 σ1.cnt σ1.stk ws outs) :=
            HT3.setW (T := []) (Out.refl [] _) (fun b hh => by cases hh) (by rw [HlW.out]) (fun U hU => by
              have := (HT3.rw.out (T := []) (Out.refl [] _) (fun b _ hh => by cases hh) (fun b hh _ => by cases hh) hU).cut (k := lW) (by rw [HlW.out]; simp)
              rw [HlW.out, List.take_left'] at this
              · rw [HlW.out]; exact this
              · rfl) (fun b hh => .inl hh)
          have HBc : Hid (Below B V0 (wr.drew.setCell ⟨p, 6, none⟩ (.slice (some ⟨bw, 0, none⟩) lW cw))) := HB3.out.trans ((Below.drew (Below.refl B wr)).setCell HT3.ge.1 _)
          have HL := Lib.hid (leave_any HTc.out (Nat.le_trans (Nat.le_trans hB HB2.out.size) HBc.out.size) v hvs (by omega) (by omega) (fun x hx => by have := g1.stk_in g2 hx; omega))
          have k6 : (lW : Int) ≤ (nW : Int) := by omega
          have k7 : (nW : Int) ≤ (cw : Int) := by have := HnW.out; omega
          have k8 : (lW : Int) ≤ (cw : Int) := by omega
          clear hvn hvs hsl hol hop yfar
          go_wp2_with fail
          refine drawnM mixed' _ (fun W => W = _) rfl (by kernel_rfl) rfl rfl ?_
          iterate 14
            apply seqL_op
            · rintro W rfl
              go_wp2_with fail
              exact ⟨rfl, rfl, fun d hd => by cases hd; simp only [List.getElem?_toArray, List.getElem?_cons_succ, List.getElem?_cons_zero]; rfl, rfl⟩
            simp only [Act.put, List.setIfInBounds_toArray, List.set_cons_succ, List.set_cons_zero]
          apply seqL_end
          rintro W rfl
          go_wp2_with fail
          refine HL.out.mono ?_
          rintro e w5 ⟨rfl, ⟨As5, cs5, Ao5, co5, fO5, stk5, outs5, ht5, hl5⟩, hb5⟩
          have HT5 := Lib.hid ht5
          have HL5 := Lib.hid hl5
          have HB5 : Hid (Below B V0 w5) := HBc.out.trans hb5
          have c65 := ht5.cells.2.2.2.2.2.2.1
          have p35 := ht5.cells.2.2.2.1
          clear ht5 hl5 hb5 HL c6 f6
          -- what is left of the way
          have HGl : Hid (Good (needsN (Nn : Int) l) Nn σ0 n0 (σ1.leave ws v)) := ⟨g1.leave Hw1.out, g2.leave _ _, g3.leave Hw1.out, fun x hx => by rw [(leave_wrk σ1 ws v).2.1]; exact g4 x hx⟩
          have HMl : Hid (∀ w' : World, mapSize w' kI = σ1.cnt → sliceLen (w'.cell? ⟨p, 6, none⟩) = ws.length → 2 * (Nn - mapSize w' kI) + sliceLen (w'.cell? ⟨p, 6, none⟩) < 2 * (Nn - mapSize V0 kI) + sliceLen (V0.cell? ⟨p, 6, none⟩)) := fun w' e1 e2 => by
            rw [e1, e2, HM0.out, Hcn.out]; omega
          have HPa : Hid (PartsOf outs5 (σ1.leave ws v).out ∧ stk5 = (σ1.leave ws v).stk ∧ ∀ x, fO5 x = if x ∈ (σ1.leave ws v).stk then 1 else 0) := by
            show _ ∧ _ ∧ _
            rcases HL5.out with ⟨h1, rfl, rfl, rfl⟩ | ⟨h1, rfl, ⟨q, hq1, hq2, rfl⟩, rfl⟩
            · unfold TS.leave
              dsimp only
              rw [if_neg h1]
              exact ⟨Hp1.out, rfl, Hfo1.out⟩
            · unfold TS.leave
              dsimp only
              rw [if_pos h1]
              refine ⟨Hp1.out.snoc hq1 hq2, rfl, fun x => ?_⟩
              dsimp only
              rw [Hfo1.out]
              have hnd := g1.stk_nodup
              rw [← List.take_append_drop (σ1.stk.idxOf v) σ1.stk, List.nodup_append] at hnd
              by_cases hx1 : x ∈ σ1.stk.drop (σ1.stk.idxOf v)
              · rw [if_pos hx1, if_neg (fun hx2 => hnd.2.2 x hx2 x hx1 rfl)]
              · rw [if_neg hx1]
                by_cases hx2 : x ∈ σ1.stk.take (σ1.stk.idxOf v)
                · rw [if_pos hx2, if_pos (List.mem_of_mem_take hx2)]
                · rw [if_neg hx2, if_neg]
                  intro hx3
                  rw [← List.take_append_drop (σ1.stk.idxOf v) σ1.stk] at hx3
                  rcases List.mem_append.1 hx3 with hx3 | hx3
                  · exact hx2 hx3
                  · exact hx1 hx3
          rw [← HlW.out] at c65
          have HTS : Hid (∀ w', TarAt w' B p (Nn : Int) (.slice A m c) kI kL kO As5 cs5 (some ⟨bw, 0, none⟩) cw Ao5 co5 σ1.idx (σ1.leave ws v).low fO5 σ1.cnt stk5 ws outs5 → TarS w' B p (Nn : Int) (.slice A m c) kI kL kO (σ1.leave ws v) ∧ mapSize w' kI = σ1.cnt ∧ sliceLen (w'.cell? ⟨p, 6, none⟩) = ws.length) := fun w' ht => by
            have hS : TarS w' B p (Nn : Int) (.slice A m c) kI kL kO (σ1.leave ws v) := by
              refine ⟨As5, cs5, some ⟨bw, 0, none⟩, cw, Ao5, co5, fO5, outs5, ?_, HPa.out.2.2, HPa.out.1⟩
              rw [(leave_wrk σ1 ws v).2.1, (leave_wrk σ1 ws v).2.2, (leave_wrk σ1 ws v).1, ← HPa.out.2.1]
              exact ht
            exact ⟨hS, by rw [hS.meas.1, (leave_wrk σ1 ws v).2.2], by rw [hS.meas.2, (leave_wrk σ1 ws v).1]⟩
          have hvn := show v ∈ σ1.nodes by simp [TS.nodes, Hw1.out]
          have hlv : σ1.low v ≠ 0 := by
            obtain ⟨-, x9, hx9, hx10, -⟩ := g1.lowi v hvn
            have := g1.pos hx9
            omega
          rcases List.eq_nil_or_concat ws with hws | ⟨ws', ⟨u, ru⟩, hws⟩
          · have hl0 : (lW : Int) = 0 := by rw [HlW.out, hws]; rfl
            have h5 := HTS.out w5 (by rw [leave_low, hws]; rw [hws] at HT5; exact HT5.out)
            have HTA := Lib.hid h5.1
            have HMA := Lib.hid (HMl.out w5 h5.2.1 h5.2.2)
            have HBA : Hid (Below B w w5) := HB2.out.trans HB5.out
            clear h5 hws hvn hlv p35 k1 k2 k3 k4 k6 k7 k8
            go_wp2_with fail
            go_roundw
            case rel => exact ⟨_, HTA, HGl, HBA⟩
            case measure => exact HMA.out
          · rw [List.concat_eq_append] at hws
            have hun : u ∈ σ1.nodes := by simp [TS.nodes, Hw1.out, hws]
            have hlu : σ1.low u ≠ 0 := by
              obtain ⟨-, x9, hx9, hx10, -⟩ := g1.lowi u hun
              have := g1.pos hx9
              omega
            have t5 := HT5.out
            rw [hws] at t5
            have t6 := t5.on (Below.drew (Below.refl _ _))
            have t7 := t6.on (Below.drew (Below.refl _ _))
            obtain ⟨bw', A6, c6', hA6, y6, -, -, -, -, -⟩ := t6.top
            obtain rfl : bw = bw' := by injection hA6 with hA6; injection hA6
            obtain ⟨mW, HmW⟩ : ∃ n, Hid (n = ws'.length) := ⟨_, rfl⟩
            rw [← HmW.out] at y6
            have hlm : lW = mW + 1 := by rw [HlW.out, HmW.out, hws]; simp
            have m1 : ((lW : Int) - 1) = (mW : Int) := by omega
            have m2 : (0 : Int) < (lW : Int) := by omega
            have m3 : (mW : Int) < (lW : Int) := by omega
            have m4 : (0 : Int) ≤ (mW : Int) := by omega
            have m5 : (lW : Int) ≤ 33 := by omega
            have p37 := t7.cells.2.2.2.1
            obtain ⟨nL, hL⟩ := t7.mL
            have lku := hL.look under_map under_int (zero_num _) u
            have lkv := hL.look under_map under_int (zero_num _) v
            obtain ⟨w10, u10, n10, o10, s10⟩ := hL.put under_map under_int u (min (σ1.low u) (σ1.low v)) (by omega)
            have h5 := HTS.out w10 (by
              rw [leave_low, hws]
              simp only [List.getLast?_append, List.getLast?_singleton, Option.some_or]
              exact t7.mapL o10 n10)
            have HTA := Lib.hid h5.1
            have HMA := Lib.hid (HMl.out w10 h5.2.1 h5.2.2)
            have HBA : Hid (Below B w w10) := HB2.out.trans (HB5.out.trans ((Below.drew (Below.drew (Below.refl B w5))).trans (t7.out_below (by have e1 := HB2.out.size; have e2 := HB5.out.size; simp; omega) o10 (fun b hb => by simp at hb; subst hb; exact mem_tarS.2 (by simp)))))
            have emin : ((min (σ1.low u) (σ1.low v) : Nat) : Int) = min ((σ1.low u : Nat) : Int) ((σ1.low v : Nat) : Int) := by omega
            rw [emin] at u10
            have c66 := t6.cells.2.2.2.2.2.2.1
            rw [← hws, ← HlW.out] at c66
            generalize hxv : σ1.low u = xu at *
            generalize hyv : σ1.low v = xv at *
            clear h5 hws hvn hlv p35 k1 k2 k3 k4 k6 k7 k8 hun hlu t5 t6 t7 hA6 hL n10 o10 s10 hlm
            go_wp2_with fail
            refine drawnS mixed' _ (fun W => W = _) rfl (by kernel_rfl) rfl rfl ?_
            iterate 14
              apply seqS_op
              · rintro W rfl
                go_wp2_with fail
                exact ⟨rfl, rfl, fun d hd => by cases hd; simp only [List.getElem?_toArray, List.getElem?_cons_succ, List.getElem?_cons_zero]; rfl, rfl⟩
              simp only [Act.put, List.setIfInBounds_toArray, List.set_cons_succ, List.set_cons_zero]
            apply seqS_end
            rintro W rfl
            go_wp2_with fail
            refine drawnM mixed' _ (fun W => W = _) rfl (by kernel_rfl) rfl rfl ?_
            iterate 18
              apply seqL_op
              · rintro W rfl
                go_wp2_with fail
                refine ⟨rfl, rfl, fun d hd => ?_, rfl⟩
                cases hd
                simp only [List.getElem?_toArray, List.getElem?_cons_succ, List.getElem?_cons_zero]
                rfl
              simp only [Act.put, List.setIfInBounds_toArray, List.set_cons_succ, List.set_cons_zero]
            apply seqL_end
            rintro W rfl
            go_wp2_with fail
            go_roundw
            case rel => exact ⟨_, HTA, HGl, HBA⟩
            case measure => exact HMA.out
end Go.Proofs.Ytdbpbchhkdconaa
