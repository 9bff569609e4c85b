/- ArithWhole: what is solved. Printed by wip/tools/gen_arwh.py. -/
import Derived.Test.YtplekbpmfaghbaaGreatDoorArWh0
namespace Go.Proofs.YtplekbpmfaghbaaGreatDoor
open Go.RowKit

set_option maxRecDepth 100000 in
set_option maxHeartbeats 8000000 in
theorem arithWhole_true (d : Nat) (x : GLit) (A : Option Addr) (n c : Nat) (P : Option Addr) (pn pc : Nat) (Q : Option Addr) (qn qc : Nat) (B : Option Addr) (bn bc : Nat) (l : List GTold) (w : World) (h : LitAt d w w.heap.size x ⟨A, n, c⟩ ⟨P, pn, pc⟩ ⟨Q, qn, qc⟩) (hl : SliceIs Enc.told w w.heap.size B bn bc l) (hW : ParW w) (hqb : (solveT (getT l) x).2.1 = true) :
    Calls Tryz.prog 10 #[.agg #[.int .i64 x.k, .string x.atom.rel, .slice A n c, .int .i64 x.op, .int .i64 x.l.op, .string x.l.t.x, .int .i64 x.l.t.v.k, .int .i64 x.l.t.v.n, .string x.l.t.v.s, .slice P pn pc, .int .i64 x.r.op, .string x.r.t.x, .int .i64 x.r.t.v.k, .int .i64 x.r.t.v.n, .string x.r.t.v.s, .slice Q qn qc, .int .i64 x.pos], .slice B bn bc] w (RetBool true w) := by
  have mixed : Tryz.prog.follows .mixedOrders = true := by kernel_rfl
  have hba : Below w.heap.size w (w.alloc (.cells #[.int .i64 x.k, .string x.atom.rel, .slice A n c, .int .i64 x.op, .int .i64 x.l.op, .string x.l.t.x, .int .i64 x.l.t.v.k, .int .i64 x.l.t.v.n, .string x.l.t.v.s, .slice P pn pc, .int .i64 x.r.op, .string x.r.t.x, .int .i64 x.r.t.v.k, .int .i64 x.r.t.v.n, .string x.r.t.v.s, .slice Q qn qc, .int .i64 x.pos] 38)) := belowA (Below.refl _ _) _
  have hr1 : (w.alloc (.cells #[.int .i64 x.k, .string x.atom.rel, .slice A n c, .int .i64 x.op, .int .i64 x.l.op, .string x.l.t.x, .int .i64 x.l.t.v.k, .int .i64 x.l.t.v.n, .string x.l.t.v.s, .slice P pn pc, .int .i64 x.r.op, .string x.r.t.x, .int .i64 x.r.t.v.k, .int .i64 x.r.t.v.n, .string x.r.t.v.s, .slice Q qn qc, .int .i64 x.pos] 38)).heap[w.heap.size]? = some (.cells #[.int .i64 x.k, .string x.atom.rel, .slice A n c, .int .i64 x.op, .int .i64 x.l.op, .string x.l.t.x, .int .i64 x.l.t.v.k, .int .i64 x.l.t.v.n, .string x.l.t.v.s, .slice P pn pc, .int .i64 x.r.op, .string x.r.t.x, .int .i64 x.r.t.v.k, .int .i64 x.r.t.v.n, .string x.r.t.v.s, .slice Q qn qc, .int .i64 x.pos] 38 (0, 0)) := heapNew rfl
  have HA := Lib.hid (alive13_any _ (hW.on hba))
  have HF : Hid (∀ W, Below (w.alloc (.cells #[.int .i64 x.k, .string x.atom.rel, .slice A n c, .int .i64 x.op, .int .i64 x.l.op, .string x.l.t.x, .int .i64 x.l.t.v.k, .int .i64 x.l.t.v.n, .string x.l.t.v.s, .slice P pn pc, .int .i64 x.r.op, .string x.r.t.x, .int .i64 x.r.t.v.k, .int .i64 x.r.t.v.n, .string x.r.t.v.s, .slice Q qn qc, .int .i64 x.pos] 38)).heap.size (w.alloc (.cells #[.int .i64 x.k, .string x.atom.rel, .slice A n c, .int .i64 x.op, .int .i64 x.l.op, .string x.l.t.x, .int .i64 x.l.t.v.k, .int .i64 x.l.t.v.n, .string x.l.t.v.s, .slice P pn pc, .int .i64 x.r.op, .string x.r.t.x, .int .i64 x.r.t.v.k, .int .i64 x.r.t.v.n, .string x.r.t.v.s, .slice Q qn qc, .int .i64 x.pos] 38)) W → LitRow W w.heap.size x A n c P pn pc Q qn qc) := fun W h => (h.block _ (Array.getElem?_eq_some_iff.1 hr1).1).trans hr1
  have HB := Lib.hid hba
  have HL := Lib.hid hl
  have hbn := hl.bound
  have HS := Lib.hid (fun (W : World) (hb : Below w.heap.size w W) => szRule_any d (ruleL x) ⟨none, 0, 0⟩ ⟨some ⟨W.heap.size, 0, none⟩, 1, 1⟩ 400 (W.alloc (.cells #[.int .i64 x.k, .string x.atom.rel, .slice A n c, .int .i64 x.op, .int .i64 x.l.op, .string x.l.t.x, .int .i64 x.l.t.v.k, .int .i64 x.l.t.v.n, .string x.l.t.v.s, .slice P pn pc, .int .i64 x.r.op, .string x.r.t.x, .int .i64 x.r.t.v.k, .int .i64 x.r.t.v.n, .string x.r.t.v.s, .slice Q qn qc, .int .i64 x.pos] 38)) (ruleL_at (heapNew rfl) (h.keep (belowA hb _))) (by decide) (by decide))
  have HG := Lib.hid (fun (W : World) (hb : Below w.heap.size w W) => long13_any B bn bc l W (hl.keep hb))
  have HSo : Hid (∀ (m : Value) (W : World) (hb : Below w.heap.size w W) (hm : EnvIs W m (getT l)), Calls Tryz.prog 53 #[litV x A n c P pn pc Q qn qc, m] W (SolveP (getT l) (solveT (getT l) x) W)) := (fun (m : Value) (W : World) (hb : Below w.heap.size w W) (hm : EnvIs W m (getT l)) => asolve_any d x A n c P pn pc Q qn qc m (getT l) W (h.keep hb) hm (hW.lex.on hb))
  have HTe : Hid (∀ (m : Value) (f : ByteArray → Option GV) (W : World) (hb : Below w.heap.size w W) (hm : EnvIs W m f), Calls Tryz.prog 52 #[litV x A n c P pn pc Q qn qc, m] W (RetBE (testT f x) (errV 90) W)) := (fun (m : Value) (f : ByteArray → Option GV) (W : World) (hb : Below w.heap.size w W) (hm : EnvIs W m f) => atest_any d x A n c P pn pc Q qn qc m f W (h.keep hb) hm (hW.lex.on hb))
  clear hba hr1 hW h
  generalize hwb : (w.alloc (.cells #[.int .i64 x.k, .string x.atom.rel, .slice A n c, .int .i64 x.op, .int .i64 x.l.op, .string x.l.t.x, .int .i64 x.l.t.v.k, .int .i64 x.l.t.v.n, .string x.l.t.v.s, .slice P pn pc, .int .i64 x.r.op, .string x.r.t.x, .int .i64 x.r.t.v.k, .int .i64 x.r.t.v.n, .string x.r.t.v.s, .slice Q qn qc, .int .i64 x.pos] 38)) = wb at *
  generalize hszr : szR (ruleL x) 400 = R at *
  clear hszr
  go_enter Tryz.func10, Tryz.ntmps10
  go_wp2_with fail
  try simp only [hwb]
  clear hwb
  generalize (.agg #[.int .i64 x.k, .string x.atom.rel, .slice A n c, .int .i64 x.op, .int .i64 x.l.op, .string x.l.t.x, .int .i64 x.l.t.v.k, .int .i64 x.l.t.v.n, .string x.l.t.v.s, .slice P pn pc, .int .i64 x.r.op, .string x.r.t.x, .int .i64 x.r.t.v.k, .int .i64 x.r.t.v.n, .string x.r.t.v.s, .slice Q qn qc, .int .i64 x.pos] : Value) = LV0
  go_wp2_with fail
  refine HA.out.mono ?_
  rintro e w1 ⟨rfl, hb1⟩
  have HB1 := Lib.hid hb1
  obtain ⟨f0, f1, f2, f3, f4, f5, f6, f7, f8, f9, f10, f11, f12, f13, f14, f15, f16⟩ := (HF.out _ hb1).facts
  clear hb1 HA
  go_wp2_with fail
  refine (HS.out w1 (below_next HB.out HB1.out)).mono ?_
  rintro e w2 ⟨rfl, hb2⟩
  have HB2 := Lib.hid (below_next (belowA HB1.out (.cells #[.int .i64 x.k, .string x.atom.rel, .slice A n c, .int .i64 x.op, .int .i64 x.l.op, .string x.l.t.x, .int .i64 x.l.t.v.k, .int .i64 x.l.t.v.n, .string x.l.t.v.s, .slice P pn pc, .int .i64 x.r.op, .string x.r.t.x, .int .i64 x.r.t.v.k, .int .i64 x.r.t.v.n, .string x.r.t.v.s, .slice Q qn qc, .int .i64 x.pos] 38)) hb2)
  clear hb2 HS f0 f1 f2 f3 f4 f5 f6 f7 f8 f9 f10 f11 f12 f13 f14 f15 f16
  by_cases hR : R < 0
  · go_wp2_with fail
    go_ret
    exact ⟨rfl, below_next HB.out HB2.out⟩
  go_wp2_with fail
  refine (HG.out _ (below_next HB.out HB2.out)).mono ?_
  rintro e w3 ⟨r, rfl, hn31, hb3⟩
  have HB4 := Lib.hid (below_next HB2.out hb3)
  clear hb3 HG
  cases r with
  | true =>
    go_wp2_with fail
    go_ret
    exact ⟨rfl, below_next HB.out HB4.out⟩
  | false =>
  have HL4 := Lib.hid (HL.out.keep (below_next HB.out HB4.out))
  clear HB2 hn31
  go_wp2_with fail
  go_loopw [26, 34, 6, 28, 29, 30, 31, 32, 33] (fun i _ _ _ _ _ _ _ _ wr => ∃ k : Nat, k ≤ bn ∧ i = .int .i64 k ∧ Hid (∀ t ∈ l.take k, rightB t.v = true) ∧ Below w3.heap.size w3 wr) (fun i _ _ _ _ _ _ _ _ _ => bn - (intOf i).toNat)
  case atStart => exact ⟨0, by omega, rfl, fun t ht => by simp at ht, Below.refl _ _⟩
  case round =>
    obtain ⟨k, hk, rfl, hrt, hbw⟩ := hrel
    by_cases hlt : k < bn
    · obtain ⟨b, o, t, rfl, hb, hx, hc, hc1, hc2, hc3, hs, hok⟩ := (HL4.out.keep hbw).told_at hlt
      have HR := Lib.hid (refRight_any t.v hok)
      have Hbw := Lib.hid hbw
      have Hok := Lib.hid hok
      have HX := Lib.hid hx
      clear hok hs hbw hx
      go_wp2_with fail
      refine (HR.out _).mono ?_
      rintro e w5 ⟨rfl, hb5⟩
      have HB5 := Lib.hid (below_next (belowA Hbw.out (.cells #[.string t.x, .int .i64 t.v.k, .int .i64 t.v.n, .string t.v.s] 119)) hb5)
      clear hb5
      cases hrr : rightB t.v with
      | false =>
        go_wp2_with fail
        go_ret
        exact ⟨rfl, below_next HB.out (below_next HB4.out HB5.out)⟩
      | true =>
        go_wp2_with fail
        go_roundw
        case rel => exact ⟨k + 1, by omega, by go_num, Lib.hid (take_all hrt.out HX.out hrr), HB5.out⟩
        case measure => simp [intOf]; omega
    ·
      obtain ⟨W5, hW5⟩ : ∃ W, W = wr := ⟨_, rfl⟩
      subst hW5
      have HRt : Hid (∀ t ∈ l, rightB t.v = true) := by
        have : l.take k = l := List.take_of_length_le (by have := HL4.out.1; omega)
        have hrt := hrt.out
        rw [this] at hrt
        exact hrt
      have HB5 := Lib.hid (below_next HB4.out hbw)
      have HW5 := Lib.hid (HL4.out.keep hbw)
      clear hrt hbw HL4 HL
      go_wp2_with fail
      obtain ⟨q, hq⟩ : ∃ q, solveT (getT l) x = q := ⟨_, rfl⟩
      have HSo2 : Hid (∀ m W, Below w.heap.size w W → EnvIs W m (getT l) → Calls Tryz.prog 53 #[litV x A n c P pn pc Q qn qc, m] W (SolveP (getT l) q W)) := fun m W hb hm => by rw [← hq]; exact HSo.out m W hb hm
      have HQ : Hid (q.2.1 = true → testT (updO (getT l) q.1) x = (true, 0) ∧ ∀ s v, updO (getT l) q.1 s = some v → rightB v = true) := fun h => by
        rw [← hq] at h ⊢
        unfold solveT at h ⊢
        cases hc : cmpB3 x with
        | false => rw [hc] at h; cases h
        | true =>
          rw [hc] at h
          refine ⟨?_, ?_⟩
          · rw [if_pos rfl]
            unfold testT
            rw [hc]
            exact solve_holds h
          · rw [if_pos rfl]
            exact solve_right (getT_right HRt.out)
      have HB5w := Lib.hid (below_next HB.out HB5.out)
      rw [hq] at hqb
      clear HSo hq HRt
      obtain ⟨qo, qb, qe⟩ := q
      unfold SolveP at HSo2
      dsimp only at HSo2 HQ hqb
      subst hqb
      have Hk : Hid (∀ W, Below W5.heap.size W5 W → W.cell? ⟨w.heap.size, 0, none⟩ = some (.int .i64 x.k) ∧ W.cell? ⟨w.heap.size, 1, none⟩ = some (.string x.atom.rel) ∧ W.cell? ⟨w.heap.size, 2, none⟩ = some (.slice A n c) ∧ W.cell? ⟨w.heap.size, 3, none⟩ = some (.int .i64 x.op) ∧ W.cell? ⟨w.heap.size, 4, none⟩ = some (.int .i64 x.l.op) ∧ W.cell? ⟨w.heap.size, 5, none⟩ = some (.string x.l.t.x) ∧ W.cell? ⟨w.heap.size, 6, none⟩ = some (.int .i64 x.l.t.v.k) ∧ W.cell? ⟨w.heap.size, 7, none⟩ = some (.int .i64 x.l.t.v.n) ∧ W.cell? ⟨w.heap.size, 8, none⟩ = some (.string x.l.t.v.s) ∧ W.cell? ⟨w.heap.size, 9, none⟩ = some (.slice P pn pc) ∧ W.cell? ⟨w.heap.size, 10, none⟩ = some (.int .i64 x.r.op) ∧ W.cell? ⟨w.heap.size, 11, none⟩ = some (.string x.r.t.x) ∧ W.cell? ⟨w.heap.size, 12, none⟩ = some (.int .i64 x.r.t.v.k) ∧ W.cell? ⟨w.heap.size, 13, none⟩ = some (.int .i64 x.r.t.v.n) ∧ W.cell? ⟨w.heap.size, 14, none⟩ = some (.string x.r.t.v.s) ∧ W.cell? ⟨w.heap.size, 15, none⟩ = some (.slice Q qn qc) ∧ W.cell? ⟨w.heap.size, 16, none⟩ = some (.int .i64 x.pos)) := fun W h => (HF.out _ (below_next HB5.out h)).facts
      have hq1 := Below.refl W5.heap.size W5
      obtain ⟨f0, f1, f2, f3, f4, f5, f6, f7, f8, f9, f10, f11, f12, f13, f14, f15, f16⟩ := Hk.out _ hq1
      obtain ⟨HT1, HT2⟩ := HQ.out rfl
      have HSf : Hid (∀ m W, Below w.heap.size w W → EnvIs W m (getT l) → Calls Tryz.prog 53 #[litV x A n c P pn pc Q qn qc, m] W (fun e w' => (∃ g lv, e = .returned (.tuple #[.map (some g), .bool true, .nilIface]) ∧ MapIs w' g (gvs lv) ∧ (lv.map Prod.fst).Nodup ∧ ∀ s, kvGet lv s = updO (getT l) qo s) ∧ Below W.heap.size W w')) := fun m W hb hm => (HSo2.out m W hb hm).mono fun e w' ⟨h1, h2⟩ => by
        rcases h2 with ⟨_, _, h⟩ | ⟨h, _⟩
        · exact ⟨h, h1⟩
        · cases h
      have HTs : Hid (∀ m W, Below w.heap.size w W → EnvIs W m (updO (getT l) qo) → Calls Tryz.prog 52 #[litV x A n c P pn pc Q qn qc, m] W (RetBE (true, 0) (errV 90) W)) := fun m W hb hm => by rw [← HT1]; exact HTe.out m _ W hb hm
      have HRf := Lib.hid HT2
      unfold RetBE at HTs
      clear HSo2 HQ HTe HT1 HT2
      dsimp only at HTs
      have ev : errV 90 0 = .nilIface := rfl
      simp only [ev] at HTs
      clear ev
      go_region_held3 (fun W => W.cell? ⟨w.heap.size, 0, none⟩ = some (.int .i64 x.k) ∧ W.cell? ⟨w.heap.size, 1, none⟩ = some (.string x.atom.rel) ∧ W.cell? ⟨w.heap.size, 2, none⟩ = some (.slice A n c) ∧ W.cell? ⟨w.heap.size, 3, none⟩ = some (.int .i64 x.op) ∧ W.cell? ⟨w.heap.size, 4, none⟩ = some (.int .i64 x.l.op) ∧ W.cell? ⟨w.heap.size, 5, none⟩ = some (.string x.l.t.x) ∧ W.cell? ⟨w.heap.size, 6, none⟩ = some (.int .i64 x.l.t.v.k) ∧ W.cell? ⟨w.heap.size, 7, none⟩ = some (.int .i64 x.l.t.v.n) ∧ W.cell? ⟨w.heap.size, 8, none⟩ = some (.string x.l.t.v.s) ∧ W.cell? ⟨w.heap.size, 9, none⟩ = some (.slice P pn pc) ∧ W.cell? ⟨w.heap.size, 10, none⟩ = some (.int .i64 x.r.op) ∧ W.cell? ⟨w.heap.size, 11, none⟩ = some (.string x.r.t.x) ∧ W.cell? ⟨w.heap.size, 12, none⟩ = some (.int .i64 x.r.t.v.k) ∧ W.cell? ⟨w.heap.size, 13, none⟩ = some (.int .i64 x.r.t.v.n) ∧ W.cell? ⟨w.heap.size, 14, none⟩ = some (.string x.r.t.v.s) ∧ W.cell? ⟨w.heap.size, 15, none⟩ = some (.slice Q qn qc) ∧ W.cell? ⟨w.heap.size, 16, none⟩ = some (.int .i64 x.pos))
        (first
          | (refine Hk.out _ ?_; (repeat (first | with_reducible exact Below.refl _ _ | with_reducible assumption | with_reducible refine Below.drew ?_)); done)
          | go_keep)
        ((first
          | (go_at_call 40
             refine (env_any B bn bc l W5.drew (HW5.out.keep ((Below.refl _ _).drew))).mono ?_
             rintro e6 w6 ⟨g, rfl, hg, hgs, hb6⟩
             have hq2 : Below W5.heap.size W5 w6 := ((Below.refl W5.heap.size W5).drew).trans hb6
             clear hb6)
          | (go_at_call 53
             refine (HSf.out (.map (some g)) w6 (below_next HB5w.out hq2) ⟨_, .inr ⟨g, rfl, hg⟩, envOf_keys _, fun s => envOf_get _ s⟩).mono ?_
             rintro e7 w7 ⟨⟨gm, lv, rfl, hml, hnd, hgl⟩, hb7⟩
             have hq3 : Below W5.heap.size W5 w7 := hq2.trans (hb7.mono hq2.size)
             clear hb7)))
      · as_aux_lemma =>
        generalize (.agg #[.int .i64 x.k, .string x.atom.rel, .slice A n c, .int .i64 x.op, .int .i64 x.l.op, .string x.l.t.x, .int .i64 x.l.t.v.k, .int .i64 x.l.t.v.n, .string x.l.t.v.s, .slice P pn pc, .int .i64 x.r.op, .string x.r.t.x, .int .i64 x.r.t.v.k, .int .i64 x.r.t.v.n, .string x.r.t.v.s, .slice Q qn qc, .int .i64 x.pos] : Value) = LV1
        have HB7 := Lib.hid hq3
        have HNd := Lib.hid hnd
        have HGl := Lib.hid hgl
        have Hml := Lib.hid hml
        obtain ⟨clock, hr, hit⟩ := hml.range (P := Tryz.prog) Tryz.underlying97
        have hitlt := hit.lt
        clear hq1 hq2 hq3 hg hgs f0 f1 f2 f3 f4 f5 f6 f7 f8 f9 f10 f11 f12 f13 f14 f15 f16 HSf hnd hgl Hk
        go_wp2_with fail
        have hb8 := belowA HB7.out (.mapIter (some gm) clock #[] clock)
        generalize w7.alloc (.mapIter (some gm) clock #[] clock) = w8 at hit hb8 hitlt ⊢
        generalize hitn : w7.heap.size = it at hit hitlt ⊢
        have hig : gm < it := by have := hml.lt; omega
        have hwi : W5.heap.size ≤ it := by have := HB7.out.size; omega
        clear hr hml hitn
        go_loopg [11, 54, 55, 56, 57, 58, 59, 60] (gvs lv).length (fun gk _ _ _ _ _ _ _ _ wr => ∃ done, gk + done.length = (gvs lv).length ∧ IterIs wr it gm (gvs lv) done ∧ Below W5.heap.size W5 wr ∧ MapIs wr gm (gvs lv) ∧ it < wr.heap.size)
        case atStart => exact ⟨[], by simp, hit, hb8, hit.map, hitlt⟩
        case round =>
          obtain ⟨done, hcnt, hi, hbw, hmw, hlt2⟩ := hrel
          have Hcnt := Lib.hid hcnt
          have HB9 := Lib.hid (below_next HB5w.out hbw)
          clear hcnt hit hb8
          rcases hi.next (P := Tryz.prog) (by omega) 0 with ⟨_, hnx⟩ | ⟨p, w9, hp, hpd, hnx, hi2, hgr, hsz⟩
          · as_aux_lemma =>
            have HE := Lib.hid (show EnvIs wr (.map (some gm)) (updO (getT l) qo) from ⟨lv, .inr ⟨gm, rfl, hmw⟩, HNd.out, HGl.out⟩)
            obtain ⟨f0, f1, f2, f3, f4, f5, f6, f7, f8, f9, f10, f11, f12, f13, f14, f15, f16⟩ := (HF.out _ (below_next HB5.out hbw)).facts
            clear hi hmw
            go_wp2_with fail
            refine (HTs.out _ _ HB9.out HE.out).mono ?_
            rintro e10 w10 ⟨rfl, hb10⟩
            have HB10 := Lib.hid (below_next HB9.out hb10)
            clear f0 f1 f2 f3 f4 f5 f6 f7 f8 f9 f10 f11 f12 f13 f14 f15 f16 hb10
            go_wp2_with fail
            go_ret
            exact ⟨rfl, HB10.out⟩
          · as_aux_lemma =>
            obtain ⟨v, hpv, hmem⟩ := gvs_mem hp
            have hen := hi2.entry (P := Tryz.prog)
            have hrv : rightB v = true := HRf.out p.1 v ((HGl.out p.1).symm.trans (kvGet_mem HNd.out hmem))
            have hp2 : p.2 = v.v := by rw [hpv]
            rw [hp2] at hnx hen
            have Hi2 := Lib.hid hi2
            have hb9 := hbw.grown hgr (Nat.le_trans hwi (Nat.le_of_lt hlt2)) (by rintro _ ⟨rfl⟩; exact hwi)
            have HRV := Lib.hid (right_any v)
            rw [hrv] at HRV
            clear hpv hp2 hi hi2 hmw
            go_wp2_with fail
            refine (HRV.out _).mono ?_
            rintro e10 w10 ⟨rfl, hb10⟩
            have HB10 := Lib.hid (below_next (belowA hb9 (.cells #[.int .i64 v.k, .int .i64 v.n, .string v.s] 31)) hb10)
            go_wp2_with fail
            have hlen2 := Hi2.out.len
            have hc := Hcnt.out
            simp only [List.length_append, List.length_cons, List.length_nil] at hlen2
            have hz2 : it < w9.heap.size := Hi2.out.lt
            have hI3 := Hi2.out.below (belowA (Below.refl w9.heap.size w9) (.cells #[.int .i64 v.k, .int .i64 v.n, .string v.s] 31)) hz2 Hi2.out.map.lt
            have hI4 := hI3.below hb10 (by simp; omega) (by simp; have := Hi2.out.map.lt; omega)
            have hz10 := hb10.size
            simp only [World.size_alloc] at hz10
            go_roundg (gk - 1)
            case measure => omega
            case rel =>
              exact ⟨done ++ [p], by simp only [List.length_append, List.length_cons, List.length_nil]; omega, hI4, HB10.out, hI4.map, by omega⟩

end Go.Proofs.YtplekbpmfaghbaaGreatDoor
