/- Merged by my own program of: ArAl, ArLong, ArRl, ArOpen. -/
import Derived.Test.YtplekbpmfaghbaaGreatDoorMp11
import Derived.Test.YtplekbpmfaghbaaGreatDoorMo5
import Derived.Test.YtplekbpmfaghbaaGreatDoorProg
import Derived.Test.YtplekbpmfaghbaaGreatDoorMa1
import Derived.Test.YtplekbpmfaghbaaGreatDoorMa5
/- alive of layer 13: the fixed rule, read, and what its left side comes to. -/
namespace Go.Proofs.YtplekbpmfaghbaaGreatDoor
open Go.RowKit

def al13 : ByteArray := ⟨#[112, 40, 41, 32, 58, 45, 32, 88, 32, 43, 32, 50, 32, 42, 32, 51, 32, 61, 32, 89, 46]⟩
def al13L : List UInt8 := [112, 40, 41, 32, 58, 45, 32, 88, 32, 43, 32, 50, 32, 42, 32, 51, 32, 61, 32, 89, 46]
def al13E : GExp := .mk 1 zT [.mk 0 ⟨⟨#[88]⟩, gv0⟩ [], .mk 3 zT [.mk 0 ⟨⟨#[]⟩, ⟨1, 2, ⟨#[]⟩⟩⟩ [], .mk 0 ⟨⟨#[]⟩, ⟨1, 3, ⟨#[]⟩⟩⟩ []]]
set_option maxRecDepth 100000 in
theorem al13_read : ((readP al13L).2.2, (readP al13L).1.body.map (fun x => x.l)) = (0, [al13E]) := by kernel_rfl
theorem al13_list : al13.toList = al13L := toList_mk _
def al13F : ByteArray → Option GV := fun s => kvGet [((⟨#[88]⟩ : ByteArray), (⟨1, 1, ⟨#[]⟩⟩ : GV))] s
set_option maxRecDepth 100000 in
theorem al13_eval : evalT al13F al13E = (⟨1, 7, ⟨#[]⟩⟩, 0) := by kernel_rfl
def Al13Post (w : World) (e : Ending) (w' : World) : Prop := Below w.heap.size w w' ∧ ∃ (rel : ByteArray) (A1 : Option Addr) (k1 c1 b o c2 : Nat) (ag co pos : Int) (at_ : Nat) (d : Nat) (P : Option Addr) (pn pc : Nat),
  e = .returned (.tuple #[.agg #[.string rel, .slice A1 k1 c1, .int .i64 ag, .int .i64 co, .slice (some ⟨b, o, none⟩) 1 c2, .int .i64 pos], .int .i64 at_, .nilIface]) ∧ b < w'.heap.size ∧
  w'.cell? ⟨b, o + 4, none⟩ = some (.int .i64 1) ∧ w'.cell? ⟨b, o + 5, none⟩ = some (.string ⟨#[]⟩) ∧ w'.cell? ⟨b, o + 6, none⟩ = some (.int .i64 0) ∧ w'.cell? ⟨b, o + 7, none⟩ = some (.int .i64 0) ∧ w'.cell? ⟨b, o + 8, none⟩ = some (.string ⟨#[]⟩) ∧ w'.cell? ⟨b, o + 9, none⟩ = some (.slice P pn pc) ∧
  SliceIs (Enc.exp d) w' w'.heap.size P pn pc al13E.kids
set_option maxRecDepth 100000 in
theorem al13_calls (w : World) (hW : ParW w) : Calls Tryz.prog 86 #[.string al13] w (Al13Post w) := by
  refine (readRule_any al13 (by decide) w hW).mono ?_
  rintro e w1 ⟨hb, d, ⟨A1, k1, c1⟩, ⟨A2, k2, c2⟩, rfl, ha⟩
  have hr := al13_read
  rw [← al13_list] at hr
  generalize readP al13.toList = y at *
  obtain ⟨y, at_, er⟩ := y
  simp only [Prod.mk.injEq] at hr
  obtain ⟨rfl, hbo⟩ := hr
  have hbd : SliceIs (Enc.lit d) w1 w1.heap.size A2 k2 c2 y.body := SliceIs.mono' ha.body (Nat.le_refl _) (kept_up _ _ _)
  have hl : y.body.length = 1 := by have := congrArg List.length hbo; simpa using this
  obtain rfl : k2 = 1 := hbd.1.symm.trans hl
  obtain ⟨b, o, x, a, p, q, rfl, hlt, hx, hla, e0, e1, e2, e3, e4, e5, e6, e7, e8, e9, -⟩ := hbd.lit_at (i := 0) (by omega)
  have hxl : x.l = al13E := by
    have h := congrArg (fun l => l[0]?) hbo
    simp only [List.getElem?_map, hx.out] at h
    exact Option.some.inj h
  simp only [Nat.zero_mul, Nat.add_zero] at e4 e5 e6 e7 e8 e9
  have hlk := hla.lk
  rw [hxl] at e4 e5 e6 e7 e8 hlk
  exact ⟨hb, y.head.rel, A1, k1, c1, b, o, c2, y.agg, y.col, y.pos, at_, d, p.A, p.n, p.c, rfl, hlt, e4, e5, e6, e7, e8, e9, hlk⟩
set_option maxRecDepth 100000 in
set_option maxHeartbeats 4000000 in
theorem alive13_any (w : World) (hW : ParW w) : Calls Tryz.prog 37 #[] w (RetBool true w) := by
  have HC := Lib.hid (al13_calls w hW)
  unfold al13 at HC
  have HL := Lib.hid hW.lex
  have hmm := @run_makeMap Tryz.prog
  have rn := run_eql_value ⟨1, 7, ⟨#[]⟩⟩ ⟨1, 7, ⟨#[]⟩⟩
  rw [GV.beq_self] at rn
  clear hW
  go_enter Tryz.func37, Tryz.ntmps37
  go_wp2_with fail
  refine HC.out.mono ?_
  rintro e w1 ⟨hb, rel, A1, k1, c1, b, o, c2, ag, co, pos, at_, d, P, pn, pc, rfl, hlt, h4, h5, h6, h7, h8, h9, hk⟩
  have hbA := belowA (Below.refl w1.heap.size w1) (.cells #[.string rel, .slice A1 k1 c1, .int .i64 ag, .int .i64 co, .slice (some ⟨b, o, none⟩) 1 c2, .int .i64 pos] 27)
  obtain ⟨w2, hup, hm2, hgr, hsz⟩ := (MapIs.made (w := w1.alloc (.cells #[.string rel, .slice A1 k1 c1, .int .i64 ag, .int .i64 co, .slice (some ⟨b, o, none⟩) 1 c2, .int .i64 pos] 27))).update (P := Tryz.prog) (t := 97) (e := 31) Tryz.underlying97 Tryz.underlying9 ⟨#[88]⟩ (GV.v ⟨1, 1, ⟨#[]⟩⟩)
  have hb2 : Below w1.heap.size w1 w2 := (belowA hbA (.map #[] 0)).grown hgr (by simp; omega) (by rintro _ ⟨rfl⟩; simp)
  have HE := evalTop_any al13E P pn pc d (.map (some (w1.alloc (.cells #[.string rel, .slice A1 k1 c1, .int .i64 ag, .int .i64 co, .slice (some ⟨b, o, none⟩) 1 c2, .int .i64 pos] 27)).heap.size)) al13F w2 (hk.keep hb2) (Nat.zero_le _) ⟨[((⟨#[88]⟩ : ByteArray), (⟨1, 1, ⟨#[]⟩⟩ : GV))], .inr ⟨_, rfl, hm2⟩, by simp, fun _ => rfl⟩ ((HL.out.on hb).on hb2)
  unfold TermErr at HE
  rw [al13_eval] at HE
  simp only [World.size_alloc] at HE
  have HEv : Hid (Calls Tryz.prog 39 #[.agg #[.int .i64 1, .string ⟨#[]⟩, .int .i64 0, .int .i64 0, .string ⟨#[]⟩, .slice P pn pc], .map (some (w1.heap.size + 1))] w2 (fun e w' => e = .returned (.tuple #[.agg #[.int .i64 1, .int .i64 7, .string ⟨#[]⟩], .nilIface]) ∧ Below w2.heap.size w2 w')) := HE
  have HB := Lib.hid (hb.trans (hb2.mono hb.size))
  obtain ⟨g4, g5, g6, g7, g8, g9⟩ : w2.cell? ⟨b, o + 4, none⟩ = some (.int .i64 1) ∧ w2.cell? ⟨b, o + 5, none⟩ = some (.string ⟨#[]⟩) ∧ w2.cell? ⟨b, o + 6, none⟩ = some (.int .i64 0) ∧ w2.cell? ⟨b, o + 7, none⟩ = some (.int .i64 0) ∧ w2.cell? ⟨b, o + 8, none⟩ = some (.string ⟨#[]⟩) ∧ w2.cell? ⟨b, o + 9, none⟩ = some (.slice P pn pc) :=
    ⟨below_cell hb2 h4, below_cell hb2 h5, below_cell hb2 h6, below_cell hb2 h7, below_cell hb2 h8, below_cell hb2 h9⟩
  clear hb hm2 hgr hb2 HE hk HC hbA
  simp only [World.size_alloc] at hup
  go_wp2_with fail
  refine HEv.out.mono ?_
  rintro e w3 ⟨rfl, hb3⟩
  have HB3 := Lib.hid (below_next HB.out hb3)
  clear hb3
  go_wp2_with fail
  go_ret
  exact ⟨rfl, belowA HB3.out _⟩
end Go.Proofs.YtplekbpmfaghbaaGreatDoor

/- How long texts, tuples and environments are: the statements' own bounds on what is looked at. -/
namespace Go.Proofs.YtplekbpmfaghbaaGreatDoor
open Go.RowKit

def BoolPost (b : Bool → Prop) (w : World) (e : Ending) (w' : World) : Prop := ∃ r, e = .returned (.bool r) ∧ b r ∧ Below w.heap.size w w'
theorem BoolPost.mk {b : Bool → Prop} {w w' : World} (r : Bool) (hb : b r) (hw : Below w.heap.size w w') : BoolPost b w (.returned (.bool r)) w' := ⟨r, rfl, hb, hw⟩

set_option maxRecDepth 100000 in
set_option maxHeartbeats 400000 in
theorem long13_any (A : Option Addr) (n c : Nat) (l : List GTold) (w : World) (hl : SliceIs Enc.told w w.heap.size A n c l) :
    Calls Tryz.prog 38 #[.slice A n c] w (BoolPost (fun r => r = false → n ≤ 31) w) := by
  have hn := hl.bound
  go_enter Tryz.func38, Tryz.ntmps38
  go_wp2
  go_loopw [3, 4, 5, 8] (fun t _ _ i wr => ∃ k m : Nat, k ≤ n ∧ i = .int .i64 k ∧ t = .int .i64 m ∧ m ≤ 1500 ∧ k ≤ 31 ∧ Below w.heap.size w wr) (fun _ _ _ i _ => n - (intOf i).toNat)
  case atStart => exact ⟨0, 0, by omega, rfl, rfl, by omega, by omega, Below.refl _ _⟩
  case round =>
    obtain ⟨k, m, hk, rfl, rfl, hm, hk31, hbw⟩ := hrel
    by_cases hlt : k < n
    · obtain ⟨b, o, s, rfl, hb, hx, hc, hc1, hc2, hc3, hs, ⟨_, _, hs2⟩⟩ := (hl.below hbw).told_at hlt
      have hs2 := reachN_le hs2
      clear hl
      by_cases h1 : 30 < k
      · go_wp2
        go_ret
        exact BoolPost.mk _ (by simp) (hbw.alloc hbw.size _)
      · by_cases h2 : 1500 < m + (s.x.size + s.v.s.size)
        · go_wp2
          go_ret
          exact BoolPost.mk _ (by simp) (hbw.alloc hbw.size _)
        · go_wp2
          go_roundw
          case rel => exact ⟨k + 1, m + (s.x.size + s.v.s.size), by omega, by go_num, by go_num, by omega, by omega, (hbw.alloc hbw.size _)⟩
          case measure => simp [intOf]; omega
    · go_wp2
      go_ret
      exact BoolPost.mk _ (fun _ => by omega) hbw
end Go.Proofs.YtplekbpmfaghbaaGreatDoor

/- A literal alone as a rule's body: how it lies. -/
namespace Go.Proofs.YtplekbpmfaghbaaGreatDoor
open Go.RowKit

theorem fitsZ : fits 0 := by unfold fits; decide
/-- a rule whose body is one literal -/
def ruleL (l : GLit) : GRule := ⟨⟨⟨#[]⟩, []⟩, 0, 0, [l], 0⟩
theorem one_lit {d : Nat} {W : World} {b : Nat} {T : TypeId} {x : GLit} {a p q : Hd} (hrow : W.heap[b]? = some (.cells (litC x a p q).toArray T (0, 0))) (hx : LitAt d W W.heap.size x a p q) :
    SliceIs (Enc.lit d) W W.heap.size (some ⟨b, 0, none⟩) 1 1 [x] := by
  refine ⟨rfl, by omega, by simp [maxLen], by simp [reachN], .inr ⟨b, 0, rfl, (Array.getElem?_eq_some_iff.1 hrow).1, fun i e hi => ?_⟩⟩
  match i, hi with
  | 0, hi =>
    simp at hi; subst hi
    refine ⟨litC x a p q, ⟨a, p, q, rfl, hx⟩, fun j v hj => ?_⟩
    show W.cell? ⟨b, 0 + 0 * 17 + j, none⟩ = some v
    rw [cell_of_row _ _ _ _ _ _ hrow]
    simp only [Nat.zero_mul, Nat.zero_add, List.getElem?_toArray]
    exact hj
  | i + 1, hi => simp at hi
theorem ruleL_at {d : Nat} {W : World} {b : Nat} {T : TypeId} {x : GLit} {a p q : Hd} (hrow : W.heap[b]? = some (.cells (litC x a p q).toArray T (0, 0))) (hx : LitAt d W W.heap.size x a p q) : RuleAt d W W.heap.size (ruleL x) ⟨none, 0, 0⟩ ⟨some ⟨b, 0, none⟩, 1, 1⟩ :=
  ⟨Nat.zero_le _, SliceIs.nil, fitsZ, fitsZ, one_lit hrow hx, fitsZ⟩
end Go.Proofs.YtplekbpmfaghbaaGreatDoor

/- How two values, a term, an expression, a literal, a list of what is told, as arguments, are read. -/
namespace Go.Proofs.YtplekbpmfaghbaaGreatDoor
open Go.ChangeShapes Go.WideShapes Go.ChangeAt Go.RowKit

theorem u_twoV : Tryz.prog.underlying 113 = some (.array 2 31) := by kernel_rfl
theorem u_termT : ∃ fs, Tryz.prog.underlying 33 = some (.struct fs) := ⟨_, Tryz.underlying33⟩
theorem u_litL : ∃ fs, Tryz.prog.underlying 38 = some (.struct fs) := ⟨_, Tryz.underlying38⟩
theorem o_told : Opens Tryz.prog 119 Enc.told := opens_told (a := 9) (b := 31) (by kernel_rfl) (by kernel_rfl) Tryz.underlying9 o_val2
theorem o_tolds : Opens Tryz.prog 92 (Enc.slice Enc.told) := opens_slice Tryz.underlying92 o_told (by kernel_rfl) (by show 0 < _; decide) (of_decide_eq_true (by kernel_rfl))
theorem o_int13 : Opens Tryz.prog 3 Enc.int := opens_int Tryz.underlying3
theorem o_ints : Opens Tryz.prog 103 (Enc.slice Enc.int) := opens_slice Tryz.underlying103 o_int13 (by kernel_rfl) (by show 0 < _; decide) (of_decide_eq_true (by kernel_rfl))
/-- two values as an argument -/
theorem open_twoV {H : Type} {enc : TypeId × Value → H} {P : Program} {w : World} {t e : TypeId} {v : Value} {d : DataW H} {p : List MemPlace} {r : Reach} {b0 : Nat} (ht : P.underlying t = some (.array 2 e)) (hz : P.cellsOf t = 6) (hze : P.cellsOf e = 3) (ho : Opens P e Enc.val)
    (hval : Value.okWide P w r b0 t v) (h : DataW.Trod enc P w 0 (fun _ => true) true t v d p) (hwt : ∀ n ∈ d.weights P t, n ≤ reachBytes) :
    ∃ x y : GV, v = .agg #[.int .i64 x.k, .int .i64 x.n, .string x.s, .int .i64 y.k, .int .i64 y.n, .string y.s] ∧ x.ok ∧ y.ok := by
  obtain ⟨cs, rfl, hsz, _⟩ : ∃ cs, v = .agg cs ∧ cs.size = P.cellsOf t ∧ Row.okWide P w r b0 t cs := by
    simpa [Value.okWide, ht] using hval
  obtain ⟨fuel, hx⟩ := h
  obtain ⟨xs, m, hfu, hd, hl, hxl, hel⟩ := DataW.trod_array ht hx
  injection hd with hd _
  have h0 := hel 0 (by omega)
  have h1 := hel 1 (by omega)
  rw [hze, List.getElem?_eq_getElem (by omega)] at h0
  rw [hze, List.getElem?_eq_getElem (by omega)] at h1
  have hw : ∀ i (hi : i < xs.length), ∀ n ∈ (xs[i]).1.weights P e, n ≤ reachBytes := fun i hi n hn => hwt n (by
    rw [hd]
    simp only [DataW.weights, ht]
    exact weights_all (List.mem_map.2 ⟨xs[i], List.getElem_mem _, rfl⟩) n hn)
  obtain ⟨a, ha1, ha2⟩ := ho H enc w m _ _ h0 (hw 0 (by omega))
  obtain ⟨b, hb1, hb2⟩ := ho H enc w m _ _ h1 (hw 1 (by omega))
  obtain ⟨cs⟩ := cs
  rw [hz] at hsz
  match cs, hsz with
  | [u0, u1, u2, u3, u4, u5], _ =>
    simp [Value.cells] at ha1 hb1
    obtain ⟨rfl, rfl, rfl⟩ := ha1
    obtain ⟨rfl, rfl, rfl⟩ := hb1
    exact ⟨a, b, rfl, ha2, hb2⟩
end Go.Proofs.YtplekbpmfaghbaaGreatDoor
