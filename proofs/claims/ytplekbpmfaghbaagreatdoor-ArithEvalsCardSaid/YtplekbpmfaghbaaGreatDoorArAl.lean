/- alive of layer 13: the fixed rule, read, and what its left side comes to. -/
import Derived.Test.YtplekbpmfaghbaaGreatDoorMp11
import Derived.Test.YtplekbpmfaghbaaGreatDoorArS
namespace Go.Proofs.YtplekbpmfaghbaaGreatDoor
open Go.RowKit

def al13 : ByteArray := ⟨#[112, 40, 41, 32, 58, 45, 32, 88, 32, 43, 32, 50, 32, 42, 32, 51, 32, 61, 32, 89, 46]⟩
def al13L : List UInt8 := [112, 40, 41, 32, 58, 45, 32, 88, 32, 43, 32, 50, 32, 42, 32, 51, 32, 61, 32, 89, 46]
def al13E : GExp := .mk 1 zT [.mk 0 ⟨⟨#[88]⟩, gv0⟩ [], .mk 3 zT [.mk 0 ⟨⟨#[]⟩, ⟨1, 2, ⟨#[]⟩⟩⟩ [], .mk 0 ⟨⟨#[]⟩, ⟨1, 3, ⟨#[]⟩⟩⟩ []]]
set_option maxRecDepth 100000 in
theorem al13_read : ((readP al13L).2.2, (readP al13L).1.body.map (fun x => x.l)) = (0, [al13E]) := by kernel_rfl
theorem al13_list : al13.toList = al13L := toList_mk _
def al13F : ByteArray → Option GV := fun s => kvGet [((⟨#[88]⟩ : ByteArray), (⟨1, 1, ⟨#[]⟩⟩ : GV))] s
set_option maxRecDepth 100000 in
theorem al13_eval : evalT al13F al13E = (⟨1, 7, ⟨#[]⟩⟩, 0) := by kernel_rfl
def Al13Post (w : World) (e : Ending) (w' : World) : Prop := Below w.heap.size w w' ∧ ∃ (rel : ByteArray) (A1 : Option Addr) (k1 c1 b o c2 : Nat) (ag co pos : Int) (at_ : Nat) (d : Nat) (P : Option Addr) (pn pc : Nat),
  e = .returned (.tuple #[.agg #[.string rel, .slice A1 k1 c1, .int .i64 ag, .int .i64 co, .slice (some ⟨b, o, none⟩) 1 c2, .int .i64 pos], .int .i64 at_, .nilIface]) ∧ b < w'.heap.size ∧
  w'.cell? ⟨b, o + 4, none⟩ = some (.int .i64 1) ∧ w'.cell? ⟨b, o + 5, none⟩ = some (.string ⟨#[]⟩) ∧ w'.cell? ⟨b, o + 6, none⟩ = some (.int .i64 0) ∧ w'.cell? ⟨b, o + 7, none⟩ = some (.int .i64 0) ∧ w'.cell? ⟨b, o + 8, none⟩ = some (.string ⟨#[]⟩) ∧ w'.cell? ⟨b, o + 9, none⟩ = some (.slice P pn pc) ∧
  SliceIs (Enc.exp d) w' w'.heap.size P pn pc al13E.kids
set_option maxRecDepth 100000 in
theorem al13_calls (w : World) (hW : ParW w) : Calls Tryz.prog 86 #[.string al13] w (Al13Post w) := by
  refine (readRule_any al13 (by decide) w hW).mono ?_
  rintro e w1 ⟨hb, d, ⟨A1, k1, c1⟩, ⟨A2, k2, c2⟩, rfl, ha⟩
  have hr := al13_read
  rw [← al13_list] at hr
  generalize readP al13.toList = y at *
  obtain ⟨y, at_, er⟩ := y
  simp only [Prod.mk.injEq] at hr
  obtain ⟨rfl, hbo⟩ := hr
  have hbd : SliceIs (Enc.lit d) w1 w1.heap.size A2 k2 c2 y.body := SliceIs.mono' ha.body (Nat.le_refl _) (kept_up _ _ _)
  have hl : y.body.length = 1 := by have := congrArg List.length hbo; simpa using this
  obtain rfl : k2 = 1 := hbd.1.symm.trans hl
  obtain ⟨b, o, x, a, p, q, rfl, hlt, hx, hla, e0, e1, e2, e3, e4, e5, e6, e7, e8, e9, -⟩ := hbd.lit_at (i := 0) (by omega)
  have hxl : x.l = al13E := by
    have h := congrArg (fun l => l[0]?) hbo
    simp only [List.getElem?_map, hx.out] at h
    exact Option.some.inj h
  simp only [Nat.zero_mul, Nat.add_zero] at e4 e5 e6 e7 e8 e9
  have hlk := hla.lk
  rw [hxl] at e4 e5 e6 e7 e8 hlk
  exact ⟨hb, y.head.rel, A1, k1, c1, b, o, c2, y.agg, y.col, y.pos, at_, d, p.A, p.n, p.c, rfl, hlt, e4, e5, e6, e7, e8, e9, hlk⟩
set_option maxRecDepth 100000 in
set_option maxHeartbeats 4000000 in
theorem alive13_any (w : World) (hW : ParW w) : Calls Tryz.prog 37 #[] w (RetBool true w) := by
  have HC := Lib.hid (al13_calls w hW)
  unfold al13 at HC
  have HL := Lib.hid hW.lex
  have hmm := @run_makeMap Tryz.prog
  have rn := run_eql_value ⟨1, 7, ⟨#[]⟩⟩ ⟨1, 7, ⟨#[]⟩⟩
  rw [GV.beq_self] at rn
  clear hW
  go_enter Tryz.func37, Tryz.ntmps37
  go_wp2_with fail
  refine HC.out.mono ?_
  rintro e w1 ⟨hb, rel, A1, k1, c1, b, o, c2, ag, co, pos, at_, d, P, pn, pc, rfl, hlt, h4, h5, h6, h7, h8, h9, hk⟩
  have hbA := belowA (Below.refl w1.heap.size w1) (.cells #[.string rel, .slice A1 k1 c1, .int .i64 ag, .int .i64 co, .slice (some ⟨b, o, none⟩) 1 c2, .int .i64 pos] 27)
  obtain ⟨w2, hup, hm2, hgr, hsz⟩ := (MapIs.made (w := w1.alloc (.cells #[.string rel, .slice A1 k1 c1, .int .i64 ag, .int .i64 co, .slice (some ⟨b, o, none⟩) 1 c2, .int .i64 pos] 27))).update (P := Tryz.prog) (t := 97) (e := 31) Tryz.underlying97 Tryz.underlying9 ⟨#[88]⟩ (GV.v ⟨1, 1, ⟨#[]⟩⟩)
  have hb2 : Below w1.heap.size w1 w2 := (belowA hbA (.map #[] 0)).grown hgr (by simp; omega) (by rintro _ ⟨rfl⟩; simp)
  have HE := evalTop_any al13E P pn pc d (.map (some (w1.alloc (.cells #[.string rel, .slice A1 k1 c1, .int .i64 ag, .int .i64 co, .slice (some ⟨b, o, none⟩) 1 c2, .int .i64 pos] 27)).heap.size)) al13F w2 (hk.keep hb2) (Nat.zero_le _) ⟨[((⟨#[88]⟩ : ByteArray), (⟨1, 1, ⟨#[]⟩⟩ : GV))], .inr ⟨_, rfl, hm2⟩, by simp, fun _ => rfl⟩ ((HL.out.on hb).on hb2)
  unfold TermErr at HE
  rw [al13_eval] at HE
  simp only [World.size_alloc] at HE
  have HEv : Hid (Calls Tryz.prog 39 #[.agg #[.int .i64 1, .string ⟨#[]⟩, .int .i64 0, .int .i64 0, .string ⟨#[]⟩, .slice P pn pc], .map (some (w1.heap.size + 1))] w2 (fun e w' => e = .returned (.tuple #[.agg #[.int .i64 1, .int .i64 7, .string ⟨#[]⟩], .nilIface]) ∧ Below w2.heap.size w2 w')) := HE
  have HB := Lib.hid (hb.trans (hb2.mono hb.size))
  obtain ⟨g4, g5, g6, g7, g8, g9⟩ : w2.cell? ⟨b, o + 4, none⟩ = some (.int .i64 1) ∧ w2.cell? ⟨b, o + 5, none⟩ = some (.string ⟨#[]⟩) ∧ w2.cell? ⟨b, o + 6, none⟩ = some (.int .i64 0) ∧ w2.cell? ⟨b, o + 7, none⟩ = some (.int .i64 0) ∧ w2.cell? ⟨b, o + 8, none⟩ = some (.string ⟨#[]⟩) ∧ w2.cell? ⟨b, o + 9, none⟩ = some (.slice P pn pc) :=
    ⟨below_cell hb2 h4, below_cell hb2 h5, below_cell hb2 h6, below_cell hb2 h7, below_cell hb2 h8, below_cell hb2 h9⟩
  clear hb hm2 hgr hb2 HE hk HC hbA
  simp only [World.size_alloc] at hup
  go_wp2_with fail
  refine HEv.out.mono ?_
  rintro e w3 ⟨rfl, hb3⟩
  have HB3 := Lib.hid (below_next HB.out hb3)
  clear hb3
  go_wp2_with fail
  go_ret
  exact ⟨rfl, belowA HB3.out _⟩
end Go.Proofs.YtplekbpmfaghbaaGreatDoor
