/- My own texts Pgm, TFrame, LexR1, as far as this claim needs them. -/
import Derived.Test.YtplekbpmfaghbaaGreatDoorZd1
import Derived.Test.YtplekbpmfaghbaaGreatDoorZd2
import Derived.Test.YtplekbpmfaghbaaGreatDoorZd3
import Derived.Test.YtplekbpmfaghbaaGreatDoorZd4
import Derived.Test.YtplekbpmfaghbaaGreatDoorZd5
import Derived.Test.YtplekbpmfaghbaaGreatDoorZd6
import Derived.Test.YtplekbpmfaghbaaGreatDoorZd7
import Derived.Test.YtplekbpmfaghbaaGreatDoorZd8
import Derived.Test.YtplekbpmfaghbaaGreatDoorZdb1
import Derived.Stop.LaidErr
import Derived.Lib.CutLaws
import Derived.Test.YtplekbpmfaghbaaGreatDoorProg
import Derived.WalkKit
import Derived.WalkSpells
import Derived.WalkLawsBesides
import Derived.MapKept
import Derived.BigQuiet
import Derived.Lib.Hide
import Derived.Deep.Draws
import Derived.Deep.QuietTactic
import Derived.Deep.RegionWith
import Derived.Deep.RegionHeld3
import Derived.RangeFuncBox
import Derived.RangeFuncNested
import Derived.RangeFuncLeaves
import Derived.OwnWalkIn
import Derived.TacticsInMore
import Derived.RegionIn
import Derived.LoopNIn
import Derived.LoopIn
import Derived.Shelf.Abstract
set_option linter.unusedVariables false
set_option linter.unusedSimpArgs false
namespace Go.Proofs.YtplekbpmfaghbaaGreatDoor
open Go.RowKit
section
variable {w : World} {B : Nat} {A : Option Addr} {n c d : Nat}
end
theorem opensB_slice' {α : Type} {N : Nat} {P : Program} {t e : TypeId} {E : Enc α} (h : P.underlying t = some (.slice e)) (he : OpensB N P e E) (hc : P.cellsOf e = E.sz) (hz : 0 < E.sz) (hb : 0 < P.bytesOf e) : OpensB N P t (Enc.slice E) :=
  (opensB_slice h he hc hz hb).down (Nat.le_succ _)
theorem opens_atomF {H : Type} {enc : TypeId × Value → H} {P : Program} {w : World} {t a b : TypeId} {fuel : Nat} {cs : List Value} {x : DataW H × List MemPlace} (hf : fieldsOf P t = [(a, 0, 1), (b, 1, 1)]) (hz : P.cellsOf t = 2) (ha : P.underlying a = some .string) (hb : Opens P b (Enc.slice Enc.told))
    (hx : DataW.trod enc P w 0 (fun _ => true) true fuel t cs = some x) (hwt : ∀ n ∈ x.1.weights P t, n ≤ reachBytes) : ∃ (y : GAtom) (h : Hd), cs = [.string y.rel, h.v] ∧ y.rel.size ≤ reachN ∧ SliceIs Enc.told w w.heap.size h.A h.n h.c y.args := by
  obtain ⟨hl, n, rfl, hat⟩ := open_fieldsB hf (by simp) hx hwt
  rw [hz] at hl
  match cs, hl with
  | [u0, u1], _ =>
    obtain ⟨y, h, hw⟩ := hat 0 _ rfl
    obtain ⟨s, e0, f0⟩ := opens_str ha _ _ _ _ _ _ h hw
    obtain ⟨y, h, hw⟩ := hat 1 _ rfl
    obtain ⟨ks, A, m, d, e1, f1⟩ := hb _ _ _ _ _ _ h hw
    simp at e0 e1
    subst e0 e1
    exact ⟨⟨s, ks⟩, ⟨A, m, d⟩, rfl, f0, f1⟩
theorem opens_lit {N d : Nat} {P : Program} {t k at_ o e s al : TypeId} (hf : fieldsOf P t = [(k, 0, 1), (at_, 1, 2), (o, 3, 1), (e, 4, 6), (e, 10, 6), (o, 16, 1)]) (hz : P.cellsOf t = 17) (hk : P.underlying k = some (.int .i64)) (ho : P.underlying o = some (.int .i64))
    (hfa : fieldsOf P at_ = [(s, 0, 1), (al, 1, 1)]) (hza : P.cellsOf at_ = 2) (hs : P.underlying s = some .string) (hal : Opens P al (Enc.slice Enc.told)) (he : OpensB N P e (Enc.exp (d + 1))) : OpensB N P t (Enc.lit d) := by
  intro H enc w fuel cs x hfu hx hwt
  obtain ⟨hl, n, rfl, hat⟩ := open_fieldsB hf (by simp) hx hwt
  rw [hz] at hl
  match cs, hl with
  | [u0, u1, u2, u3, u4, u5, u6, u7, u8, u9, u10, u11, u12, u13, u14, u15, u16], _ =>
    obtain ⟨y, h, hw⟩ := hat 0 _ rfl
    obtain ⟨i0, e0, f0⟩ := opens_int hk _ _ _ _ _ _ h hw
    obtain ⟨y, h, hw⟩ := hat 1 _ rfl
    obtain ⟨ga, ha, e1, f1, f2⟩ := opens_atomF hfa hza hs hal h hw
    obtain ⟨y, h, hw⟩ := hat 2 _ rfl
    obtain ⟨i3, e3, f3⟩ := opens_int ho _ _ _ _ _ _ h hw
    obtain ⟨y, h, hw⟩ := hat 3 _ rfl
    obtain ⟨x4, A4, m4, d4, e4, f4, g4, h4, k4⟩ := he _ _ _ _ _ _ (by omega) h hw
    obtain ⟨y, h, hw⟩ := hat 4 _ rfl
    obtain ⟨x5, A5, m5, d5, e5, f5, g5, h5, k5⟩ := he _ _ _ _ _ _ (by omega) h hw
    obtain ⟨y, h, hw⟩ := hat 5 _ rfl
    obtain ⟨i6, e6, f6⟩ := opens_int ho _ _ _ _ _ _ h hw
    simp at e0 e1 e3 e4 e5 e6
    obtain ⟨rfl, rfl⟩ := e1
    obtain ⟨rfl, rfl, rfl, rfl, rfl, rfl⟩ := e4
    obtain ⟨rfl, rfl, rfl, rfl, rfl, rfl⟩ := e5
    subst e0 e3 e6
    exact ⟨⟨i0, ga, i3, x4, x5, i6⟩, ha, ⟨A4, m4, d4⟩, ⟨A5, m5, d5⟩, rfl, ⟨f0, f3, f6, f1, f2, f4, g4, h4, k4, f5, g5, h5, k5⟩⟩
theorem opens_rule {N d : Nat} {P : Program} {t at_ o lt s al : TypeId} (hf : fieldsOf P t = [(at_, 0, 2), (o, 2, 1), (o, 3, 1), (lt, 4, 1), (o, 5, 1)]) (hz : P.cellsOf t = 6) (ho : P.underlying o = some (.int .i64))
    (hfa : fieldsOf P at_ = [(s, 0, 1), (al, 1, 1)]) (hza : P.cellsOf at_ = 2) (hs : P.underlying s = some .string) (hal : Opens P al (Enc.slice Enc.told)) (hl : OpensB N P lt (Enc.slice (Enc.lit d))) : OpensB N P t (Enc.rule d) := by
  intro H enc w fuel cs x hfu hx hwt
  obtain ⟨hlen, n, rfl, hat⟩ := open_fieldsB hf (by simp) hx hwt
  rw [hz] at hlen
  match cs, hlen with
  | [u0, u1, u2, u3, u4, u5], _ =>
    obtain ⟨y, h, hw⟩ := hat 0 _ rfl
    obtain ⟨ga, ha, e1, f1, f2⟩ := opens_atomF hfa hza hs hal h hw
    obtain ⟨y, h, hw⟩ := hat 1 _ rfl
    obtain ⟨i2, e2, f3⟩ := opens_int ho _ _ _ _ _ _ h hw
    obtain ⟨y, h, hw⟩ := hat 2 _ rfl
    obtain ⟨i3, e3, f4⟩ := opens_int ho _ _ _ _ _ _ h hw
    obtain ⟨y, h, hw⟩ := hat 3 _ rfl
    obtain ⟨ls, A, m, c, e4, f5⟩ := hl _ _ _ _ _ _ (by omega) h hw
    obtain ⟨y, h, hw⟩ := hat 4 _ rfl
    obtain ⟨i5, e5, f6⟩ := opens_int ho _ _ _ _ _ _ h hw
    simp at e1 e2 e3 e4 e5
    obtain ⟨rfl, rfl⟩ := e1
    subst e2 e3 e4 e5
    exact ⟨⟨ga, i2, i3, ls, i5⟩, ha, ⟨A, m, c⟩, rfl, ⟨f1, f2, f3, f4, f5, f6⟩⟩
theorem opens_decl {P : Program} {t s k o : TypeId} (hf : fieldsOf P t = [(s, 0, 1), (k, 1, 1), (o, 2, 1)]) (hz : P.cellsOf t = 3) (hs : P.underlying s = some .string) (hk : Opens P k (Enc.slice Enc.int)) (ho : P.underlying o = some (.int .i64)) : Opens P t Enc.decl := by
  intro H enc w fuel cs x hx hwt
  obtain ⟨hlen, n, rfl, hat⟩ := open_fieldsB hf (by simp) hx hwt
  rw [hz] at hlen
  match cs, hlen with
  | [u0, u1, u2], _ =>
    obtain ⟨y, h, hw⟩ := hat 0 _ rfl
    obtain ⟨s0, e0, f0⟩ := opens_str hs _ _ _ _ _ _ h hw
    obtain ⟨y, h, hw⟩ := hat 1 _ rfl
    obtain ⟨ks, A, m, c, e1, f1⟩ := hk _ _ _ _ _ _ h hw
    obtain ⟨y, h, hw⟩ := hat 2 _ rfl
    obtain ⟨i2, e2, f2⟩ := opens_int ho _ _ _ _ _ _ h hw
    simp at e0 e1 e2
    subst e0 e1 e2
    exact ⟨⟨s0, ks, i2⟩, ⟨A, m, c⟩, rfl, ⟨f0, f1, f2⟩⟩
theorem opens_prog {N d : Nat} {P : Program} {t a b : TypeId} (hf : fieldsOf P t = [(a, 0, 1), (b, 1, 1)]) (hz : P.cellsOf t = 2) (ha : Opens P a (Enc.slice Enc.decl)) (hb : OpensB N P b (Enc.slice (Enc.rule d))) : OpensB N P t (Enc.prog d) := by
  intro H enc w fuel cs x hfu hx hwt
  obtain ⟨hlen, n, rfl, hat⟩ := open_fieldsB hf (by simp) hx hwt
  rw [hz] at hlen
  match cs, hlen with
  | [u0, u1], _ =>
    obtain ⟨y, h, hw⟩ := hat 0 _ rfl
    obtain ⟨ds, A, m, c, e0, f0⟩ := ha _ _ _ _ _ _ h hw
    obtain ⟨y, h, hw⟩ := hat 1 _ rfl
    obtain ⟨rs, A', m', c', e1, f1⟩ := hb _ _ _ _ _ _ (by omega) h hw
    simp at e0 e1
    subst e0 e1
    exact ⟨⟨ds, rs⟩, ⟨A, m, c⟩, ⟨A', m', c'⟩, rfl, ⟨f0, f1⟩⟩
end Go.Proofs.YtplekbpmfaghbaaGreatDoor

namespace Go.Proofs.YtplekbpmfaghbaaGreatDoor
open Go.RowKit Go.WideShapes
theorem open_encB {α : Type} {E : Nat → Enc α} {H : Type} {enc : TypeId × Value → H} {P : Program} {w : World} {t : TypeId} {v : Value} {d : DataW H} {p : List MemPlace} {r : Reach} {b0 : Nat} (hs : ∃ fs, P.underlying t = some (.struct fs)) (ho : ∀ N, OpensB N P t (E N))
    (hval : Value.okWide P w r b0 t v) (h : DataW.Trod enc P w 0 (fun _ => true) true t v d p) (hwt : ∀ n ∈ d.weights P t, n ≤ reachBytes) : ∃ (N : Nat) (x : α) (cs : List Value), v = .agg cs.toArray ∧ (E N).ok w w.heap.size cs x := by
  obtain ⟨fs, hs⟩ := hs
  obtain ⟨cs, rfl, hsz⟩ := okWide_struct hs hval
  obtain ⟨fuel, hx⟩ := h
  obtain ⟨y, hy⟩ := ho fuel _ _ _ fuel _ _ (Nat.le_refl _) hx hwt
  obtain ⟨cs⟩ := cs
  exact ⟨fuel, y, cs, rfl, by simpa [Value.cells] using hy⟩
theorem o_val2 : Opens Tryz.prog 31 Enc.val := opens_val (a := 29) (b := 3) (c := 9) (by kernel_rfl) (by kernel_rfl) Tryz.underlying29 Tryz.underlying3 Tryz.underlying9
theorem o_term : Opens Tryz.prog 33 Enc.told := opens_told (a := 9) (b := 31) (by kernel_rfl) (by kernel_rfl) Tryz.underlying9 o_val2
theorem o_exp (N : Nat) : OpensB N Tryz.prog 36 (Enc.exp (N + 1)) := opens_exp (a := 3) (b := 33) (c := 34) (by kernel_rfl) (by kernel_rfl) (of_decide_eq_true (by kernel_rfl)) Tryz.underlying3 o_term Tryz.underlying34 N
theorem o_terms : Opens Tryz.prog 22 (Enc.slice Enc.told) := opens_slice Tryz.underlying22 o_term (by kernel_rfl) (by show 0 < _; decide) (of_decide_eq_true (by kernel_rfl))
theorem o_lit (N : Nat) : OpensB N Tryz.prog 38 (Enc.lit N) := opens_lit (k := 28) (at_ := 24) (o := 3) (e := 36) (s := 9) (al := 22) (by kernel_rfl) (by kernel_rfl) Tryz.underlying28 Tryz.underlying3 (by kernel_rfl) (by kernel_rfl) Tryz.underlying9 o_terms (o_exp N)
theorem o_lits (N : Nat) : OpensB N Tryz.prog 25 (Enc.slice (Enc.lit N)) := opensB_slice' Tryz.underlying25 (o_lit N) (by show _ = 17; kernel_rfl) (show 0 < 17 by decide) (of_decide_eq_true (by kernel_rfl))
theorem o_rule (N : Nat) : OpensB N Tryz.prog 27 (Enc.rule N) := opens_rule (at_ := 24) (o := 3) (lt := 25) (s := 9) (al := 22) (by kernel_rfl) (by kernel_rfl) Tryz.underlying3 (by kernel_rfl) (by kernel_rfl) Tryz.underlying9 o_terms (o_lits N)
theorem o_rules (N : Nat) : OpensB N Tryz.prog 72 (Enc.slice (Enc.rule N)) := opensB_slice' Tryz.underlying72 (o_rule N) (by show _ = 6; kernel_rfl) (show 0 < 6 by decide) (of_decide_eq_true (by kernel_rfl))
theorem o_kind : Opens Tryz.prog 29 Enc.int := opens_int Tryz.underlying29
theorem o_kinds : Opens Tryz.prog 153 (Enc.slice Enc.int) := opens_slice Tryz.underlying153 o_kind (by kernel_rfl) (by show 0 < _; decide) (of_decide_eq_true (by kernel_rfl))
theorem o_decl : Opens Tryz.prog 155 Enc.decl := opens_decl (s := 9) (k := 153) (o := 3) (by kernel_rfl) (by kernel_rfl) Tryz.underlying9 o_kinds Tryz.underlying3
theorem o_decls : Opens Tryz.prog 71 (Enc.slice Enc.decl) := opens_slice Tryz.underlying71 o_decl (by kernel_rfl) (by show 0 < _; decide) (of_decide_eq_true (by kernel_rfl))
theorem o_prog (N : Nat) : OpensB N Tryz.prog 74 (Enc.prog N) := opens_prog (a := 71) (b := 72) (by kernel_rfl) (by kernel_rfl) o_decls (o_rules N)
theorem u_prog : ∃ fs, Tryz.prog.underlying 74 = some (.struct fs) := ⟨_, Tryz.underlying74⟩
end Go.Proofs.YtplekbpmfaghbaaGreatDoor

namespace Go.Proofs.YtplekbpmfaghbaaGreatDoor
open Go.RowKit
set_option linter.unusedSimpArgs false in
set_option maxRecDepth 100000 in
set_option maxHeartbeats 1000000 in
theorem inside_any (c : UInt8) (w : World) : Calls Tryz.prog 126 #[.int .u8 c.toNat] w (RetSameB (insB c) w) := by
  have HE : Hid (insB c = ((decide (97 ≤ c.toNat) && decide (c.toNat ≤ 122)) || (decide (65 ≤ c.toNat) && decide (c.toNat ≤ 90)) || (decide (48 ≤ c.toNat) && decide (c.toNat ≤ 57)) || decide (c.toNat = 95))) := rfl
  rw [HE.out]
  clear HE
  generalize c.toNat = r
  by_cases h1 : (97 : Int) ≤ r <;> by_cases h2 : (r : Int) ≤ 122 <;> by_cases h3 : (65 : Int) ≤ r <;> by_cases h4 : (r : Int) ≤ 90 <;> by_cases h5 : (48 : Int) ≤ r <;> by_cases h6 : (r : Int) ≤ 57 <;> by_cases h7 : (r : Int) = 95 <;> (try (exfalso; omega))
  all_goals
    have z7 : ((r : Int) == 95) = decide ((r : Int) = 95) := by rw [Bool.eq_iff_iff]; simp
    simp only [h7, decide_true, decide_false] at z7
    have g1 : (97 ≤ r) = (97 ≤ r) := rfl
    have e : ((decide (97 ≤ r) && decide (r ≤ 122)) || (decide (65 ≤ r) && decide (r ≤ 90)) || (decide (48 ≤ r) && decide (r ≤ 57)) || decide (r = 95)) = (((decide ((97 : Int) ≤ r) && decide ((r : Int) ≤ 122)) || (decide ((65 : Int) ≤ r) && decide ((r : Int) ≤ 90)) || (decide ((48 : Int) ≤ r) && decide ((r : Int) ≤ 57)) || decide ((r : Int) = 95))) := by
      rw [Bool.eq_iff_iff]; simp; omega
    simp only [h1, h2, h3, h4, h5, h6, h7, decide_true, decide_false, Bool.and_true, Bool.true_and, Bool.and_false, Bool.false_and, Bool.or_true, Bool.true_or, Bool.or_false, Bool.false_or] at e
    rw [e]
    clear e g1
    go_enter Tryz.func126, Tryz.ntmps126
    go_wp2
    go_ret
    exact ⟨rfl, rfl⟩
theorem mem_take_succ5 {l : List ByteArray} {k : Nat} {s x : ByteArray} (hx : l[k]? = some x) : s ∈ l.take (k + 1) ↔ s ∈ l.take k ∨ x = s := by
  rw [List.take_add_one, hx]
  simp [eq_comm]
set_option linter.unusedSimpArgs false in
set_option maxRecDepth 100000 in
set_option maxHeartbeats 400000 in
theorem in_any (A : Option Addr) (n c : Nat) (l : List ByteArray) (s : ByteArray) (w : World) (hl : SliceIs Enc.str w w.heap.size A n c l) :
    Calls Tryz.prog 128 #[.slice A n c, .string s] w (RetSameB (decide (s ∈ l)) w) := by
  have hn := hl.bound
  have hlen := Lib.hid hl.1
  go_enter Tryz.func128, Tryz.ntmps128
  go_wp2
  go_loop [5] (fun i => ∃ k : Nat, k ≤ n ∧ i = .int .i64 k ∧ Hid (s ∉ l.take k)) (fun i => n - (intOf i).toNat)
  case atStart => exact ⟨0, by omega, rfl, by simp [Hid]⟩
  case round =>
    obtain ⟨k, hk, rfl, hpre⟩ := hrel
    by_cases hlt : k < n
    · obtain ⟨b, o, x, rfl, _, hx, hc, hs⟩ := hl.str_at hlt
      have i0 : (0 : Int) ≤ (k : Int) := by omega
      have i1 : (k : Int) < (n : Int) := by omega
      have hb := World.block_lt_of_cell? w _ hc
      clear hl
      by_cases h1 : x = s
      · have h1' : (x.toList == s.toList) = true := by simp [h1]
        have HR : Hid (decide (s ∈ l) = true) := by show decide (s ∈ l) = true; rw [← h1]; simpa using List.mem_of_getElem? hx.out
        clear h1
        go_wp2
        go_ret
        exact ⟨by rw [HR.out]; rfl, rfl⟩
      · have h1' : (x.toList == s.toList) = false := by simp [toList_inj, h1]
        have HN : Hid (s ∉ l.take (k + 1)) := by
          show ¬ _
          rw [mem_take_succ5 hx.out]; intro h; rcases h with h | h
          · exact hpre.out h
          · exact h1 h
        clear h1
        go_wp2
        go_round
        case rel => exact ⟨k + 1, by omega, by go_num, HN⟩
        case measure => simp [intOf]; omega
    · have HR : Hid (decide (s ∈ l) = false) := by
        show decide (s ∈ l) = false
        have h := hpre.out
        rw [List.take_of_length_le (by have := hlen.out; omega)] at h
        simpa using h
      have i1 : ¬ (k : Int) < (n : Int) := by omega
      go_wp2
      go_ret
      exact ⟨by rw [HR.out]; rfl, rfl⟩
/-- a fresh list of texts -/
theorem strs_new {w : World} {L : List (List UInt8)} (o : Obj) (ho : o = .cells (L.map fun l => Value.string (bytes l)).toArray 9) (hl : L.length ≤ 1000) (hb : ∀ l ∈ L, l.length ≤ 1000) :
    SliceIs Enc.str (w.alloc o) (w.alloc o).heap.size (some ⟨w.heap.size, 0, none⟩) L.length L.length (L.map bytes) := by
  have h : StrsW w.heap.size L (w.alloc o) := ⟨9, (0, 0), by rw [ho]; exact heapNew rfl⟩
  exact h.is hl hb
set_option linter.unusedSimpArgs false in
set_option maxRecDepth 100000 in
set_option maxHeartbeats 2000000 in
theorem wordR_any (s : ByteArray) (hs : s.size ≤ 140737488351232) (h1 : 1 ≤ s.size) (w : World) : Calls Tryz.prog 127 #[.string s] w (RetInt (wordK s.toList) w) := by
  have HI := Lib.hid (in_any _ _ _ _ s _ (strs_new (w := w) (L := keysL) (.cells #[.string ⟨#[114, 101, 108]⟩, .string ⟨#[105, 110, 116]⟩, .string ⟨#[115, 121, 109]⟩, .string ⟨#[110, 111, 116]⟩, .string ⟨#[99, 111, 117, 110, 116]⟩, .string ⟨#[115, 117, 109]⟩, .string ⟨#[109, 105, 110]⟩, .string ⟨#[109, 97, 120]⟩] 9) rfl (by decide) (by decide)))
  have Hn := Lib.hid (fun w => refName_any s hs w)
  have HPa := Lib.hid (fun w => refParse_any s hs w)
  have e0 : headN s.toList = (s[0]'h1).toNat := by
    have := ba_head h1
    cases hl : s.toList with
    | nil => rw [hl] at this; cases this
    | cons c r => rw [hl] at this; simp at this; simp [headN, this]
  have e1 : nameOk ⟨s.toList.toArray⟩ = nameOk s := by rw [bytes_back]
  have e2 : s.toList.length = s.size := ba_len s
  have HQ : Hid (wordK s.toList = if decide (s ∈ keysL.map bytes) then (1 : Int) else if nameOk s then (2 : Int) else if greatB (s[0]'h1).toNat && decide (s.size ≤ 32) then (3 : Int) else if (refNum s.toList).isSome then (4 : Int) else (0 : Int)) := by
    show _ = _
    unfold wordK
    rw [e0, e1, e2, mem_bytes]
    simp
  have h1n : (0 : Int) < (s.size : Int) := by omega
  rw [HQ.out]
  clear e0 e1 e2 HQ
  cases hk : decide (s ∈ keysL.map bytes) with
  | true =>
    rw [hk] at HI
    simp only [if_true]
    go_enter Tryz.func127, Tryz.ntmps127
    go_wp2_with fail
    refine HI.out.mono ?_
    rintro e w1 ⟨rfl, rfl⟩
    go_wp2_with fail
    go_ret
    exact ⟨rfl, belowA (Below.refl _ _) _⟩
  | false =>
  rw [hk] at HI
  clear hk
  simp only [Bool.false_eq_true, if_false]
  cases hN : nameOk s with
  | true =>
    rw [hN] at Hn
    simp only [if_true]
    go_enter Tryz.func127, Tryz.ntmps127
    go_wp2_with fail
    refine HI.out.mono ?_
    rintro e w1 ⟨rfl, rfl⟩
    go_wp2_with fail
    refine (Hn.out _).mono ?_
    rintro e w2 ⟨rfl, hb2⟩
    go_wp2_with fail
    go_ret
    exact ⟨rfl, below_next (belowA (Below.refl _ _) _) hb2⟩
  | false =>
  rw [hN] at Hn
  simp only [Bool.false_eq_true, if_false]
  have HP2 : Hid (∃ kk nn tt, (kk = 1 ↔ (refNum s.toList).isSome = true) ∧ (parseG s).v = .agg #[.int .i64 kk, .int .i64 nn, .string tt] ∧ (parseO s).isSome = (refNum s.toList).isSome) := by
    cases hr : refNum s.toList with
    | none => exact ⟨0, 0, ⟨#[]⟩, by simp, by simp [parseG, parse_none hN hr, gv0], by simp [parse_none hN hr]⟩
    | some n => exact ⟨1, n, ⟨#[]⟩, by simp, by simp [parseG, parse_some hN hr], by simp [parse_some hN hr]⟩
  obtain ⟨kk, nn, tt, hkk, hpv, hpo⟩ := HP2.out
  rw [hpv, hpo] at HPa
  have Hkk := Lib.hid hkk
  generalize (refNum s.toList).isSome = ok at *
  clear hpv hpo HP2 hN hkk
  by_cases hg1 : (65 : Int) ≤ ((s[0]'h1).toNat : Int) <;> by_cases hg2 : ((s[0]'h1).toNat : Int) ≤ 90 <;> by_cases h32 : (s.size : Int) ≤ 32 <;> (try (exfalso; omega))
  all_goals
    have hG : greatB (s[0]'h1).toNat = (decide ((65 : Int) ≤ ((s[0]'h1).toNat : Int)) && decide (((s[0]'h1).toNat : Int) ≤ 90)) := by unfold greatB; rw [Bool.eq_iff_iff]; simp; omega
    have hS : decide (s.size ≤ 32) = decide ((s.size : Int) ≤ 32) := by rw [Bool.eq_iff_iff]; simp; omega
    rw [hG, hS]
    simp only [hg1, hg2, h32, decide_true, decide_false, Bool.and_true, Bool.and_false, Bool.false_and, Bool.and_self, Bool.false_eq_true, if_true, if_false]
    clear hG hS
  · go_enter Tryz.func127, Tryz.ntmps127
    go_wp2_with fail
    refine HI.out.mono ?_
    rintro e w1 ⟨rfl, rfl⟩
    go_wp2_with fail
    refine (Hn.out _).mono ?_
    rintro e w2 ⟨rfl, hb2⟩
    go_wp2_with fail
    go_ret
    exact ⟨rfl, below_next (belowA (Below.refl _ _) _) hb2⟩
  all_goals
    cases ok with
    | false =>
      go_enter Tryz.func127, Tryz.ntmps127
      go_wp2_with fail
      refine HI.out.mono ?_
      rintro e w1 ⟨rfl, rfl⟩
      go_wp2_with fail
      refine (Hn.out _).mono ?_
      rintro e w2 ⟨rfl, hb2⟩
      go_wp2_with fail
      refine (HPa.out _).mono ?_
      rintro e w3 ⟨rfl, hb3⟩
      go_wp2_with fail
      go_ret
      exact ⟨rfl, belowA (below_next (below_next (belowA (Below.refl _ _) _) hb2) hb3) _⟩
    | true =>
      have hk1 : kk = 1 := Hkk.out.2 rfl
      subst hk1
      go_enter Tryz.func127, Tryz.ntmps127
      go_wp2_with fail
      refine HI.out.mono ?_
      rintro e w1 ⟨rfl, rfl⟩
      go_wp2_with fail
      refine (Hn.out _).mono ?_
      rintro e w2 ⟨rfl, hb2⟩
      go_wp2_with fail
      refine (HPa.out _).mono ?_
      rintro e w3 ⟨rfl, hb3⟩
      have hra : (w3.alloc (.cells #[.int .i64 1, .int .i64 nn, .string tt] 31)).heap[w3.heap.size]? = some (.cells #[.int .i64 1, .int .i64 nn, .string tt] 31 (0, 0)) := heapNew rfl
      obtain ⟨x0, x1, x2, -, -, -⟩ := three_facts hra
      clear hra
      go_wp2_with fail
      go_ret
      exact ⟨rfl, belowA (below_next (below_next (belowA (Below.refl _ _) _) hb2) hb3) _⟩
end Go.Proofs.YtplekbpmfaghbaaGreatDoor
