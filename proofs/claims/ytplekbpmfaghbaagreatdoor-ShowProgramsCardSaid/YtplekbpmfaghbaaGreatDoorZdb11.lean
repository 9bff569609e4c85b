/- My own texts ShowRR, ShowRD, TRefF, CpDoc, as far as this claim needs them. -/
import Derived.Test.YtplekbpmfaghbaaGreatDoorZd1
import Derived.Test.YtplekbpmfaghbaaGreatDoorZd2
import Derived.Test.YtplekbpmfaghbaaGreatDoorZd3
import Derived.Test.YtplekbpmfaghbaaGreatDoorZd4
import Derived.Test.YtplekbpmfaghbaaGreatDoorZd5
import Derived.Test.YtplekbpmfaghbaaGreatDoorZd6
import Derived.Test.YtplekbpmfaghbaaGreatDoorZd7
import Derived.Test.YtplekbpmfaghbaaGreatDoorZd8
import Derived.Test.YtplekbpmfaghbaaGreatDoorZd9
import Derived.Test.YtplekbpmfaghbaaGreatDoorZd10
import Derived.Test.YtplekbpmfaghbaaGreatDoorZd11
import Derived.Test.YtplekbpmfaghbaaGreatDoorZd12
import Derived.Test.YtplekbpmfaghbaaGreatDoorZd13
import Derived.Test.YtplekbpmfaghbaaGreatDoorZd14
import Derived.Test.YtplekbpmfaghbaaGreatDoorZd15
import Derived.Test.YtplekbpmfaghbaaGreatDoorZd16
import Derived.Test.YtplekbpmfaghbaaGreatDoorZdb1
import Derived.Test.YtplekbpmfaghbaaGreatDoorZdb2
import Derived.Test.YtplekbpmfaghbaaGreatDoorZdb4
import Derived.Test.YtplekbpmfaghbaaGreatDoorZdb5
import Derived.Test.YtplekbpmfaghbaaGreatDoorZdb7
import Derived.Test.YtplekbpmfaghbaaGreatDoorZdb9
import Derived.Test.YtplekbpmfaghbaaGreatDoorZdb10
import Derived.WalkKit
import Derived.WalkSpells
import Derived.WalkLawsBesides
import Derived.MapKept
import Derived.BigQuiet
import Derived.Lib.Hide
import Derived.Deep.Draws
import Derived.Deep.QuietTactic
import Derived.Deep.MidRow
import Derived.Great.Walk
import Derived.Great.BuildSlice
import Derived.Deep.RegionHeld3
import Derived.Lib.CutLaws
import Derived.Test.YtplekbpmfaghbaaGreatDoorProg
import Derived.Deep.RegionWith
import Derived.RangeFuncBox
import Derived.RangeFuncNested
import Derived.RangeFuncLeaves
import Derived.OwnWalkIn
import Derived.TacticsInMore
import Derived.RegionIn
import Derived.LoopNIn
import Derived.LoopIn
import Derived.Shelf.Abstract
set_option linter.unusedVariables false
set_option linter.unusedSimpArgs false
namespace Go.Proofs.YtplekbpmfaghbaaGreatDoor
open Go.RowKit
def bodyS (l : List GLit) (k : Nat) : List UInt8 := if k = 0 then [] else [32, 58, 45, 32] ++ Lib.join ((l.take k).map litS) sep2
theorem bodyS_step {l : List GLit} {k : Nat} {y : GLit} (h : l[k]? = some y) : bodyS l (k + 1) = bodyS l k ++ (if k = 0 then [32, 58, 45, 32] else sep2) ++ litS y := by
  unfold bodyS
  rw [if_neg (by omega), List.take_add_one, h]
  simp only [Option.toList_some, List.map_append, List.map_cons, List.map_nil]
  by_cases hk : k = 0
  · subst hk
    simp only [List.take_zero, List.map_nil, List.nil_append, if_true, join_one]
  · rw [if_neg hk, if_neg hk, join_snoc]
    · simp only [List.append_assoc]
    · intro e
      have h1 := congrArg List.length e
      have hkl : k < l.length := (List.getElem?_eq_some_iff.1 h).1
      rw [List.length_map, List.length_take] at h1
      simp only [List.length_nil] at h1
      omega
theorem bodyS_grow {l : List GLit} : ∀ (d k : Nat), k + d ≤ l.length → (bodyS l k).length ≤ (bodyS l (k + d)).length
  | 0, k, _ => Nat.le_refl _
  | d + 1, k, h => by
    have h1 := bodyS_grow (l := l) d k (by omega)
    have h2 := bodyS_step (List.getElem?_eq_getElem (l := l) (i := k + d) (by omega))
    rw [show k + (d + 1) = k + d + 1 from rfl, h2]
    simp only [List.length_append]
    omega
theorem bodyS_full (l : List GLit) : bodyS l l.length = (if l = [] then [] else [32, 58, 45, 32] ++ Lib.join (l.map litS) sep2) := by
  unfold bodyS
  by_cases h : l = []
  · subst h; rfl
  · rw [if_neg h, if_neg (fun e => h (List.eq_nil_of_length_eq_zero e)), List.take_length]
set_option maxRecDepth 100000 in
set_option maxHeartbeats 8000000 in
theorem refRule_any (d : Nat) (x : GRule) (A : Option Addr) (an ac : Nat) (B : Option Addr) (bn bc : Nat) (w : World) (h : RuleAt d w w.heap.size x ⟨A, an, ac⟩ ⟨B, bn, bc⟩) (hr : rightRule x = true) (hlen : (ruleS x).length ≤ 1000000000000) :
    Calls Tryz.prog 23 #[.agg #[.string x.head.rel, .slice A an ac, .int .i64 x.agg, .int .i64 x.col, .slice B bn bc, .int .i64 x.pos]] w (RetV (.string (bytes (ruleS x))) w) := by
  have mixed : Tryz.prog.follows .mixedOrders = true := by kernel_rfl
  obtain ⟨S, HS⟩ : ∃ S, Hid (S = ruleS x) := ⟨_, rfl⟩
  rw [← HS.out] at hlen ⊢
  obtain ⟨⟨g, hg, hg4⟩, h6, h8, hall⟩ := rightRule_parts hr
  have Hlb : Hid (x.body.length = bn) := h.body.1
  have HE : Hid (S = atomS x.head (g : Int) x.col ++ bodyS x.body bn ++ [46]) := by show _ = _; rw [HS.out, ← hg, ← Hlb.out, bodyS_full]; rfl
  rw [hg]
  have hrb : (w.alloc (.cells #[.string x.head.rel, .slice A an ac, .int .i64 (g : Int), .int .i64 x.col, .slice B bn bc, .int .i64 x.pos] 46)).heap[w.heap.size]? = some (.cells #[.string x.head.rel, .slice A an ac, .int .i64 (g : Int), .int .i64 x.col, .slice B bn bc, .int .i64 x.pos] 46 (0, 0)) := heapNew rfl
  have hba : Below w.heap.size w (w.alloc (.cells #[.string x.head.rel, .slice A an ac, .int .i64 (g : Int), .int .i64 x.col, .slice B bn bc, .int .i64 x.pos] 46)) := belowA (Below.refl _ _) _
  have HH := Lib.hid (h.keep hba)
  have Hba := Lib.hid hba
  have hbn := h.body.bound
  dsimp only at hbn
  have hb8 : bn ≤ 8 := by have h1 := Hlb.out; omega
  have Hrb := Lib.hid hrb
  have Hall := Lib.hid hall
  obtain ⟨f0, f1, f2, f3, f4, f5⟩ := facts6 hrb
  clear h hr hrb hba hall hg HS
  have hl0 := hlen
  rw [HE.out] at hl0
  simp only [List.length_append, List.length_cons, List.length_nil] at hl0
  have HL0 := Lib.hid hl0
  have hla : (atomS x.head (g : Int) x.col).length ≤ 1000000000000 := by omega
  generalize hwb : (w.alloc (.cells #[.string x.head.rel, .slice A an ac, .int .i64 (g : Int), .int .i64 x.col, .slice B bn bc, .int .i64 x.pos] 46)) = wb at *
  have HC1 := Lib.hid (refAtom_any g x.col x.head A an ac wb HH.out.args hg4 hla)
  have HS0 : Hid (bytes (atomS x.head (g : Int) x.col) = bytes (atomS x.head (g : Int) x.col ++ bodyS x.body 0)) := by show _ = _; unfold bodyS; simp
  go_enter Tryz.func23, Tryz.ntmps23
  go_wp2_with fail
  try simp only [hwb]
  clear hwb
  go_wp2_with fail
  refine HC1.out.mono ?_
  rintro r wN ⟨rfl, hb1⟩
  have HB1 := Lib.hid hb1
  clear HC1 hb1 f0 f1 f2 f3 f4 f5 hl0 hla
  go_wp2_with fail
  go_loopw [3, 4] (fun v i wr => ∃ (k : Nat) (s : ByteArray), k ≤ bn ∧ v = .string s ∧ i = .int .i64 k ∧ Hid (s = bytes (atomS x.head (g : Int) x.col ++ bodyS x.body k)) ∧ Hid (Below wb.heap.size wb wr)) (fun _ i _ => bn - (intOf i).toNat)
  case atStart => exact ⟨0, _, by omega, rfl, rfl, HS0, HB1.out⟩
  case round =>
    clear HS0
    obtain ⟨k, s, hk, rfl, rfl, Hs, HBr⟩ := hrel
    have i0 : (0 : Int) ≤ (k : Int) := by omega
    have hrX := (HBr.out.block _ (Array.getElem?_eq_some_iff.1 Hrb.out).1).trans Hrb.out
    have f4 : wr.cell? ⟨w.heap.size, 4, none⟩ = some (.slice B bn bc) := (cell_of_row _ _ 4 _ _ _ hrX).trans rfl
    have hss : s.size ≤ 1000000000000 := by
      have h1 := bodyS_grow (l := x.body) (bn - k) k (by have := Hlb.out; omega)
      rw [show k + (bn - k) = bn by omega] at h1
      have h2 := HL0.out
      have h4 := congrArg ByteArray.size Hs.out
      rw [bytes_size, List.length_append] at h4
      omega
    by_cases hlt : k < bn
    · have i1 : (k : Int) < (bn : Int) := by omega
      obtain ⟨bb, o, y, a', p', q', hA, hbb, hy, hly, Hr⟩ := (HH.out.keep HBr.out).body.lit_range hlt
      try simp only at hA
      subst hA
      obtain ⟨A1, n1, c1⟩ := a'
      obtain ⟨A2, n2, c2⟩ := p'
      obtain ⟨A3, n3, c3⟩ := q'
      have hym := List.mem_of_getElem? hy.out
      have hst := bodyS_step hy.out
      have hyl : (litS y).length ≤ 1000000000000 := by
        have h1 := bodyS_grow (l := x.body) (bn - (k + 1)) (k + 1) (by have := Hlb.out; omega)
        rw [show k + 1 + (bn - (k + 1)) = bn by omega, hst] at h1
        simp only [List.length_append] at h1
        have h2 := HL0.out
        omega
      have HC := Lib.hid (refLiteral_any d y A1 n1 c1 A2 n2 c2 A3 n3 c3 wr hly (Hall.out y hym) hyl)
      obtain ⟨s1, Hs1⟩ : ∃ s1, Hid (s1 = s ++ bytes (if k = 0 then [32, 58, 45, 32] else sep2)) := ⟨_, rfl⟩
      have hs1s : s1.size ≤ 1000000000004 := by
        have h4 := congrArg ByteArray.size Hs1.out
        rw [ByteArray.size_append, bytes_size] at h4
        split at h4
        · simp only [List.length_cons, List.length_nil] at h4; omega
        · have : sep2.length = 2 := rfl
          omega
      have HNx : Hid (s1 ++ bytes (litS y) = bytes (atomS x.head (g : Int) x.col ++ bodyS x.body (k + 1))) := by
        show _ = _
        rw [hst, Hs1.out, Hs.out, bytes_app, bytes_app]
        simp only [List.append_assoc]
      have e3 : (bytes (litS y)).size = (litS y).length := rfl
      clear hy hly hst hym Hs
      go_upto_if 20 with fail
      go_cut [3] (fun v W => v = .string s1 ∧ W = wr)
      case first =>
        by_cases hk0 : k = 0
        · have i2 : ((k : Int) == 0) = true := by simp [hk0]
          have HS1 : Hid (s1 = s ++ ⟨#[32, 58, 45, 32]⟩) := by show _ = _; rw [Hs1.out, if_pos hk0]; rfl
          have hz1 : ¬ (9223372036854775807 < s.size + 4) := by omega
          have hz3 : ¬ (9223372036854775803 < s.size) := by omega
          clear hk0 Hs1
          go_wp2_with fail
          go_meet
          exact ⟨by rw [HS1.out], rfl⟩
        · have i2 : ((k : Int) == 0) = false := by simp [hk0]
          have HS1 : Hid (s1 = s ++ ⟨#[44, 32]⟩) := by show _ = _; rw [Hs1.out, if_neg hk0]; rfl
          have hz1 : ¬ (9223372036854775807 < s.size + 2) := by omega
          have hz3 : ¬ (9223372036854775805 < s.size) := by omega
          clear hk0 Hs1
          go_wp2_with fail
          go_meet
          exact ⟨by rw [HS1.out], rfl⟩
      case rest =>
        obtain ⟨rfl, rfl⟩ := hcut
        clear Hs1 hss
        generalize bytes (litS y) = sl at *
        have hz1 : ¬ (9223372036854775807 < s1.size + sl.size) := by omega
        go_wp2_with (refine wpList_load_mid rfl 53 (.tmp 29) rfl bb (o + k * 17) rfl (litC y ⟨A1, n1, c1⟩ ⟨A2, n2, c2⟩ ⟨A3, n3, c3⟩) _ Hr.out Tryz.underlying53 rfl (lit5_size _ _ _ _) ?_)
        refine HC.out.mono ?_
        rintro r w2 ⟨rfl, hq2⟩
        have HBn := Lib.hid (below_next HBr.out hq2)
        clear hq2 HC Hr f4
        go_wp2_with fail
        go_roundw
        case rel => exact ⟨k + 1, _, by omega, rfl, by go_num, HNx, HBn⟩
        case measure => simp [intOf]; omega
    · have i1 : ¬ (k : Int) < (bn : Int) := by omega
      have hkn : k = bn := by omega
      have HSE : Hid (bytes S = s ++ ⟨#[46]⟩) := by
        show _ = s ++ bytes [46]
        have h1 := Hs.out
        rw [hkn] at h1
        rw [HE.out, h1, bytes_app]
      have HBn := Lib.hid (below_next Hba.out HBr.out)
      have hz1 : ¬ (9223372036854775807 < s.size + 1) := by omega
      have hz3 : ¬ (9223372036854775806 < s.size) := by omega
      clear Hs
      go_wp2_with fail
      go_ret
      exact ⟨by rw [HSE.out]; rfl, HBn.out⟩
end Go.Proofs.YtplekbpmfaghbaaGreatDoor

namespace Go.Proofs.YtplekbpmfaghbaaGreatDoor
open Go.RowKit
def kindsJ (l : List Int) (j : Nat) : List UInt8 := Lib.join ((l.take j).map kindS) sep2
def declH (x : GDecl) : List UInt8 := [114, 101, 108, 32] ++ x.rel.toList ++ [40]
theorem kindsJ_step {l : List Int} {j : Nat} {y : Int} (h : l[j]? = some y) : kindsJ l (j + 1) = kindsJ l j ++ (if j = 0 then [] else sep2) ++ kindS y := by
  unfold kindsJ
  rw [List.take_add_one, h]
  simp only [Option.toList_some, List.map_append, List.map_cons, List.map_nil]
  by_cases hj : j = 0
  · subst hj
    simp only [List.take_zero, List.map_nil, List.nil_append, if_true, join_one, List.append_nil]
    simp [Lib.join, List.intercalate]
  · rw [if_neg hj, join_snoc]
    intro e
    have h1 := congrArg List.length e
    have hkl : j < l.length := (List.getElem?_eq_some_iff.1 h).1
    rw [List.length_map, List.length_take] at h1
    simp only [List.length_nil] at h1
    omega
theorem kindsJ_len {l : List Int} (hl : l.length ≤ 6) (j : Nat) : (kindsJ l j).length ≤ 30 := by
  unfold kindsJ
  have h1 := join_le ((l.take j).map kindS)
  rw [kinds_sum, List.length_take] at h1
  omega
theorem kindsJ_full {l : List Int} {j : Nat} (h : l.length ≤ j) : kindsJ l j = Lib.join (l.map kindS) sep2 := by unfold kindsJ; rw [List.take_of_length_le h]
theorem declS_H (x : GDecl) : declS x = declH x ++ kindsJ x.kinds x.kinds.length ++ [41, 46] := by
  rw [kindsJ_full (Nat.le_refl _)]
  unfold declS declH
  simp only [List.append_assoc]
def LinesPost (L : List (List UInt8)) (w : World) (e : Ending) (w' : World) : Prop :=
  ∃ A c, e = .returned (.slice A L.length c) ∧ w'.ownsRow w.heap.size 9 1 (.slice A L.length c) L.length (L.map fun s => .string (bytes s)) ∧ Below w.heap.size w w'
set_option maxRecDepth 100000 in
set_option maxHeartbeats 8000000 in
theorem refLines_any (d : Nat) (p : GProg) (A1 : Option Addr) (n1 c1 : Nat) (A2 : Option Addr) (n2 c2 : Nat) (w : World) (h : ProgAt d w w.heap.size p ⟨A1, n1, c1⟩ ⟨A2, n2, c2⟩) (hfo : formedB p = true) :
    Calls Tryz.prog 33 #[.agg #[.slice A1 n1 c1, .slice A2 n2 c2]] w (LinesPost (linesS p) w) := by
  obtain ⟨P, HP⟩ : ∃ P : Ending → World → Prop, Hid (P = LinesPost (linesS p) w) := ⟨_, rfl⟩
  rw [← HP.out]
  have hba : Below w.heap.size w (w.alloc (.cells #[.slice A1 n1 c1, .slice A2 n2 c2] 79)) := belowA (Below.refl _ _) _
  have hrb : (w.alloc (.cells #[.slice A1 n1 c1, .slice A2 n2 c2] 79)).heap[w.heap.size]? = some (.cells #[.slice A1 n1 c1, .slice A2 n2 c2] 79 (0, 0)) := heapNew rfl
  have hbn1 := h.decls.bound
  have hbn2 := h.rules.bound
  dsimp only at hbn1 hbn2
  have Hn1 : Hid (p.decls.length = n1) := h.decls.1
  have Hn2 : Hid (p.rules.length = n2) := h.rules.1
  obtain ⟨hl1, hl2, hfd, hfr⟩ := formed_parts hfo
  have HFd := Lib.hid hfd
  have HFr := Lib.hid hfr
  have hm1 : n1 ≤ 32 := by have := Hn1.out; omega
  have hm2 : n2 ≤ 64 := by have := Hn2.out; omega
  have HH := Lib.hid (h.keep hba)
  have Hba := Lib.hid hba
  have Hrb := Lib.hid hrb
  obtain ⟨f0, f1⟩ := facts2 hrb
  clear h hba hrb hfo hfd hfr hl1 hl2
  generalize hwb : (w.alloc (.cells #[.slice A1 n1 c1, .slice A2 n2 c2] 79)) = wb at *
  have HF : Hid (∀ V, Below wb.heap.size wb V → V.heap[w.heap.size]? = some (.cells #[.slice A1 n1 c1, .slice A2 n2 c2] 79 (0, 0))) := fun V hb => (hb.block _ (Array.getElem?_eq_some_iff.1 Hrb.out).1).trans Hrb.out
  have hzb := Hba.out.size
  go_enter Tryz.func33, Tryz.ntmps33
  go_wp2_with fail
  try simp only [hwb]
  clear hwb
  go_wp2_with fail
  clear f0 f1
  go_loopw [3, 4, 5, 6] (fun v i _ _ wr => ∃ k A' c', k ≤ n1 ∧ v = .slice A' k c' ∧ i = .int .i64 k ∧ Hid (wr.ownsRow wb.heap.size 9 1 (.slice A' k c') k (((p.decls.take k).map declS).map fun s => .string (bytes s))) ∧ Hid (Below wb.heap.size wb wr)) (fun _ i _ _ _ => n1 - (intOf i).toNat)
  case atStart => exact ⟨0, none, 0, by omega, rfl, rfl, World.ownsRow_nil _ _ _ _, Below.refl _ _⟩
  case round =>
    obtain ⟨k, A', c', hk, rfl, rfl, HO, HBr⟩ := hrel
    have i0 : (0 : Int) ≤ (k : Int) := by omega
    obtain ⟨W, hW⟩ : ∃ W, W = wr := ⟨_, rfl⟩
    subst hW
    obtain ⟨f0, f1⟩ := facts2 (HF.out W HBr.out)
    by_cases hlt : k < n1
    · have i1 : (k : Int) < (n1 : Int) := by omega
      obtain ⟨b, o, x, a, hA, hb, hx, hd, x0, x1, -⟩ := (HH.out.keep HBr.out).decls.decl_at hlt
      try simp only at hA
      subst hA
      obtain ⟨aA, an, ac⟩ := a
      dsimp only [Hd.v] at x0 x1
      have hxm := List.mem_of_getElem? hx.out
      obtain ⟨h4k, hkl6, hkk⟩ := declB_parts (HFd.out x hxm)
      have h4 := single_le h4k
      have Hkk := Lib.hid hkk
      have hal : x.kinds.length = an := hd.kinds.1
      have Hal := Lib.hid hal
      have ha6 : an ≤ 6 := by omega
      have HC : Hid (∀ V, Below W.heap.size W V → V.cell? ⟨b, o + k * 3, none⟩ = some (.string x.rel) ∧ V.cell? ⟨b, o + k * 3 + 1, none⟩ = some (.slice aA an ac) ∧ SliceIs Enc.int V V.heap.size aA an ac x.kinds) := fun V hb => ⟨below_cell hb x0, below_cell hb x1, hd.kinds.keep hb⟩
      have HSt : Hid (((p.decls.take (k + 1)).map declS).map (fun s => Value.string (bytes s)) = ((p.decls.take k).map declS).map (fun s => .string (bytes s)) ++ [.string (bytes (declS x))]) := by
        show _ = _
        rw [List.take_add_one, hx.out]; simp
      have HH0 : Hid (⟨#[114, 101, 108, 32]⟩ ++ x.rel ++ ⟨#[40]⟩ = bytes (declH x ++ kindsJ x.kinds 0)) := by
        show _ = _
        have e0 : kindsJ x.kinds 0 = [] := by simp [kindsJ, Lib.join, List.intercalate]
        rw [e0, List.append_nil]
        show bytes [114, 101, 108, 32] ++ x.rel ++ bytes [40] = _
        conv => lhs; rw [← bytes_of x.rel]
        rw [bytes_app, bytes_app]; rfl
      have HEn : Hid (∀ s, s = bytes (declH x ++ kindsJ x.kinds an) → s ++ ⟨#[41, 46]⟩ = bytes (declS x)) := by
        rintro s rfl
        show bytes (declH x ++ kindsJ x.kinds an) ++ bytes [41, 46] = _
        rw [bytes_app, declS_H, hal]
      have HSz : Hid (∀ j, (bytes (declH x ++ kindsJ x.kinds j)).size ≤ 5000) := by
        intro j
        have h5 := kindsJ_len (l := x.kinds) (by omega) j
        rw [bytes_size]
        unfold declH
        simp only [List.length_append, List.length_cons, List.length_nil, ba_len]
        omega
      have z1 : ¬ (9223372036854775807 < 4 + x.rel.size) := by omega
      have z2 : ¬ (9223372036854775807 < 4 + x.rel.size + 1) := by omega
      have z3 : ¬ (9223372036854775806 < 4 + x.rel.size) := by omega
      clear hx hd hkk h4k hal hxm hkl6
      go_wp2_with fail
      rw [HH0.out]
      clear f0 f1 x0 x1 z1 z2 z3 HH0
      go_loopw [5, 6] (fun v i wr => ∃ (j : Nat) (s : ByteArray), j ≤ an ∧ v = .string s ∧ i = .int .i64 j ∧ Hid (s = bytes (declH x ++ kindsJ x.kinds j)) ∧ Hid (Below W.heap.size W wr)) (fun _ i _ => an - (intOf i).toNat)
      case atStart => exact ⟨0, _, by omega, rfl, rfl, rfl, Below.refl _ _⟩
      case round =>
        obtain ⟨j, s, hj, rfl, rfl, Hs, HBj⟩ := hrel
        have j0 : (0 : Int) ≤ (j : Int) := by omega
        obtain ⟨g0, g1⟩ := facts2 (HF.out wr (below_next HBr.out HBj.out))
        obtain ⟨y0, y1, hks⟩ := HC.out wr HBj.out
        have hss : s.size ≤ 5000 := by rw [Hs.out]; exact HSz.out j
        by_cases hlt2 : j < an
        · have j1 : (j : Int) < (an : Int) := by omega
          obtain ⟨bb, oo, y, hAA, hbb, hy, yc, _⟩ := hks.int_at hlt2
          subst hAA
          have hky := Hkk.out y (List.mem_of_getElem? hy.out)
          have hst := kindsJ_step hy.out
          obtain ⟨s1, Hs1⟩ : ∃ s1, Hid (s1 = s ++ bytes (if j = 0 then [] else sep2)) := ⟨_, rfl⟩
          have hs1s : s1.size ≤ 5002 := by
            have h4 := congrArg ByteArray.size Hs1.out
            rw [ByteArray.size_append, bytes_size] at h4
            split at h4
            · simp only [List.length_nil] at h4; omega
            · have : sep2.length = 2 := rfl
              omega
          have HNx : Hid (s1 ++ bytes (kindS y) = bytes (declH x ++ kindsJ x.kinds (j + 1))) := by
            show _ = _
            rw [hst, Hs1.out, Hs.out, bytes_app, bytes_app]
            simp only [List.append_assoc]
          have HBa : Hid (∀ V : World, V = wr → Below W.heap.size W (V.alloc (.cells #[.string ⟨#[]⟩, .string ⟨#[105, 110, 116]⟩, .string ⟨#[115, 121, 109]⟩] 9))) := fun V e => by subst e; exact belowA HBj.out _
          clear hy hks hst Hs
          go_upto_if 35 with fail
          go_cut [5] (fun v W => v = .string s1 ∧ W = wr)
          case first =>
            by_cases hj0 : j = 0
            · have i2 : ¬ (0 : Int) < (j : Int) := by omega
              have HS1 : Hid (s1 = s) := by show _ = _; rw [Hs1.out, if_pos hj0]; exact ByteArray.append_empty
              clear Hs1 hj0
              go_wp2_with fail
              go_meet
              exact ⟨by rw [HS1.out], rfl⟩
            · have i2 : (0 : Int) < (j : Int) := by omega
              have HS1 : Hid (s1 = s ++ ⟨#[44, 32]⟩) := by show _ = _; rw [Hs1.out, if_neg hj0]; rfl
              have hz1 : ¬ (9223372036854775807 < s.size + 2) := by omega
              have hz3 : ¬ (9223372036854775805 < s.size) := by omega
              clear hj0 Hs1
              go_wp2_with fail
              go_meet
              exact ⟨by rw [HS1.out], rfl⟩
          case rest =>
            obtain ⟨rfl, rfl⟩ := hcut
            clear Hs1 hss
            have k0 := cellA (o := .cells #[.string ⟨#[]⟩, .string ⟨#[105, 110, 116]⟩, .string ⟨#[115, 121, 109]⟩] 9) g0
            have k1 := cellA (o := .cells #[.string ⟨#[]⟩, .string ⟨#[105, 110, 116]⟩, .string ⟨#[115, 121, 109]⟩] 9) y1
            have k2 := cellA (o := .cells #[.string ⟨#[]⟩, .string ⟨#[105, 110, 116]⟩, .string ⟨#[115, 121, 109]⟩] 9) yc
            have hz1 : ¬ (9223372036854775807 < s1.size + 3) := by omega
            have hz2 : ¬ (9223372036854775804 < s1.size) := by omega
            have HBn2 := Lib.hid (HBa.out _ rfl)
            rcases hky with rfl | rfl
            · have HN2 : Hid (s1 ++ ⟨#[105, 110, 116]⟩ = bytes (declH x ++ kindsJ x.kinds (j + 1))) := HNx.out
              clear HNx
              go_wp2_with fail
              go_roundw
              case rel => exact ⟨j + 1, _, by omega, rfl, by go_num, HN2, HBn2⟩
              case measure => simp [intOf]; omega
            · have HN2 : Hid (s1 ++ ⟨#[115, 121, 109]⟩ = bytes (declH x ++ kindsJ x.kinds (j + 1))) := HNx.out
              clear HNx
              go_wp2_with fail
              go_roundw
              case rel => exact ⟨j + 1, _, by omega, rfl, by go_num, HN2, HBn2⟩
              case measure => simp [intOf]; omega
        · have j1 : ¬ (j : Int) < (an : Int) := by omega
          obtain rfl : j = an := by omega
          obtain ⟨v', w', hrun, hown', hb'⟩ := str_push (w := wb) (bytes (declS x)) (by omega) (below_next HBr.out HBj.out) (own_below HO.out HBj.out)
          obtain ⟨A4, c4, rfl⟩ := own_form hown'
          rw [← HSt.out] at hown'
          rw [← HEn.out s Hs.out] at hrun
          have HRun := Lib.hid hrun
          have HOn := Lib.hid hown'
          have hz1 : ¬ (9223372036854775807 < s.size + 2) := by omega
          have hz2 : ¬ (9223372036854775805 < s.size) := by omega
          clear hrun hown' HSt HEn HSz hks
          have HBn := Lib.hid hb'
          go_wp2_with (at_builtin; refine wpList_append_run rfl _ _ _ rfl _ _ rfl rfl (HRun.out _) ?_)
          go_roundw
          case rel => exact ⟨k + 1, A4, c4, by omega, rfl, by go_num, HOn, HBn⟩
          case measure => simp [intOf]; omega
    · have i1 : ¬ (k : Int) < (n1 : Int) := by omega
      obtain rfl : k = n1 := by omega
      have HO1 : Hid (W.ownsRow wb.heap.size 9 1 (.slice A' k c') k ((p.decls.map declS).map fun s => .string (bytes s))) := by
        have := HO.out
        rwa [List.take_of_length_le (by rw [Hn1.out]; exact Nat.le_refl _)] at this
      clear HO
      go_wp2_with fail
      clear f0 f1
      go_loopw [3, 7] (fun v i wr => ∃ j A2' c2', j ≤ n2 ∧ v = .slice A2' (k + j) c2' ∧ i = .int .i64 j ∧ Hid (wr.ownsRow wb.heap.size 9 1 (.slice A2' (k + j) c2') (k + j) ((p.decls.map declS ++ (p.rules.take j).map ruleS).map fun s => .string (bytes s))) ∧ Hid (Below wb.heap.size wb wr)) (fun _ i _ => n2 - (intOf i).toNat)
      case atStart => exact ⟨0, A', c', by omega, rfl, rfl, (by show World.ownsRow _ _ _ _ _ _ _; simpa using HO1.out), HBr⟩
      case round =>
        obtain ⟨j, A2', c2', hj, rfl, rfl, HOj, HBj⟩ := hrel
        have j0 : (0 : Int) ≤ (j : Int) := by omega
        obtain ⟨f0, f1⟩ := facts2 (HF.out wr HBj.out)
        by_cases hlt2 : j < n2
        · have j1 : (j : Int) < (n2 : Int) := by omega
          obtain ⟨b, o, x, a, m, hA, hb, hx, hd, x0, x1, x2, x3, x4, x5⟩ := (HH.out.keep HBj.out).rules.rule_at hlt2
          try simp only at hA
          subst hA
          obtain ⟨aA, an, ac⟩ := a
          obtain ⟨mA, mn, mc⟩ := m
          dsimp only [Hd.v] at x0 x1 x2 x3 x4 x5
          have hrr := HFr.out x (List.mem_of_getElem? hx.out)
          have hd1 := ruleS_bound hrr
          have HC := Lib.hid (refRule_any d x aA an ac mA mn mc wr hd hrr (by omega))
          have HSt : Hid ((p.decls.map declS ++ (p.rules.take (j + 1)).map ruleS).map (fun s => Value.string (bytes s)) = (p.decls.map declS ++ (p.rules.take j).map ruleS).map (fun s => .string (bytes s)) ++ [.string (bytes (ruleS x))]) := by
            show _ = _
            rw [List.take_add_one, hx.out]; simp
          clear hd hx hrr hd1
          generalize bytes (ruleS x) = dx at HC HSt
          go_wp2_with fail
          refine HC.out.mono ?_
          rintro r w2 ⟨rfl, hq2⟩
          obtain ⟨v', w', hrun, hown', hb'⟩ := str_push (w := wb) dx (by omega) (below_next HBj.out hq2) (own_below HOj.out hq2)
          obtain ⟨A4, c4, rfl⟩ := own_form hown'
          rw [← HSt.out] at hown'
          have HRun := Lib.hid hrun
          have HOn : Hid (w'.ownsRow wb.heap.size 9 1 (.slice A4 (k + (j + 1)) c4) (k + (j + 1)) ((p.decls.map declS ++ (p.rules.take (j + 1)).map ruleS).map fun s => .string (bytes s))) := hown'
          clear hrun hown' HSt HC x0 x1 x2 x3 x4 x5 f0 f1
          have HBn := Lib.hid hb'
          go_wp2_with (at_builtin; refine wpList_append_run rfl _ _ _ rfl _ _ rfl rfl (HRun.out _) ?_)
          go_roundw
          case rel => exact ⟨j + 1, A4, c4, by omega, rfl, by go_num, HOn, HBn⟩
          case measure => simp [intOf]; omega
        · have j1 : ¬ (j : Int) < (n2 : Int) := by omega
          obtain rfl : j = n2 := by omega
          have HE : Hid (P (.returned (.slice A2' (k + j) c2')) wr) := by
            show P _ _
            rw [HP.out]
            have hlen : (linesS p).length = k + j := by simp [linesS, Hn1.out, Hn2.out]
            have := HOj.out
            rw [List.take_of_length_le (by rw [Hn2.out]; exact Nat.le_refl _)] at this
            refine ⟨A2', c2', by rw [hlen], ?_, below_next Hba.out HBj.out⟩
            rw [hlen]
            exact own_low this hzb
          go_wp2_with fail
          exact HE.out
end Go.Proofs.YtplekbpmfaghbaaGreatDoor

namespace Go.Proofs.YtplekbpmfaghbaaGreatDoor
open Go.RowKit
set_option maxRecDepth 100000 in
set_option maxHeartbeats 4000000 in
theorem refFormed_any (d : Nat) (x : GProg) (a b : Hd) (w : World) (h : ProgAt d w w.heap.size x a b) : Calls Tryz.prog 32 #[.agg #[a.v, b.v]] w (RetBool (formedB x) w) := by
  obtain ⟨P, HP⟩ : ∃ P, Hid (P = RetBool (formedB x) w) := ⟨_, rfl⟩
  have HBad : Hid (formedB x = false → ∀ w', Below w.heap.size w w' → P (.returned (.bool false)) w') := fun h w' hb => by rw [HP.out, h]; exact ⟨rfl, hb⟩
  have HGood : Hid (formedB x = true → ∀ w', Below w.heap.size w w' → P (.returned (.bool true)) w') := fun h w' hb => by rw [HP.out, h]; exact ⟨rfl, hb⟩
  rw [← HP.out]
  have hn := h.decls.bound
  have hm := h.rules.bound
  obtain ⟨A, n, c⟩ := a
  obtain ⟨B, m, e⟩ := b
  have Hlen : Hid (x.decls.length = n) := h.decls.1
  have Hlen2 : Hid (x.rules.length = m) := h.rules.1
  have HK := Lib.hid h
  have HBD : Hid (x.decls.all declB = false → ∀ w', Below w.heap.size w w' → P (.returned (.bool false)) w') := fun h => HBad.out (by unfold formedB; rw [h]; simp)
  have HBR : Hid (x.rules.all rightRule = false → ∀ w', Below w.heap.size w w' → P (.returned (.bool false)) w') := fun h => HBad.out (by unfold formedB; rw [h]; simp)
  have hrb : (w.alloc (.cells #[.slice A n c, .slice B m e] 79)).heap[w.heap.size]? = some (.cells #[.slice A n c, .slice B m e] 79 (0, 0)) := heapNew rfl
  have hba : Below w.heap.size w (w.alloc (.cells #[.slice A n c, .slice B m e] 79)) := belowA (Below.refl _ _) _
  obtain ⟨b0, b1⟩ := facts2 hrb
  clear h HP
  show Calls Tryz.prog 32 #[.agg #[.slice A n c, .slice B m e]] w P
  by_cases h32 : 32 < n
  · have h32' : (32 : Int) < (n : Int) := by omega
    have HG := Lib.hid (HBad.out (by unfold formedB; have := Hlen.out; have h9 : ¬ x.decls.length ≤ 32 := by omega
                                     simp [h9]))
    clear HBad HGood HBD HBR
    go_enter Tryz.func32, Tryz.ntmps32
    go_wp2_with fail
    first | exact HG.out _ hba | (go_ret; exact HG.out _ hba)
  have h32' : ¬ (32 : Int) < (n : Int) := by omega
  by_cases h64 : 64 < m
  · have h64' : (64 : Int) < (m : Int) := by omega
    have HG := Lib.hid (HBad.out (by unfold formedB; have := Hlen2.out; have h9 : ¬ x.rules.length ≤ 64 := by omega
                                     simp [h9]))
    clear HBad HGood HBD HBR
    go_enter Tryz.func32, Tryz.ntmps32
    go_wp2_with fail
    first | exact HG.out _ hba | (go_ret; exact HG.out _ hba)
  have h64' : ¬ (64 : Int) < (m : Int) := by omega
  have HG0 : Hid (x.decls.all declB = true → x.rules.all rightRule = true → ∀ w', Below w.heap.size w w' → P (.returned (.bool true)) w') := fun h1 h2 => HGood.out (by
    unfold formedB
    have h8 : x.decls.length ≤ 32 := by have := Hlen.out; omega
    have h9 : x.rules.length ≤ 64 := by have := Hlen2.out; omega
    rw [h1, h2]; simp [h8, h9])
  have HR0 := Lib.hid hrb
  have HB0 := Lib.hid hba
  clear HBad HGood
  go_enter Tryz.func32, Tryz.ntmps32
  go_wp2_with fail
  clear b0 b1 hrb hba
  go_loopw [3] (fun i wr => ∃ k : Nat, k ≤ n ∧ i = .int .i64 k ∧ Hid ((x.decls.take k).all declB = true) ∧ Hid (wr.heap[w.heap.size]? = some (.cells #[.slice A n c, .slice B m e] 79 (0, 0))) ∧ Hid (Below w.heap.size w wr)) (fun i _ => n - (intOf i).toNat)
  case atStart => exact ⟨0, by omega, rfl, by show _ = _; simp, HR0, HB0⟩
  case round =>
    clear HR0 HB0
    obtain ⟨k, hk, rfl, HA, HR, HBr⟩ := hrel
    have i0 : (0 : Int) ≤ (k : Int) := by omega
    obtain ⟨b0, b1⟩ := facts2 HR.out
    by_cases hlt : k < n
    · have i1 : (k : Int) < (n : Int) := by omega
      obtain ⟨bb, o, y, aa, hAA, hbb, hy, hat, y0, y1, y2⟩ := (HK.out.keep HBr.out).decls.decl_at hlt
      try simp only at hAA
      subst hAA
      obtain ⟨aA, an, ac⟩ := aa
      dsimp only [Hd.v] at y1
      have hna := hat.kinds.bound
      have Hky : Hid (y.kinds.length = an) := hat.kinds.1
      have HT1 : Hid (declB y = true → (x.decls.take (k + 1)).all declB = true) := fun h => by rw [all_take hy.out, HA.out, h]; rfl
      have HT2 := Lib.hid (fun h => HBD.out (all_false hy.out h))
      have HN := Lib.hid (refNamed_any y.rel (wr.alloc (.cells #[.string y.rel, .slice aA an ac, .int .i64 y.pos] 156)))
      have hba : Below wr.heap.size wr (wr.alloc (.cells #[.string y.rel, .slice aA an ac, .int .i64 y.pos] 156)) := belowA (Below.refl _ _) _
      have HRa := Lib.hid (heapOld (o := .cells #[.string y.rel, .slice aA an ac, .int .i64 y.pos] 156) HR.out)
      have hX : (wr.alloc (.cells #[.string y.rel, .slice aA an ac, .int .i64 y.pos] 156)).heap[wr.heap.size]? = some (.cells #[.string y.rel, .slice aA an ac, .int .i64 y.pos] 156 (0, 0)) := heapNew rfl
      obtain ⟨z0, z1, z2⟩ := facts3 hX
      have HXa := Lib.hid hX
      have HBa := Lib.hid (below_next HBr.out hba)
      have HKy := Lib.hid (hat.kinds.mono' hba.size (Kept.of hba.block))
      clear hy hat hba hX
      go_wp2_with fail
      refine HN.out.mono ?_
      rintro r w1 ⟨rfl, hb1⟩
      have HRb := Lib.hid ((hb1.block _ (Array.getElem?_eq_some_iff.1 HRa.out).1).trans HRa.out)
      have HXb := Lib.hid ((hb1.block _ (Array.getElem?_eq_some_iff.1 HXa.out).1).trans HXa.out)
      have HBb := Lib.hid (below_next HBa.out hb1)
      have HKz := Lib.hid (HKy.out.mono' hb1.size (Kept.of hb1.block))
      clear b0 b1 z0 z1 z2 y0 y1 y2 HRa HXa HBa HKy hb1 HN
      obtain ⟨b0, b1⟩ := facts2 HRb.out
      obtain ⟨z0, z1, z2⟩ := facts3 HXb.out
      cases hq : singleB 2 y.rel with
      | false =>
        have HG := Lib.hid (HT2.out (by unfold declB; rw [hq]; rfl))
        clear hq HT1 HT2 HG0 HBD HBR
        go_wp2_with fail
        first | exact HG.out _ HBb.out | (go_ret; exact HG.out _ HBb.out)
      | true =>
        by_cases h6 : 6 < an
        · have h6' : (6 : Int) < (an : Int) := by omega
          have HG := Lib.hid (HT2.out (by unfold declB; have := Hky.out; have h9 : ¬ y.kinds.length ≤ 6 := by omega
                                          simp [h9]))
          clear hq HT1 HT2 HG0 HBD HBR
          go_wp2_with fail
          first | exact HG.out _ HBb.out | (go_ret; exact HG.out _ HBb.out)
        have h6' : ¬ (6 : Int) < (an : Int) := by omega
        have HT3 : Hid (y.kinds.all kindB = true → (x.decls.take (k + 1)).all declB = true) := fun h => HT1.out (by unfold declB; rw [hq, h]; simp; have := Hky.out; omega)
        have HT4 : Hid (y.kinds.all kindB = false → ∀ w', Below w.heap.size w w' → P (.returned (.bool false)) w') := fun h => HT2.out (by unfold declB; rw [h]; simp)
        obtain ⟨gx, Hgx⟩ : ∃ gx, Hid (wr.heap.size = gx) := ⟨_, rfl⟩
        rw [Hgx.out] at z0 z1 z2 HXb ⊢
        clear hq HT1 HT2
        go_wp2_with fail
        clear z0 z1 z2 b0 b1
        go_loopw [5] (fun i W => ∃ q : Nat, q ≤ an ∧ i = .int .i64 q ∧ Hid ((y.kinds.take q).all kindB = true) ∧ Hid (W = w1)) (fun i _ => an - (intOf i).toNat)
        case atStart => exact ⟨0, by omega, rfl, by show _ = _; simp, rfl⟩
        case round =>
          obtain ⟨q, hqn, rfl, HQ, HW⟩ := hrel
          have hw := HW.out
          subst hw
          clear HW
          have q0 : (0 : Int) ≤ (q : Int) := by omega
          obtain ⟨z0, z1, z2⟩ := facts3 HXb.out
          by_cases hlq : q < an
          · have q1 : (q : Int) < (an : Int) := by omega
            obtain ⟨b5, o5, kd, rfl, hb5, hkd, r0, rf⟩ := HKz.out.int_at hlq
            by_cases hk1 : kd = 1
            · have e1 : (kd != 1) = false := by simp [hk1]
              have HQ2 : Hid ((y.kinds.take (q + 1)).all kindB = true) := by show _ = _; rw [all_take hkd.out, HQ.out]; simp [kindB, hk1]
              clear hkd hk1
              go_wp2_with fail
              go_roundw
              case rel => exact ⟨q + 1, by omega, by go_num, HQ2, by first | exact (rfl : _ = _) | exact (trivial : True)⟩
              case measure => simp [intOf]; omega
            · have e1 : (kd != 1) = true := by simp [hk1]
              by_cases hk2 : kd = 2
              · have e2 : (kd != 2) = false := by simp [hk2]
                have HQ2 : Hid ((y.kinds.take (q + 1)).all kindB = true) := by show _ = _; rw [all_take hkd.out, HQ.out]; simp [kindB, hk2]
                clear hkd hk1 hk2
                go_wp2_with fail
                go_roundw
                case rel => exact ⟨q + 1, by omega, by go_num, HQ2, by first | exact (rfl : _ = _) | exact (trivial : True)⟩
                case measure => simp [intOf]; omega
              · have e2 : (kd != 2) = true := by simp [hk2]
                have HG := Lib.hid (HT4.out (all_false hkd.out (by simp [kindB, hk1, hk2])))
                clear hkd hk1 hk2 HT3 HT4 HG0 HBD HBR
                go_wp2_with fail
                first | exact HG.out _ HBb.out | (go_ret; exact HG.out _ HBb.out)
          · have q1 : ¬ (q : Int) < (an : Int) := by omega
            have HA2 := Lib.hid (HT3.out (by have := HQ.out; rwa [List.take_of_length_le (by have := Hky.out; omega)] at this))
            clear HT3 HT4
            go_wp2_with fail
            go_roundw
            case rel => exact ⟨k + 1, by omega, by go_num, HA2, HRb, HBb⟩
            case measure => simp [intOf]; omega
    · have i1 : ¬ (k : Int) < (n : Int) := by omega
      have HG1 := Lib.hid (HG0.out (by have := HA.out; rwa [List.take_of_length_le (by have := Hlen.out; omega)] at this))
      clear HG0 HBD HA
      go_wp2_with fail
      clear b0 b1
      go_loopw [6] (fun i wr => ∃ k : Nat, k ≤ m ∧ i = .int .i64 k ∧ Hid ((x.rules.take k).all rightRule = true) ∧ Hid (wr.heap[w.heap.size]? = some (.cells #[.slice A n c, .slice B m e] 79 (0, 0))) ∧ Hid (Below w.heap.size w wr)) (fun i _ => m - (intOf i).toNat)
      case atStart => exact ⟨0, by omega, rfl, by show _ = _; simp, HR, HBr⟩
      case round =>
        clear HR HBr
        obtain ⟨k2, hk2, rfl, HA, HR, HBr⟩ := hrel
        have j0 : (0 : Int) ≤ (k2 : Int) := by omega
        obtain ⟨b0, b1⟩ := facts2 HR.out
        by_cases hlt2 : k2 < m
        · have j1 : (k2 : Int) < (m : Int) := by omega
          obtain ⟨bb, o, y, ak, mk, hAA, hbb, hy, hat, y0, y1, y2, y3, y4, y5⟩ := (HK.out.keep HBr.out).rules.rule_at hlt2
          try simp only at hAA
          subst hAA
          have HL := Lib.hid (refRightRule_any d y ak mk wr hat)
          have HT1 : Hid (rightRule y = true → (x.rules.take (k2 + 1)).all rightRule = true) := fun h => by rw [all_take hy.out, HA.out, h]; rfl
          have HT2 := Lib.hid (fun h => HBR.out (all_false hy.out h))
          clear hy hat
          go_wp2_with fail
          refine HL.out.mono ?_
          rintro r w2 ⟨rfl, hb2⟩
          have HB2 := Lib.hid (below_next HBr.out hb2)
          have HR3 := Lib.hid ((hb2.block _ (Array.getElem?_eq_some_iff.1 HR.out).1).trans HR.out)
          clear hb2 HL b0 b1 y0 y1 y2 y3 y4 y5
          cases hq : rightRule y with
          | false =>
            have HB3 := Lib.hid (HT2.out hq)
            clear hq HT1 HT2 HG1 HBR
            go_wp2_with fail
            first | exact HB3.out _ HB2.out | (go_ret; exact HB3.out _ HB2.out)
          | true =>
            have HA2 := Lib.hid (HT1.out hq)
            clear hq HT1 HT2
            go_wp2_with fail
            go_roundw
            case rel => exact ⟨k2 + 1, by omega, by go_num, HA2, HR3, HB2⟩
            case measure => simp [intOf]; omega
        · have j1 : ¬ (k2 : Int) < (m : Int) := by omega
          have HG3 := Lib.hid (HG1.out (by have := HA.out; rwa [List.take_of_length_le (by have := Hlen2.out; omega)] at this))
          clear HG1 HBR
          go_wp2_with fail
          first | exact HG3.out _ HBr.out | (go_ret; exact HG3.out _ HBr.out)
end Go.Proofs.YtplekbpmfaghbaaGreatDoor

namespace Go.Proofs.YtplekbpmfaghbaaGreatDoor
open Go.RowKit
theorem rows_is {α : Type} {E : Enc α} {w : World} {base e : Nat} {A : Option Addr} {k c : Nat} {L : List (α × List Value)} (h : w.ownsRow base e E.sz (.slice A k c) k (L.flatMap (·.2))) (hl : L.length = k) (hk : k ≤ reachN) (hf : ∀ p ∈ L, E.ok w w.heap.size p.2 p.1) : SliceIs E w w.heap.size A k c (L.map (·.1)) :=
  SliceIs.of_own (E := E) (l := L.map (·.1)) h (by simp [hl]) hk (fun i x hx => by
    rw [List.getElem?_map, Option.map_eq_some_iff] at hx
    obtain ⟨p, hp, rfl⟩ := hx
    rw [flat_piece2 E.sz L i p (fun q hq => E.len (hf q hq)) hp]
    exact hf p (List.mem_of_getElem? hp))
theorem decl_info : (Tryz.prog.info? 156).map (fun i => (i.zero, i.size, i.bytes)) = some (some (.agg #[.string ⟨#[]⟩, .slice none 0 0, .int .i64 0]), 3, 48) := by kernel_rfl
theorem decl_push {W : World} {base : Nat} {A : Option Addr} {c k : Nat} {xs : List Value} (hown : W.ownsRow base 156 3 (.slice A k c) k xs) (q : GDecl) (aA : Option Addr) (an ac : Nat) (hn : k + 1 ≤ 1000000) (hb : base ≤ W.heap.size) :
    ∃ A' c' w', (∀ ty, (Builtin.append_ #[76, 76] ty #[.slice A k c, .slice (some ⟨W.heap.size, 0, none⟩) 1 1]).run Tryz.prog (W.alloc (.cells #[.string q.rel, .slice aA an ac, .int .i64 q.pos] 156)) = .ok (.slice A' (k + 1) c') w') ∧
      w'.ownsRow base 156 3 (.slice A' (k + 1) c') (k + 1) (xs ++ declC q ⟨aA, an, ac⟩) ∧ Below base W w' ∧ KeepsT 156 W w' := by
  have ho : (W.alloc (.cells #[.string q.rel, .slice aA an ac, .int .i64 q.pos] 156)).ownsRow base 156 3 (.slice A k c) k xs := own_below hown (belowA (Below.refl _ _) _)
  obtain ⟨v', w', h1, h2, h3, h4⟩ := run_push_at (P := Tryz.prog) (ty := 76) (W.alloc (.cells #[.string q.rel, .slice aA an ac, .int .i64 q.pos] 156)) (base := base) Tryz.underlying76 decl_info rfl (by decide) ho W.heap.size (declC q ⟨aA, an, ac⟩) rfl (heapNew rfl) (by intro u hu; simp at hu; rcases hu with rfl | rfl | rfl <;> rfl)
    (by simp [maxLen]; omega) (by omega) (by simp; omega)
  obtain ⟨A', c', rfl⟩ := own_form h2
  refine ⟨A', c', w', fun _ => h1, h2, ?_, ?_⟩
  · exact ((Below.refl base W).alloc hb _).trans h4
  · have k1 : KeepsT 156 W (W.alloc (.cells #[.string q.rel, .slice aA an ac, .int .i64 q.pos] 156)) := KeepsT.of_below (belowA (Below.refl _ _) _)
    refine k1.trans ?_
    intro b cs t fr hbb ht
    refine ((grown_out h3).block b (Array.getElem?_eq_some_iff.1 hbb).1 (fun hbo => ?_)).trans hbb
    obtain ⟨cur, hc⟩ := own_type ho (b := b) (by simpa using hbo)
    rw [hc] at hbb
    injection hbb with hbb; injection hbb with _ h5 _; exact ht h5.symm
theorem set_first {W : World} {g e : Nat} {a b v : Value} (h : W.heap[g]? = some (.cells #[a, b] e (0, 0))) : (W.setCell ⟨g, 0, none⟩ v).heap[g]? = some (.cells #[v, b] e (0, 0)) := by
  simp [World.setCell, Array.getElem?_modify, h]
end Go.Proofs.YtplekbpmfaghbaaGreatDoor
