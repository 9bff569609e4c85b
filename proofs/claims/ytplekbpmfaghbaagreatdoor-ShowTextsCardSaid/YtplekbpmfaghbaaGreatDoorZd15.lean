/- My own texts SFrame, ShowDL, ShowA, ShowL, ShowR, as far as this claim needs them. -/
import Derived.Test.YtplekbpmfaghbaaGreatDoorZd4
import Derived.Test.YtplekbpmfaghbaaGreatDoorZd5
import Derived.Test.YtplekbpmfaghbaaGreatDoorZd10
import Derived.Test.YtplekbpmfaghbaaGreatDoorZd11
import Derived.Test.YtplekbpmfaghbaaGreatDoorZd12
import Derived.Test.YtplekbpmfaghbaaGreatDoorZd13
import Derived.Test.YtplekbpmfaghbaaGreatDoorZd14
set_option linter.unusedVariables false
set_option linter.unusedSimpArgs false
namespace Go.Proofs.YtplekbpmfaghbaaGreatDoor
open Go.ChangeShapes Go.WideShapes Go.ChangeAt Go.RowKit
set_option linter.unusedVariables false
/-- the first seven of a laid list -/
theorem lexW_of_seven {W : World} {rest : List (String × DataW Unit)} (h : laidMet Tryz.prog (("math/bits.deBruijn32tab", Rows.laid_math_bits_deBruijn32tab) :: ("math/bits.deBruijn64tab", Rows.laid_math_bits_deBruijn64tab) :: ("internal/strconv.uint64pow10", Rows.laid_internal_strconv_uint64pow10) :: ("strconv.ErrRange", Rows.laid_strconv_ErrRange) :: ("strconv.ErrSyntax", Rows.laid_strconv_ErrSyntax) :: ("corollary/lex.keys", Rows.laid_corollary_lex_keys) :: ("corollary/lex.signs", Rows.laid_corollary_lex_signs) :: rest) W) : LexW W := by
  have h3 := laidMet.tail (laidMet.tail (laidMet.tail h))
  have h5 := laidMet.tail (laidMet.tail h3)
  have h6 := laidMet.tail h5
  refine ⟨TabW.of (Lib.tabIs_of_head gP gPT Tryz.underlying291 Tryz.underlying277 (by kernel_rfl) (by kernel_rfl) (rest := ("strconv.ErrRange", Rows.laid_strconv_ErrRange) :: ("strconv.ErrSyntax", Rows.laid_strconv_ErrSyntax) :: ("corollary/lex.keys", Rows.laid_corollary_lex_keys) :: ("corollary/lex.signs", Rows.laid_corollary_lex_signs) :: rest) (by rw [← pow_eq]; exact laidMet.tail (laidMet.tail h))), ?_, ?_, ?_⟩
  · obtain ⟨a0, s0, hv0, -, -, -⟩ := laid_sentinel h3 gER gERT Tryz.underlying57 rowES Tryz.underlying303 Tryz.underlying305 rfl rfl Tryz.underlying9 cellsES cellsStr
    obtain ⟨a1, s1, hv1, -, -, -⟩ := laid_sentinel (laidMet.tail h3) gES gEST Tryz.underlying57 rowES Tryz.underlying303 Tryz.underlying305 rfl rfl Tryz.underlying9 cellsES cellsStr
    exact ⟨⟨_, _, by have h0 := World.var?_cell gES hv1 0; simpa using h0⟩, ⟨_, _, by have h0 := World.var?_cell gER hv0 0; simpa using h0⟩⟩
  · rw [keys_eq] at h5
    exact strs_of_head gK gKT Tryz.underlying275 Tryz.underlying9 (by kernel_rfl) (by kernel_rfl) h5
  · rw [signs_eq] at h6
    exact strs_of_head gS gST Tryz.underlying271 Tryz.underlying9 (by kernel_rfl) (by kernel_rfl) h6
theorem saggs_eq {H : Type} : (Rows.laid_corollary_show_aggs : DataW H) = strsData aggsL := rfl
theorem ssigns_eq {H : Type} : (Rows.laid_corollary_show_signs : DataW H) = strsData sgnsL := rfl
theorem sops_eq {H : Type} : (Rows.laid_corollary_show_ops : DataW H) = strsData opsL := rfl
theorem gSA : Tryz.prog.globalNamed "corollary/show.aggs" = some 2 := by kernel_rfl
theorem gSAT : (Tryz.prog.globals[2]?).map (·.type) = some 227 := by kernel_rfl
theorem gSS : Tryz.prog.globalNamed "corollary/show.signs" = some 0 := by kernel_rfl
theorem gSST : (Tryz.prog.globals[0]?).map (·.type) = some 193 := by kernel_rfl
theorem gSO : Tryz.prog.globalNamed "corollary/show.ops" = some 1 := by kernel_rfl
theorem gSOT : (Tryz.prog.globals[1]?).map (·.type) = some 196 := by kernel_rfl
end Go.Proofs.YtplekbpmfaghbaaGreatDoor

namespace Go.Proofs.YtplekbpmfaghbaaGreatDoor
open Go.RowKit
def kindS (k : Int) : List UInt8 := if k = 1 then [105, 110, 116] else [115, 121, 109]
def declS (x : GDecl) : List UInt8 := [114, 101, 108, 32] ++ x.rel.toList ++ [40] ++ Lib.join (x.kinds.map kindS) sep2 ++ [41, 46]
def linesS (p : GProg) : List (List UInt8) := p.decls.map declS ++ p.rules.map ruleS
def textS (l : List (List UInt8)) : List UInt8 := l.flatMap (fun s => s ++ [10])
theorem textS_snoc (l : List (List UInt8)) (s : List UInt8) : textS (l ++ [s]) = textS l ++ s ++ [10] := by
  simp [textS]
theorem textS_len (c : Nat) : ∀ l : List (List UInt8), (∀ s ∈ l, s.length ≤ c) → (textS l).length ≤ l.length * (c + 1)
  | [], _ => by simp [textS]
  | s :: l, h => by
    have ih := textS_len c l (fun s hs => h s (List.mem_cons_of_mem _ hs))
    have h1 := h s (List.mem_cons_self ..)
    unfold textS at ih ⊢
    rw [List.flatMap_cons, List.length_append, List.length_append, List.length_cons, List.length_cons, List.length_nil, Nat.succ_mul]
    omega
theorem kindS_len (k : Int) : (kindS k).length = 3 := by unfold kindS; split <;> rfl
theorem kinds_sum : ∀ l : List Int, sumLen (l.map kindS) = 5 * l.length
  | [] => rfl
  | k :: l => by
    rw [List.map_cons, sumLen, kinds_sum l, kindS_len, List.length_cons]
    omega
theorem declS_len (x : GDecl) : (declS x).length ≤ 7 + x.rel.size + 5 * x.kinds.length := by
  have h := join_le (x.kinds.map kindS)
  rw [kinds_sum] at h
  unfold declS
  simp only [List.length_append, List.length_cons, List.length_nil, ba_len]
  omega
/-- a program whose lines are not too long -/
structure LineOk (p : GProg) : Prop where
  decls : ∀ x ∈ p.decls, x.rel.size ≤ 75050 ∧ x.kinds.length ≤ 1500
  rules : ∀ x ∈ p.rules, (ruleS x).length ≤ 150005
  nd : p.decls.length ≤ 1500
  nr : p.rules.length ≤ 1500
theorem LineOk.line {p : GProg} (h : LineOk p) : ∀ s ∈ linesS p, s.length ≤ 160000 := by
  intro s hs
  rcases List.mem_append.1 hs with hs | hs
  · obtain ⟨x, hx, rfl⟩ := List.mem_map.1 hs
    have h1 := h.decls x hx
    have h2 := declS_len x
    omega
  · obtain ⟨x, hx, rfl⟩ := List.mem_map.1 hs
    have := h.rules x hx
    omega
theorem LineOk.len {p : GProg} (h : LineOk p) : (linesS p).length ≤ 3000 := by
  have h1 := h.nd
  have h2 := h.nr
  simp only [linesS, List.length_append, List.length_map]
  omega
theorem LineOk.text {p : GProg} (h : LineOk p) (k : Nat) : (textS ((linesS p).take k)).length ≤ 480003000 := by
  have h1 := textS_len 160000 ((linesS p).take k) (fun s hs => h.line s (List.mem_of_mem_take hs))
  have h2 := h.len
  have h3 : ((linesS p).take k).length ≤ 3000 := by rw [List.length_take]; omega
  have := Nat.mul_le_mul_right 160001 h3
  omega
end Go.Proofs.YtplekbpmfaghbaaGreatDoor

namespace Go.Proofs.YtplekbpmfaghbaaGreatDoor
open Go.RowKit
theorem join_ge : ∀ (xs : List (List UInt8)) (x : List UInt8), x ∈ xs → x.length ≤ (Lib.join xs sep2).length
  | [a], x, h => by rw [join_one]; simp at h; rw [h]; exact Nat.le_refl _
  | a :: b :: r, x, h => by
    rw [join_two]
    simp only [List.length_append]
    rcases List.mem_cons.1 h with rfl | h
    · omega
    · have := join_ge (b :: r) x h; omega
theorem aggL_at {g : Nat} (h1 : 1 ≤ g) (h4 : g ≤ 4) : aggsL[g]? = some (aggS (g : Int)) := by
  have : g = 1 ∨ g = 2 ∨ g = 3 ∨ g = 4 := by omega
  rcases this with rfl | rfl | rfl | rfl <;> rfl
set_option maxRecDepth 100000 in
set_option maxHeartbeats 4000000 in
theorem things_any (g : Nat) (col : Int) (A : Option Addr) (n c : Nat) (l : List GTold) (w : World) (ht : SliceIs Enc.told w w.heap.size A n c l) (hW : ShowW w) (hg : g ≤ 4) (hn : n ≤ 100000) (hlen : (thingsS (g : Int) col l).length ≤ 1000000000000) :
    Calls Tryz.prog 111 #[.slice A n c, .int .i64 (g : Int), .int .i64 col] w (RetV (.string (bytes (thingsS (g : Int) col l))) w) := by
  have Hlen := Lib.hid ht.1
  have HT := Lib.hid ht
  have HW := Lib.hid hW
  obtain ⟨S, HS⟩ : ∃ S, Hid (S = thingsS (g : Int) col l) := ⟨_, rfl⟩
  rw [← HS.out]
  have HE : Hid (S = [40] ++ Lib.join (thingsL (g : Int) col 0 l) sep2 ++ [41]) := by rw [HS.out]; rfl
  have HL : Hid ((Lib.join (thingsL (g : Int) col 0 l) sep2).length ≤ 1000000000000) := by
    show _ ≤ _
    have h := hlen
    unfold thingsS at h
    simp only [List.length_append] at h
    omega
  have HLt : Hid (∀ (i : Nat) (t : GTold), l[i]? = some t → (thing (g : Int) col i t).length ≤ 1000000000000) := fun i t hi => by
    have h1 := thingsL_get (g : Int) col l 0 i t hi
    rw [Nat.zero_add] at h1
    exact Nat.le_trans (join_ge _ _ (List.mem_of_getElem? h1)) HL.out
  clear ht hW hlen HS
  go_enter Tryz.func111, Tryz.ntmps111
  go_wp2_with fail
  go_loopw [7, 8, 9, 10, 13] (fun v _ _ _ i wr => ∃ k A' c', k ≤ n ∧ v = .slice A' k c' ∧ i = .int .i64 k ∧ Hid (wr.ownsRow w.heap.size 9 1 (.slice A' k c') k ((thingsL (g : Int) col 0 (l.take k)).map fun s => .string (bytes s))) ∧ Below w.heap.size w wr) (fun _ _ _ _ i _ => n - (intOf i).toNat)
  case atStart => exact ⟨0, none, 0, by omega, rfl, rfl, World.ownsRow_nil _ _ _ _, Below.refl _ _⟩
  case round =>
    obtain ⟨k, A', c', hk, rfl, rfl, how, hbr⟩ := hrel
    have i0 : (0 : Int) ≤ (k : Int) := by omega
    by_cases hlt : k < n
    · have i1 : (k : Int) < (n : Int) := by omega
      obtain ⟨b, o, x, rfl, _, hx, x0, x1, x2, x3, hxo, hxv⟩ := (HT.out.below hbr).told_at hlt
      have HC := Lib.hid (fun (W : World) (hb : Below w.heap.size w W) => shown_any x hxv.2.1 W (HW.out.on hb).tab)
      have HAg := Lib.hid (fun (W : World) (hb : Below w.heap.size w W) => (HW.out.on hb).aggs)
      have HSt : Hid ((thingsL (g : Int) col 0 (l.take (k + 1))).map (fun s => Value.string (bytes s)) = (thingsL (g : Int) col 0 (l.take k)).map (fun s => .string (bytes s)) ++ [.string (bytes (thing (g : Int) col k x))]) := by
        show _ = _
        rw [thingsL_take _ _ hx.out]; simp
      have HTh := Lib.hid (HLt.out k x hx.out)
      have hbx := belowA hbr (.cells #[.string x.x, .int .i64 x.v.k, .int .i64 x.v.n, .string x.v.s] 33)
      have HOw := Lib.hid (how.out.alloc (.cells #[.string x.x, .int .i64 x.v.k, .int .i64 x.v.n, .string x.v.s] 33))
      have HBx := Lib.hid hbx
      clear hx hxo hxv how hbr hbx
      go_wp2_with fail
      refine (HC.out _ HBx.out).mono ?_
      rintro r w2 ⟨rfl, hq2⟩
      have HBw := Lib.hid (below_next HBx.out hq2)
      have HO2 := Lib.hid (own_below HOw.out hq2)
      have HPu : Hid (∀ (s : List UInt8), ∃ A2 c2 w', (∀ ty, (Builtin.append_ #[81, 81] ty #[.slice A' k c', .slice (some ⟨w2.heap.size, 0, none⟩) 1 1]).run Tryz.prog (w2.alloc (.cells #[.string (bytes s)] 9)) = .ok (.slice A2 (k + 1) c2) w') ∧ w'.ownsRow w.heap.size 9 1 (.slice A2 (k + 1) c2) (k + 1) (((thingsL (g : Int) col 0 (l.take k)).map fun s => .string (bytes s)) ++ [.string (bytes s)]) ∧ Below w.heap.size w w') := fun s => by
        obtain ⟨v', w', h1, h2, h3⟩ := str_push (bytes s) (by omega) HBw.out HO2.out
        obtain ⟨A2, c2, rfl⟩ := own_form h2
        exact ⟨A2, c2, w', h1, h2, h3⟩
      clear HC HOw HBx hq2 HO2 x0 x1 x2 x3
      by_cases hc : 0 < (g : Int) ∧ (k : Int) = col
      · obtain ⟨q1, q2'⟩ := hc
        have q2 : ((k : Int) == col) = true := by simp [q2']
        have j0 : (0 : Int) ≤ (g : Int) := by omega
        have j1 : (g : Int) < 5 := by omega
        have HAc := (HAg.out _ HBw.out).cell (aggL_at (by omega) hg)
        have hthl := HTh.out
        have HTe : Hid (bytes (thing (g : Int) col k x) = bytes (aggS (g : Int)) ++ ⟨#[40]⟩ ++ bytes (shownT x) ++ ⟨#[41]⟩) := by
          show _ = bytes (aggS (g : Int)) ++ bytes [40] ++ bytes (shownT x) ++ bytes [41]
          rw [bytes_app, bytes_app, bytes_app]
          unfold thing
          rw [if_pos ⟨q1, q2'⟩]
        obtain ⟨A2, c2, w', hrun, hown', hb'⟩ := HPu.out (thing (g : Int) col k x)
        rw [← HSt.out] at hown'
        rw [HTe.out] at hrun
        have e1 := congrArg ByteArray.size HTe.out
        simp only [ByteArray.size_append, bytes_size] at e1
        have e2 : (bytes (aggS (g : Int))).size = (aggS (g : Int)).length := rfl
        have e3 : (bytes (shownT x)).size = (shownT x).length := rfl
        have e4 : (⟨#[40]⟩ : ByteArray).size = 1 := rfl
        have e5 : (⟨#[41]⟩ : ByteArray).size = 1 := rfl
        rw [e4, e5] at e1
        have hz1 : ¬ (9223372036854775807 < (bytes (aggS (g : Int))).size + 1) := by omega
        have hz2 : ¬ (9223372036854775807 < (bytes (aggS (g : Int))).size + 1 + (bytes (shownT x)).size) := by omega
        have hz3 : ¬ (9223372036854775807 < (bytes (aggS (g : Int))).size + 1 + (bytes (shownT x)).size + 1) := by omega
        have HRun := Lib.hid hrun
        have HOn := Lib.hid hown'
        have HBn := Lib.hid hb'
        clear hrun hown' hb' HPu HTe e1 e2 e3 e4 e5 hthl HTh HSt HAg q2'
        generalize bytes (aggS (g : Int)) = sa at *
        generalize bytes (shownT x) = sx at *
        go_wp2_with (at_builtin; refine wpList_append_run rfl _ _ _ rfl _ _ rfl rfl (HRun.out _) ?_)
        go_roundw
        case rel => exact ⟨k + 1, A2, c2, by omega, rfl, by go_num, HOn.out, HBn.out⟩
        case measure => simp [intOf]; omega
      · have HTe : Hid (thing (g : Int) col k x = shownT x) := by show _ = _; unfold thing; rw [if_neg hc]
        obtain ⟨A2, c2, w', hrun, hown', hb'⟩ := HPu.out (shownT x)
        have hs := HSt.out
        rw [HTe.out] at hs
        rw [← hs] at hown'
        have HRun := Lib.hid hrun
        have HOn := Lib.hid hown'
        have HBn := Lib.hid hb'
        clear hrun hown' hb' HPu HTe hs HTh HSt HAg
        generalize bytes (shownT x) = sx at *
        by_cases q1 : 0 < (g : Int)
        · have q2 : ((k : Int) == col) = false := by
            rw [beq_eq_false_iff_ne]; exact fun e => hc ⟨q1, e⟩
          clear hc
          go_wp2_with (at_builtin; refine wpList_append_run rfl _ _ _ rfl _ _ rfl rfl (HRun.out _) ?_)
          go_roundw
          case rel => exact ⟨k + 1, A2, c2, by omega, rfl, by go_num, HOn.out, HBn.out⟩
          case measure => simp [intOf]; omega
        · clear hc
          go_wp2_with (at_builtin; refine wpList_append_run rfl _ _ _ rfl _ _ rfl rfl (HRun.out _) ?_)
          go_roundw
          case rel => exact ⟨k + 1, A2, c2, by omega, rfl, by go_num, HOn.out, HBn.out⟩
          case measure => simp [intOf]; omega
    · have i1 : ¬ (k : Int) < (n : Int) := by omega
      obtain rfl : k = n := by omega
      have hown := how.out
      rw [List.take_of_length_le (by have := Hlen.out; omega)] at hown
      have HJ := Lib.hid (sjoin_any A' k c' (thingsL (g : Int) col 0 l) wr (by rw [thingsL_len]; exact Hlen.out) (by have := HL.out; omega) (by omega) hown)
      have hjl := HL.out
      generalize Lib.join (thingsL (g : Int) col 0 l) sep2 = jl at HJ HE hjl
      clear how hown HL HLt HW
      go_wp2_with fail
      refine HJ.out.mono ?_
      rintro r w2 ⟨rfl, hq2⟩
      have hbw := below_next hbr hq2
      clear hq2 HJ
      have HSE : Hid (bytes S = ⟨#[40]⟩ ++ bytes jl ++ ⟨#[41]⟩) := by
        show _ = bytes [40] ++ bytes jl ++ bytes [41]
        rw [HE.out, bytes_app, bytes_app]
      have hsz : (bytes jl).size ≤ 1000000000000 := hjl
      generalize bytes jl = js at *
      have hz1 : ¬ (9223372036854775807 < 1 + js.size) := by omega
      have hz2 : ¬ (9223372036854775807 < js.size + 1) := by omega
      have hz3 : ¬ (9223372036854775806 < js.size) := by omega
      have hz4 : ¬ (9223372036854775807 < 1 + js.size + 1) := by omega
      go_wp2_with fail
      go_ret
      exact ⟨by rw [HSE.out]; rfl, hbw⟩
end Go.Proofs.YtplekbpmfaghbaaGreatDoor

namespace Go.Proofs.YtplekbpmfaghbaaGreatDoor
open Go.RowKit
theorem things0_any (A : Option Addr) (n c : Nat) (l : List GTold) (w : World) (ht : SliceIs Enc.told w w.heap.size A n c l) (hW : ShowW w) (hn : n ≤ 100000) (hlen : (thingsS 0 0 l).length ≤ 1000000000000) :
    Calls Tryz.prog 111 #[.slice A n c, .int .i64 0, .int .i64 0] w (RetV (.string (bytes (thingsS 0 0 l))) w) := things_any 0 0 A n c l w ht hW (by omega) hn hlen
theorem sgnL_at {g : Nat} (h1 : 1 ≤ g) (h6 : g ≤ 6) : sgnsL[g]? = some (sgnS (g : Int)) := by
  have : g = 1 ∨ g = 2 ∨ g = 3 ∨ g = 4 ∨ g = 5 ∨ g = 6 := by omega
  rcases this with rfl | rfl | rfl | rfl | rfl | rfl <;> rfl
theorem rightLit_cases {x : GLit} (h : rightLit x = true) : (x.k = 1 ∧ x.atom.args.length ≤ 6) ∨ (x.k = 2 ∧ x.atom.args.length ≤ 6) ∨ (x.k = 3 ∧ 1 ≤ x.op ∧ x.op ≤ 6 ∧ rightE 20 x.l = true ∧ rightE 20 x.r = true) := by
  unfold rightLit at h
  split at h
  · rename_i hk
    simp only [Bool.and_eq_true] at h
    have h1 := h.1
    unfold atomB at h1
    simp only [Bool.and_eq_true, decide_eq_true_eq] at h1
    rcases hk with hk | hk
    · exact .inl ⟨hk, h1.2.1⟩
    · exact .inr (.inl ⟨hk, h1.2.1⟩)
  · simp only [Bool.and_eq_true, decide_eq_true_eq] at h
    obtain ⟨h1, h2, h3, h4⟩ := h
    unfold cmpB2 at h2
    simp only [Bool.and_eq_true, decide_eq_true_eq] at h2
    exact .inr (.inr ⟨h1, by omega, by omega, h3, h4⟩)
set_option maxRecDepth 100000 in
set_option maxHeartbeats 8000000 in
theorem literal_any (d : Nat) (x : GLit) (A : Option Addr) (an ac : Nat) (P : Option Addr) (pn pc : Nat) (Q : Option Addr) (qn qc : Nat) (w : World) (h : LitAt d w w.heap.size x ⟨A, an, ac⟩ ⟨P, pn, pc⟩ ⟨Q, qn, qc⟩) (hr : rightLit x = true) (hW : ShowW w) (hlen : (litS x).length ≤ 1000000000000) :
    Calls Tryz.prog 71 #[.agg #[.int .i64 x.k, .string x.atom.rel, .slice A an ac, .int .i64 x.op, .int .i64 x.l.op, .string x.l.t.x, .int .i64 x.l.t.v.k, .int .i64 x.l.t.v.n, .string x.l.t.v.s, .slice P pn pc, .int .i64 x.r.op, .string x.r.t.x, .int .i64 x.r.t.v.k, .int .i64 x.r.t.v.n, .string x.r.t.v.s, .slice Q qn qc, .int .i64 x.pos]] w (RetV (.string (bytes (litS x))) w) := by
  have mixed : Tryz.prog.follows .mixedOrders = true := by kernel_rfl
  obtain ⟨S, HS⟩ : ∃ S, Hid (S = litS x) := ⟨_, rfl⟩
  rw [← HS.out] at hlen ⊢
  have hrb : (w.alloc (.cells #[.int .i64 x.k, .string x.atom.rel, .slice A an ac, .int .i64 x.op, .int .i64 x.l.op, .string x.l.t.x, .int .i64 x.l.t.v.k, .int .i64 x.l.t.v.n, .string x.l.t.v.s, .slice P pn pc, .int .i64 x.r.op, .string x.r.t.x, .int .i64 x.r.t.v.k, .int .i64 x.r.t.v.n, .string x.r.t.v.s, .slice Q qn qc, .int .i64 x.pos] 38)).heap[w.heap.size]? = some (.cells #[.int .i64 x.k, .string x.atom.rel, .slice A an ac, .int .i64 x.op, .int .i64 x.l.op, .string x.l.t.x, .int .i64 x.l.t.v.k, .int .i64 x.l.t.v.n, .string x.l.t.v.s, .slice P pn pc, .int .i64 x.r.op, .string x.r.t.x, .int .i64 x.r.t.v.k, .int .i64 x.r.t.v.n, .string x.r.t.v.s, .slice Q qn qc, .int .i64 x.pos] 38 (0, 0)) := heapNew rfl
  have hba : Below w.heap.size w (w.alloc (.cells #[.int .i64 x.k, .string x.atom.rel, .slice A an ac, .int .i64 x.op, .int .i64 x.l.op, .string x.l.t.x, .int .i64 x.l.t.v.k, .int .i64 x.l.t.v.n, .string x.l.t.v.s, .slice P pn pc, .int .i64 x.r.op, .string x.r.t.x, .int .i64 x.r.t.v.k, .int .i64 x.r.t.v.n, .string x.r.t.v.s, .slice Q qn qc, .int .i64 x.pos] 38)) := belowA (Below.refl _ _) _
  have HH := Lib.hid (h.keep hba)
  have HW := Lib.hid (hW.on hba)
  have Hba := Lib.hid hba
  have Hla := Lib.hid h.args.1
  have Hrb := Lib.hid hrb
  obtain ⟨f0, f1, f2, f3, f4, f5, f6, f7, f8, f9, f10, f11, f12, f13, f14, f15, f16⟩ := facts17 hrb
  have hcs := rightLit_cases hr
  clear h hW hr hrb hba
  obtain ⟨kk, hkk⟩ : ∃ kk, x.k = kk := ⟨_, rfl⟩
  rw [hkk] at hcs
  have HK := Lib.hid hkk
  generalize hwb : (w.alloc (.cells #[.int .i64 x.k, .string x.atom.rel, .slice A an ac, .int .i64 x.op, .int .i64 x.l.op, .string x.l.t.x, .int .i64 x.l.t.v.k, .int .i64 x.l.t.v.n, .string x.l.t.v.s, .slice P pn pc, .int .i64 x.r.op, .string x.r.t.x, .int .i64 x.r.t.v.k, .int .i64 x.r.t.v.n, .string x.r.t.v.s, .slice Q qn qc, .int .i64 x.pos] 38)) = wb at *
  clear hkk
  rcases hcs with ⟨rfl, h6⟩ | ⟨rfl, h6⟩ | ⟨rfl, ho1, ho6, hl, hr⟩
  rotate_left
  rotate_left
  · have q1 : (x.k == 3) = true := by simp [HK.out]
    obtain ⟨j, hj⟩ : ∃ j : Nat, x.op = (j : Int) := ⟨x.op.toNat, by omega⟩
    have j0 : (0 : Int) ≤ x.op := by omega
    have j1 : x.op < 7 := by omega
    have hE : S = expS 20 x.l ++ [32] ++ sgnS x.op ++ [32] ++ expS 20 x.r := by rw [HS.out]; unfold litS; rw [if_pos HK.out]
    have hl0 := hlen
    rw [hE] at hl0
    simp only [List.length_append, List.length_cons, List.length_nil] at hl0
    have HC1 := Lib.hid (fun (W : World) (hb : Below wb.heap.size wb W) => exp2_any 20 x.l P pn pc d W hl (HH.out.keep hb).lk HH.out.lv.2.1 (HW.out.on hb) (by omega))
    have HC2 := Lib.hid (fun (W : World) (hb : Below wb.heap.size wb W) => exp2_any 20 x.r Q qn qc d W hr (HH.out.keep hb).rk HH.out.rv.2.1 (HW.out.on hb) (by omega))
    have HSE : Hid (bytes S = bytes (expS 20 x.l) ++ ⟨#[32]⟩ ++ bytes (sgnS x.op) ++ ⟨#[32]⟩ ++ bytes (expS 20 x.r)) := by
      show _ = bytes (expS 20 x.l) ++ bytes [32] ++ bytes (sgnS x.op) ++ bytes [32] ++ bytes (expS 20 x.r)
      rw [hE, bytes_app, bytes_app, bytes_app, bytes_app]
    have e1 : (bytes (expS 20 x.l)).size = (expS 20 x.l).length := rfl
    have e2 : (bytes (expS 20 x.r)).size = (expS 20 x.r).length := rfl
    have e3 : (bytes (sgnS x.op)).size = (sgnS x.op).length := rfl
    have hgc2 : wb.cell? ⟨0, j, none⟩ = some (.string (bytes (sgnS x.op))) := by
      rw [hj]
      exact HW.out.signs.cell (sgnL_at (by omega) (by omega))
    rw [hj] at f3 j0 j1
    have HJ := Lib.hid hj
    clear hj
    generalize bytes (expS 20 x.l) = sl at *
    generalize bytes (expS 20 x.r) = sr at *
    generalize bytes (sgnS x.op) = so at *
    have y1 : ¬ (9223372036854775807 < sl.size + 1) := by omega
    have y2 : ¬ (9223372036854775806 < sl.size) := by omega
    have y3 : ¬ (9223372036854775807 < sl.size + 1 + so.size) := by omega
    have y4 : ¬ (9223372036854775807 < sl.size + 1 + so.size + 1) := by omega
    have y5 : ¬ (9223372036854775807 < sl.size + 1 + so.size + 1 + sr.size) := by omega
    clear hE hl0 e1 e2 e3 HS hlen hl hr
    go_enter Tryz.func71, Tryz.ntmps71
    go_wp2_with fail
    try simp only [hwb]
    clear hwb
    try simp only [HJ.out]
    go_wp2_with fail
    have Hk := Lib.hid (fun (V : World) (hb : Below wb.heap.size wb V) => (And.intro (below_cell hb f3) (And.intro (below_cell hb f4) (And.intro (below_cell hb f5) (And.intro (below_cell hb f6) (And.intro (below_cell hb f7) (And.intro (below_cell hb f8) (And.intro (below_cell hb f9) (And.intro (below_cell hb f10) (And.intro (below_cell hb f11) (And.intro (below_cell hb f12) (And.intro (below_cell hb f13) (And.intro (below_cell hb f14) (And.intro (below_cell hb f15) (below_cell hb hgc2)))))))))))))))
    have hb1 := Below.refl wb.heap.size wb
    go_region_held3 (fun w' => w'.cell? ⟨w.heap.size, 3, none⟩ = some (.int .i64 (j : Int)) ∧ w'.cell? ⟨w.heap.size, 4, none⟩ = some (.int .i64 x.l.op) ∧ w'.cell? ⟨w.heap.size, 5, none⟩ = some (.string x.l.t.x) ∧ w'.cell? ⟨w.heap.size, 6, none⟩ = some (.int .i64 x.l.t.v.k) ∧ w'.cell? ⟨w.heap.size, 7, none⟩ = some (.int .i64 x.l.t.v.n) ∧ w'.cell? ⟨w.heap.size, 8, none⟩ = some (.string x.l.t.v.s) ∧ w'.cell? ⟨w.heap.size, 9, none⟩ = some (.slice P pn pc) ∧ w'.cell? ⟨w.heap.size, 10, none⟩ = some (.int .i64 x.r.op) ∧ w'.cell? ⟨w.heap.size, 11, none⟩ = some (.string x.r.t.x) ∧ w'.cell? ⟨w.heap.size, 12, none⟩ = some (.int .i64 x.r.t.v.k) ∧ w'.cell? ⟨w.heap.size, 13, none⟩ = some (.int .i64 x.r.t.v.n) ∧ w'.cell? ⟨w.heap.size, 14, none⟩ = some (.string x.r.t.v.s) ∧ w'.cell? ⟨w.heap.size, 15, none⟩ = some (.slice Q qn qc) ∧ w'.cell? ⟨0, j, none⟩ = some (.string so))
      (first
        | (refine Hk.out _ ?_; (repeat (first | with_reducible exact Below.refl _ _ | with_reducible assumption | with_reducible refine Below.drew ?_ | with_reducible refine belowA ?_ _)); done)
        | go_keep)
      ((first
        | (go_at_call 74
           first
             | (have hm1 := hS1
                refine (HC2.out _ (by repeat (first | with_reducible exact Below.refl _ _ | with_reducible assumption | with_reducible refine Below.drew ?_ | with_reducible refine belowA ?_ _))).mono ?_
                rintro r wN ⟨rfl, hq1⟩
                have hb1 : Below wb.heap.size wb wN := by
                  refine below_next ?_ hq1
                  repeat (first | with_reducible exact Below.refl _ _ | with_reducible assumption | with_reducible refine Below.drew ?_ | with_reducible refine belowA ?_ _)
                clear hq1)
             | (refine (HC1.out _ (by repeat (first | with_reducible exact Below.refl _ _ | with_reducible assumption | with_reducible refine Below.drew ?_ | with_reducible refine belowA ?_ _))).mono ?_
                rintro r wN ⟨rfl, hq1⟩
                have hb1 : Below wb.heap.size wb wN := by
                  refine below_next ?_ hq1
                  repeat (first | with_reducible exact Below.refl _ _ | with_reducible assumption | with_reducible refine Below.drew ?_ | with_reducible refine belowA ?_ _)
                clear hq1
                have hS1 : True := trivial))))
    all_goals
      go_wp2_with fail
      go_ret
      exact ⟨by rw [HSE.out]; rfl, below_next Hba.out hb1⟩
  · have q1 : (x.k == 3) = false := by simp [HK.out]
    have q2 : (x.k == 2) = false := by simp [HK.out]
    have hE : S = atomS x.atom 0 0 := by rw [HS.out]; unfold litS; simp [HK.out]
    have hl0 := hlen
    rw [hE] at hl0
    unfold atomS at hl0
    simp only [List.length_append, ba_len] at hl0
    have HC1 := Lib.hid (fun (W : World) (hb : Below wb.heap.size wb W) => things0_any A an ac x.atom.args W (HH.out.keep hb).args (HW.out.on hb) (by have h1 := Hla.out; dsimp only at h1; omega) (by omega))
    have HSE : Hid (bytes S = x.atom.rel ++ bytes (thingsS 0 0 x.atom.args)) := by
      show _ = x.atom.rel ++ bytes (thingsS 0 0 x.atom.args)
      rw [hE, ← bytes_of x.atom.rel, bytes_app]
      unfold atomS
      simp only []
    have e1 : (bytes (thingsS 0 0 x.atom.args)).size = (thingsS 0 0 x.atom.args).length := rfl
    generalize bytes (thingsS 0 0 x.atom.args) = st at *
    have y1 : ¬ (9223372036854775807 < 4 + x.atom.rel.size) := by omega
    have y2 : ¬ (9223372036854775803 < x.atom.rel.size) := by omega
    have y3 : ¬ (9223372036854775807 < 4 + x.atom.rel.size + st.size) := by omega
    have y4 : ¬ (9223372036854775807 < x.atom.rel.size + st.size) := by omega
    clear hE hl0 e1 HS hlen
    go_enter Tryz.func71, Tryz.ntmps71
    go_wp2_with fail
    try simp only [hwb]
    clear hwb
    go_wp2_with fail
    have Hk := Lib.hid (fun (V : World) (hb : Below wb.heap.size wb V) => (And.intro (below_cell hb f1) (below_cell hb f2)))
    have hb1 := Below.refl wb.heap.size wb
    go_region_held3 (fun w' => w'.cell? ⟨w.heap.size, 1, none⟩ = some (.string x.atom.rel) ∧ w'.cell? ⟨w.heap.size, 2, none⟩ = some (.slice A an ac))
      (first
        | (refine Hk.out _ ?_; (repeat (first | with_reducible exact Below.refl _ _ | with_reducible assumption | with_reducible refine Below.drew ?_ | with_reducible refine belowA ?_ _)); done)
        | go_keep)
      ((first
        | (go_at_call 111
           refine (HC1.out _ (by repeat (first | with_reducible exact Below.refl _ _ | with_reducible assumption | with_reducible refine Below.drew ?_ | with_reducible refine belowA ?_ _))).mono ?_
           rintro r wN ⟨rfl, hq1⟩
           have hb1 : Below wb.heap.size wb wN := by
             refine below_next ?_ hq1
             repeat (first | with_reducible exact Below.refl _ _ | with_reducible assumption | with_reducible refine Below.drew ?_ | with_reducible refine belowA ?_ _)
           clear hq1)))
    all_goals
      go_wp2_with fail
      go_ret
      exact ⟨by rw [HSE.out]; rfl, below_next Hba.out hb1⟩
  · have q1 : (x.k == 3) = false := by simp [HK.out]
    have q2 : (x.k == 2) = true := by simp [HK.out]
    have hE : S = [110, 111, 116, 32] ++ atomS x.atom 0 0 := by rw [HS.out]; unfold litS; simp [HK.out]
    have hl0 := hlen
    rw [hE] at hl0
    unfold atomS at hl0
    simp only [List.length_append, List.length_cons, List.length_nil, ba_len] at hl0
    have HC1 := Lib.hid (fun (W : World) (hb : Below wb.heap.size wb W) => things0_any A an ac x.atom.args W (HH.out.keep hb).args (HW.out.on hb) (by have h1 := Hla.out; dsimp only at h1; omega) (by omega))
    have HSE : Hid (bytes S = ⟨#[110, 111, 116, 32]⟩ ++ x.atom.rel ++ bytes (thingsS 0 0 x.atom.args)) := by
      show _ = bytes [110, 111, 116, 32] ++ x.atom.rel ++ bytes (thingsS 0 0 x.atom.args)
      rw [hE, ← bytes_of x.atom.rel, bytes_app, bytes_app]
      unfold atomS
      simp only [List.append_assoc]
    have e1 : (bytes (thingsS 0 0 x.atom.args)).size = (thingsS 0 0 x.atom.args).length := rfl
    generalize bytes (thingsS 0 0 x.atom.args) = st at *
    have y1 : ¬ (9223372036854775807 < 4 + x.atom.rel.size) := by omega
    have y2 : ¬ (9223372036854775803 < x.atom.rel.size) := by omega
    have y3 : ¬ (9223372036854775807 < 4 + x.atom.rel.size + st.size) := by omega
    have y4 : ¬ (9223372036854775807 < x.atom.rel.size + st.size) := by omega
    clear hE hl0 e1 HS hlen
    go_enter Tryz.func71, Tryz.ntmps71
    go_wp2_with fail
    try simp only [hwb]
    clear hwb
    go_wp2_with fail
    have Hk := Lib.hid (fun (V : World) (hb : Below wb.heap.size wb V) => (And.intro (below_cell hb f1) (below_cell hb f2)))
    have hb1 := Below.refl wb.heap.size wb
    go_region_held3 (fun w' => w'.cell? ⟨w.heap.size, 1, none⟩ = some (.string x.atom.rel) ∧ w'.cell? ⟨w.heap.size, 2, none⟩ = some (.slice A an ac))
      (first
        | (refine Hk.out _ ?_; (repeat (first | with_reducible exact Below.refl _ _ | with_reducible assumption | with_reducible refine Below.drew ?_ | with_reducible refine belowA ?_ _)); done)
        | go_keep)
      ((first
        | (go_at_call 111
           refine (HC1.out _ (by repeat (first | with_reducible exact Below.refl _ _ | with_reducible assumption | with_reducible refine Below.drew ?_ | with_reducible refine belowA ?_ _))).mono ?_
           rintro r wN ⟨rfl, hq1⟩
           have hb1 : Below wb.heap.size wb wN := by
             refine below_next ?_ hq1
             repeat (first | with_reducible exact Below.refl _ _ | with_reducible assumption | with_reducible refine Below.drew ?_ | with_reducible refine belowA ?_ _)
           clear hq1)))
    all_goals
      go_wp2_with fail
      go_ret
      exact ⟨by rw [HSE.out]; rfl, below_next Hba.out hb1⟩
end Go.Proofs.YtplekbpmfaghbaaGreatDoor

namespace Go.Proofs.YtplekbpmfaghbaaGreatDoor
open Go.RowKit
theorem rightRule_parts {x : GRule} (h : rightRule x = true) : (∃ g : Nat, x.agg = (g : Int) ∧ g ≤ 4) ∧ x.head.args.length ≤ 6 ∧ x.body.length ≤ 8 ∧ ∀ y ∈ x.body, rightLit y = true := by
  unfold rightRule at h
  simp only [Bool.and_eq_true, decide_eq_true_eq, List.all_eq_true] at h
  obtain ⟨h1, h2, h3, h4⟩ := h
  refine ⟨?_, ?_, h3, h4⟩
  · unfold aggB at h2
    split at h2
    · rename_i h0
      exact ⟨0, by simpa using h0, by omega⟩
    · simp only [Bool.and_eq_true, decide_eq_true_eq] at h2
      exact ⟨x.agg.toNat, by omega, by omega⟩
  · unfold atomB at h1
    simp only [Bool.and_eq_true, decide_eq_true_eq] at h1
    exact h1.2.1
theorem litS_le {xs : List GLit} {y : GLit} (h : y ∈ xs) : (litS y).length ≤ (Lib.join (xs.map litS) sep2).length := join_ge _ _ (List.mem_map.2 ⟨y, h, rfl⟩)
set_option maxRecDepth 100000 in
set_option maxHeartbeats 8000000 in
theorem rule2_any (d : Nat) (x : GRule) (A : Option Addr) (an ac : Nat) (B : Option Addr) (bn bc : Nat) (w : World) (h : RuleAt d w w.heap.size x ⟨A, an, ac⟩ ⟨B, bn, bc⟩) (hr : rightRule x = true) (hW : ShowW w) (hlen : (ruleS x).length ≤ 1000000000000) :
    Calls Tryz.prog 68 #[.agg #[.string x.head.rel, .slice A an ac, .int .i64 x.agg, .int .i64 x.col, .slice B bn bc, .int .i64 x.pos]] w (RetV (.string (bytes (ruleS x))) w) := by
  have mixed : Tryz.prog.follows .mixedOrders = true := by kernel_rfl
  obtain ⟨S, HS⟩ : ∃ S, Hid (S = ruleS x) := ⟨_, rfl⟩
  rw [← HS.out] at hlen ⊢
  obtain ⟨⟨g, hg, hg4⟩, h6, h8, hall⟩ := rightRule_parts hr
  have HE : Hid (S = atomS x.head (g : Int) x.col ++ (if x.body = [] then [] else [32, 58, 45, 32] ++ Lib.join (x.body.map litS) sep2) ++ [46]) := by show _ = _; rw [HS.out, ← hg]; rfl
  rw [hg]
  have hrb : (w.alloc (.cells #[.string x.head.rel, .slice A an ac, .int .i64 (g : Int), .int .i64 x.col, .slice B bn bc, .int .i64 x.pos] 27)).heap[w.heap.size]? = some (.cells #[.string x.head.rel, .slice A an ac, .int .i64 (g : Int), .int .i64 x.col, .slice B bn bc, .int .i64 x.pos] 27 (0, 0)) := heapNew rfl
  have hba : Below w.heap.size w (w.alloc (.cells #[.string x.head.rel, .slice A an ac, .int .i64 (g : Int), .int .i64 x.col, .slice B bn bc, .int .i64 x.pos] 27)) := belowA (Below.refl _ _) _
  have HH := Lib.hid (h.keep hba)
  have HW := Lib.hid (hW.on hba)
  have Hba := Lib.hid hba
  have Hla : Hid (x.head.args.length = an) := h.args.1
  have Hlb : Hid (x.body.length = bn) := h.body.1
  have hbn := h.body.bound
  dsimp only at hbn
  have hb8 : bn ≤ 8 := by have h1 := Hlb.out; omega
  have Hrb := Lib.hid hrb
  have Hall := Lib.hid hall
  obtain ⟨f0, f1, f2, f3, f4, f5⟩ := facts6 hrb
  clear h hW hr hrb hba hall hg HS
  have hl0 := hlen
  rw [HE.out] at hl0
  simp only [List.length_append, List.length_cons, List.length_nil] at hl0
  have hla : (atomS x.head (g : Int) x.col).length ≤ 1000000000000 := by omega
  have hlt0 : (thingsS (g : Int) x.col x.head.args).length + x.head.rel.size ≤ 1000000000000 := by
    have := hla
    unfold atomS at this
    simp only [List.length_append, ba_len] at this
    omega
  generalize hwb : (w.alloc (.cells #[.string x.head.rel, .slice A an ac, .int .i64 (g : Int), .int .i64 x.col, .slice B bn bc, .int .i64 x.pos] 27)) = wb at *
  have HC1 := Lib.hid (fun (W : World) (hb : Below wb.heap.size wb W) => things_any g x.col A an ac x.head.args W (HH.out.keep hb).args (HW.out.on hb) hg4 (by have h1 := Hla.out; omega) (by omega))
  have HHd : Hid (bytes (atomS x.head (g : Int) x.col) = x.head.rel ++ bytes (thingsS (g : Int) x.col x.head.args)) := by
    show _ = _
    unfold atomS
    rw [← bytes_app, bytes_of]
  have e1 : (bytes (thingsS (g : Int) x.col x.head.args)).size = (thingsS (g : Int) x.col x.head.args).length := rfl
  have hhs : (bytes (atomS x.head (g : Int) x.col)).size ≤ 1000000000000 := hla
  generalize bytes (thingsS (g : Int) x.col x.head.args) = st at *
  have y1 : ¬ (9223372036854775807 < x.head.rel.size + st.size) := by omega
  clear e1 hlt0 hla
  go_enter Tryz.func68, Tryz.ntmps68
  go_wp2_with fail
  try simp only [hwb]
  clear hwb
  go_wp2_with fail
  have Hk := Lib.hid (fun (V : World) (hb : Below wb.heap.size wb V) => (And.intro (below_cell hb f0) (And.intro (below_cell hb f1) (And.intro (below_cell hb f2) (below_cell hb f3)))))
  have hb1 := Below.refl wb.heap.size wb
  go_region_held3 (fun w' => w'.cell? ⟨w.heap.size, 0, none⟩ = some (.string x.head.rel) ∧ w'.cell? ⟨w.heap.size, 1, none⟩ = some (.slice A an ac) ∧ w'.cell? ⟨w.heap.size, 2, none⟩ = some (.int .i64 (g : Int)) ∧ w'.cell? ⟨w.heap.size, 3, none⟩ = some (.int .i64 x.col))
    (first
      | (refine Hk.out _ ?_; (repeat (first | with_reducible exact Below.refl _ _ | with_reducible assumption | with_reducible refine Below.drew ?_ | with_reducible refine belowA ?_ _)); done)
      | go_keep)
    ((first
      | (go_at_call 111
         refine (HC1.out _ (by repeat (first | with_reducible exact Below.refl _ _ | with_reducible assumption | with_reducible refine Below.drew ?_ | with_reducible refine belowA ?_ _))).mono ?_
         rintro r wN ⟨rfl, hq1⟩
         have hb1 : Below wb.heap.size wb wN := by
           refine below_next ?_ hq1
           repeat (first | with_reducible exact Below.refl _ _ | with_reducible assumption | with_reducible refine Below.drew ?_ | with_reducible refine belowA ?_ _)
         clear hq1)))
  rw [← HHd.out]
  have HS1 : Hid (bn = 0 → bytes S = bytes (atomS x.head (g : Int) x.col) ++ ⟨#[46]⟩) := fun h0 => by
    have hb : x.body = [] := List.eq_nil_of_length_eq_zero (by have h1 := Hlb.out; omega)
    show _ = bytes (atomS x.head (g : Int) x.col) ++ bytes [46]
    rw [HE.out, if_pos hb, bytes_app, List.append_nil]
  have HS2 : Hid (¬ bn = 0 → bytes S = bytes (atomS x.head (g : Int) x.col) ++ ⟨#[32, 58, 45, 32]⟩ ++ bytes (Lib.join (x.body.map litS) sep2) ++ ⟨#[46]⟩) := fun h0 => by
    have hb : ¬ x.body = [] := fun e => h0 (by have h1 := Hlb.out; rw [e] at h1; simpa using h1.symm)
    show _ = bytes (atomS x.head (g : Int) x.col) ++ bytes [32, 58, 45, 32] ++ bytes (Lib.join (x.body.map litS) sep2) ++ bytes [46]
    rw [HE.out, if_neg hb, bytes_app, bytes_app, bytes_app]
    simp only [List.append_assoc]
  have HJ : Hid (¬ bn = 0 → (Lib.join (x.body.map litS) sep2).length ≤ 1000000000000) := fun h0 => by
    have hb : ¬ x.body = [] := fun e => h0 (by have h1 := Hlb.out; rw [e] at h1; simpa using h1.symm)
    rw [if_neg hb, List.length_append] at hl0
    show _ ≤ _
    omega
  clear HE hl0
  generalize bytes (atomS x.head (g : Int) x.col) = hd at *
  have HB1 := Lib.hid hb1
  clear hb1 f0 f1 f2 f3 f4 f5 Hk HC1 HHd y1
  have hrN := (HB1.out.block _ (Array.getElem?_eq_some_iff.1 Hrb.out).1).trans Hrb.out
  obtain ⟨f0, f1, f2, f3, f4, f5⟩ := facts6 hrN
  by_cases hb0 : bn = 0
  · have q1 : ((bn : Int) == 0) = true := by simp [hb0]
    have HSE := Lib.hid (HS1.out hb0)
    have z1 : ¬ (9223372036854775807 < hd.size + 1) := by omega
    have z2 : ¬ (9223372036854775806 < hd.size) := by omega
    clear hb0
    go_wp2_with fail
    go_ret
    exact ⟨by rw [HSE.out]; rfl, below_next Hba.out HB1.out⟩
  have q1 : ((bn : Int) == 0) = false := by simp [hb0]
  have HSE := Lib.hid (HS2.out hb0)
  have HJl := Lib.hid (HJ.out hb0)
  clear HS1 HS2 HJ hb0
  go_wp2_with fail
  clear f0 f1 f2 f3 f4 f5 q1
  go_loopw [4, 6, 28] (fun v _ i wr => ∃ k A' c', k ≤ bn ∧ v = .slice A' k c' ∧ i = .int .i64 k ∧ Hid (wr.ownsRow wN.heap.size 9 1 (.slice A' k c') k ((x.body.take k).map fun y => .string (bytes (litS y)))) ∧ Hid (Below wN.heap.size wN wr)) (fun _ _ i _ => bn - (intOf i).toNat)
  case atStart => exact ⟨0, none, 0, by omega, rfl, rfl, World.ownsRow_nil _ _ _ _, Below.refl _ _⟩
  case round =>
    obtain ⟨k, A', c', hk, rfl, rfl, HO, HBr⟩ := hrel
    have i0 : (0 : Int) ≤ (k : Int) := by omega
    by_cases hlt : k < bn
    · have i1 : (k : Int) < (bn : Int) := by omega
      obtain ⟨bb, o, y, a', p', q', hA, hbb, hy, hly, Hr⟩ := (HH.out.keep (below_next HB1.out HBr.out)).body.lit_range hlt
      try simp only at hA
      subst hA
      obtain ⟨A1, n1, c1⟩ := a'
      obtain ⟨A2, n2, c2⟩ := p'
      obtain ⟨A3, n3, c3⟩ := q'
      have hym := List.mem_of_getElem? hy.out
      have hbx : Below wr.heap.size wr (wr.alloc (.cells (litC y ⟨A1, n1, c1⟩ ⟨A2, n2, c2⟩ ⟨A3, n3, c3⟩).toArray 38)) := belowA (Below.refl _ _) _
      have Hbx := Lib.hid (below_next HBr.out hbx)
      have HC := Lib.hid (literal_any d y A1 n1 c1 A2 n2 c2 A3 n3 c3 _ (hly.keep hbx) (Hall.out y hym) (HW.out.on (below_next (below_next HB1.out HBr.out) hbx)) (Nat.le_trans (litS_le hym) HJl.out))
      have HOa := Lib.hid (HO.out.alloc (.cells (litC y ⟨A1, n1, c1⟩ ⟨A2, n2, c2⟩ ⟨A3, n3, c3⟩).toArray 38))
      have HSt : Hid ((x.body.take (k + 1)).map (fun y => Value.string (bytes (litS y))) = (x.body.take k).map (fun y => .string (bytes (litS y))) ++ [.string (bytes (litS y))]) := by
        show _ = _
        rw [List.take_add_one, hy.out]; simp
      have hrn : (wr.alloc (.cells (litC y ⟨A1, n1, c1⟩ ⟨A2, n2, c2⟩ ⟨A3, n3, c3⟩).toArray 38)).heap[wr.heap.size]? = some (.cells (litC y ⟨A1, n1, c1⟩ ⟨A2, n2, c2⟩ ⟨A3, n3, c3⟩).toArray 38 (0, 0)) := heapNew rfl
      have HRn := Lib.hid (range_row hrn)
      clear hrn hy hly hym hbx HO
      generalize bytes (litS y) = sl at HC HSt
      go_wp2_with (first
        | refine wpList_load_mid rfl 38 (.tmp 30) rfl bb (o + k * 17) rfl (litC y ⟨A1, n1, c1⟩ ⟨A2, n2, c2⟩ ⟨A3, n3, c3⟩) _ Hr.out Tryz.underlying38 rfl (lit_size _ _ _ _) ?_
        | refine wpList_new rfl rfl 38 6 (.tmp 31) rfl rfl rfl rfl _ (litC y ⟨A1, n1, c1⟩ ⟨A2, n2, c2⟩ ⟨A3, n3, c3⟩).toArray lit_info rfl (lit_one _ _ _ _) rfl rfl ?_
        | refine wpList_load_mid rfl 38 (.tmp 6) rfl wr.heap.size 0 rfl (litC y ⟨A1, n1, c1⟩ ⟨A2, n2, c2⟩ ⟨A3, n3, c3⟩) _ HRn.out Tryz.underlying38 rfl (lit_size _ _ _ _) ?_)
      refine HC.out.mono ?_
      rintro r w2 ⟨rfl, hq2⟩
      have hbw := below_next Hbx.out hq2
      have how2 := own_below HOa.out hq2
      clear hq2
      obtain ⟨v', w', hrun, hown', hb'⟩ := str_push sl (by omega) hbw how2
      obtain ⟨A4, c4, rfl⟩ := own_form hown'
      rw [← HSt.out] at hown'
      have HRun := Lib.hid hrun
      have HOn := Lib.hid hown'
      have HBn := Lib.hid hb'
      clear hrun hown' how2 hb' hbw HSt HOa HC HRn Hr
      go_wp2_with (at_builtin; refine wpList_append_run rfl _ _ _ rfl _ _ rfl rfl (HRun.out _) ?_)
      go_roundw
      case rel => exact ⟨k + 1, A4, c4, by omega, rfl, by go_num, HOn, HBn⟩
      case measure => simp [intOf]; omega
    · have i1 : ¬ (k : Int) < (bn : Int) := by omega
      obtain rfl : k = bn := by omega
      have hown := HO.out
      rw [List.take_of_length_le (by have h1 := Hlb.out; omega), show x.body.map (fun y => Value.string (bytes (litS y))) = (x.body.map litS).map (fun s => Value.string (bytes s)) by rw [List.map_map]; rfl] at hown
      have HCj := Lib.hid (sjoin_any A' k c' (x.body.map litS) wr (by rw [List.length_map]; exact Hlb.out) (by have := HJl.out; omega) (by have h1 := Hlb.out; omega) hown)
      have hjs : (bytes (Lib.join (x.body.map litS) sep2)).size ≤ 1000000000000 := HJl.out
      have HBn := Lib.hid (below_next HB1.out HBr.out)
      unfold JoinPost at HCj
      generalize bytes (Lib.join (x.body.map litS) sep2) = sj at *
      have z1 : ¬ (9223372036854775807 < hd.size + 4) := by omega
      have z2 : ¬ (9223372036854775803 < hd.size) := by omega
      have z3 : ¬ (9223372036854775807 < hd.size + 4 + sj.size) := by omega
      have z4 : ¬ (9223372036854775807 < hd.size + 4 + sj.size + 1) := by omega
      have z5 : ¬ (9223372036854775806 < hd.size + 4 + sj.size) := by omega
      clear HO hown HJl Hall HW HH
      go_wp2_with fail
      refine HCj.out.mono ?_
      rintro r w2 ⟨rfl, hq2⟩
      have HBm := Lib.hid (below_next HBn.out hq2)
      clear hq2 HCj
      go_wp2_with fail
      go_ret
      exact ⟨by rw [HSE.out]; rfl, below_next Hba.out HBm.out⟩
end Go.Proofs.YtplekbpmfaghbaaGreatDoor
