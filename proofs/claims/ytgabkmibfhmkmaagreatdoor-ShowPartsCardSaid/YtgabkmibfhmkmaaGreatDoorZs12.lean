/- My own texts SFrame, ShowA, ShowRX, ShowRA, as far as this claim needs them. -/
import Derived.Test.YtgabkmibfhmkmaaGreatDoorZs4
import Derived.Test.YtgabkmibfhmkmaaGreatDoorZs11
set_option linter.unusedVariables false
set_option linter.unusedSimpArgs false
namespace Go.Proofs.YtgabkmibfhmkmaaGreatDoor
open Go.ChangeShapes Go.WideShapes Go.ChangeAt Go.RowKit
set_option linter.unusedVariables false
def laidS {H : Type} : List (String × DataW H) := [("math/bits.deBruijn32tab", Rows.laid_math_bits_deBruijn32tab), ("math/bits.deBruijn64tab", Rows.laid_math_bits_deBruijn64tab), ("internal/strconv.uint64pow10", Rows.laid_internal_strconv_uint64pow10), ("strconv.ErrRange", Rows.laid_strconv_ErrRange), ("strconv.ErrSyntax", Rows.laid_strconv_ErrSyntax), ("corollary/lex.keys", Rows.laid_corollary_lex_keys), ("corollary/lex.signs", Rows.laid_corollary_lex_signs), ("corollary/show.aggs", Rows.laid_corollary_show_aggs), ("corollary/show.signs", Rows.laid_corollary_show_signs), ("corollary/show.ops", Rows.laid_corollary_show_ops)]
/-- the first seven of a laid list -/
theorem lexW_of_seven {W : World} {rest : List (String × DataW Unit)} (h : laidMet Tryz.prog (("math/bits.deBruijn32tab", Rows.laid_math_bits_deBruijn32tab) :: ("math/bits.deBruijn64tab", Rows.laid_math_bits_deBruijn64tab) :: ("internal/strconv.uint64pow10", Rows.laid_internal_strconv_uint64pow10) :: ("strconv.ErrRange", Rows.laid_strconv_ErrRange) :: ("strconv.ErrSyntax", Rows.laid_strconv_ErrSyntax) :: ("corollary/lex.keys", Rows.laid_corollary_lex_keys) :: ("corollary/lex.signs", Rows.laid_corollary_lex_signs) :: rest) W) : LexW W := by
  have h3 := laidMet.tail (laidMet.tail (laidMet.tail h))
  have h5 := laidMet.tail (laidMet.tail h3)
  have h6 := laidMet.tail h5
  refine ⟨TabW.of (Lib.tabIs_of_head gP gPT Tryz.underlying454 Tryz.underlying385 (by kernel_rfl) (by kernel_rfl) (rest := ("strconv.ErrRange", Rows.laid_strconv_ErrRange) :: ("strconv.ErrSyntax", Rows.laid_strconv_ErrSyntax) :: ("corollary/lex.keys", Rows.laid_corollary_lex_keys) :: ("corollary/lex.signs", Rows.laid_corollary_lex_signs) :: rest) (by rw [← pow_eq]; exact laidMet.tail (laidMet.tail h))), ?_, ?_, ?_⟩
  · obtain ⟨a0, s0, hv0, -, -, -⟩ := laid_sentinel h3 gER gERT Tryz.underlying57 rowES Tryz.underlying457 Tryz.underlying459 rfl rfl Tryz.underlying9 cellsES cellsStr
    obtain ⟨a1, s1, hv1, -, -, -⟩ := laid_sentinel (laidMet.tail h3) gES gEST Tryz.underlying57 rowES Tryz.underlying457 Tryz.underlying459 rfl rfl Tryz.underlying9 cellsES cellsStr
    exact ⟨⟨_, _, by have h0 := World.var?_cell gES hv1 0; simpa using h0⟩, ⟨_, _, by have h0 := World.var?_cell gER hv0 0; simpa using h0⟩⟩
  · rw [keys_eq] at h5
    exact strs_of_head gK gKT Tryz.underlying433 Tryz.underlying9 (by kernel_rfl) (by kernel_rfl) h5
  · rw [signs_eq] at h6
    exact strs_of_head gS gST Tryz.underlying425 Tryz.underlying9 (by kernel_rfl) (by kernel_rfl) h6
theorem saggs_eq {H : Type} : (Rows.laid_corollary_show_aggs : DataW H) = strsData aggsL := rfl
theorem ssigns_eq {H : Type} : (Rows.laid_corollary_show_signs : DataW H) = strsData sgnsL := rfl
theorem sops_eq {H : Type} : (Rows.laid_corollary_show_ops : DataW H) = strsData opsL := rfl
theorem gSA : Tryz.prog.globalNamed "corollary/show.aggs" = some 2 := by kernel_rfl
theorem gSAT : (Tryz.prog.globals[2]?).map (·.type) = some 337 := by kernel_rfl
theorem gSS : Tryz.prog.globalNamed "corollary/show.signs" = some 0 := by kernel_rfl
theorem gSST : (Tryz.prog.globals[0]?).map (·.type) = some 277 := by kernel_rfl
theorem gSO : Tryz.prog.globalNamed "corollary/show.ops" = some 1 := by kernel_rfl
theorem gSOT : (Tryz.prog.globals[1]?).map (·.type) = some 280 := by kernel_rfl
theorem lexW_of_laidS {W : World} (h : laidMet Tryz.prog laidS W) : LexW W := lexW_of_seven h
theorem showW_of_laidS {W : World} (h : laidMet Tryz.prog laidS W) : ShowW W := by
  have hL := lexW_of_laidS h
  have h7 := laidMet.tail (laidMet.tail (laidMet.tail (laidMet.tail (laidMet.tail (laidMet.tail (laidMet.tail h))))))
  have h8 := laidMet.tail h7
  have h9 := laidMet.tail h8
  rw [saggs_eq] at h7
  rw [ssigns_eq] at h8
  rw [sops_eq] at h9
  exact ⟨hL.tab, strs_of_head gSO gSOT Tryz.underlying280 Tryz.underlying9 (by kernel_rfl) (by kernel_rfl) h9, strs_of_head gSS gSST Tryz.underlying277 Tryz.underlying9 (by kernel_rfl) (by kernel_rfl) h8, strs_of_head gSA gSAT Tryz.underlying337 Tryz.underlying9 (by kernel_rfl) (by kernel_rfl) h7⟩
theorem u_rule : ∃ fs, Tryz.prog.underlying 41 = some (.struct fs) := ⟨_, Tryz.underlying41⟩
theorem u_lit : ∃ fs, Tryz.prog.underlying 35 = some (.struct fs) := ⟨_, Tryz.underlying35⟩
noncomputable def laidWorldS (os : Os) : World :=
  let w0 := World.holding Tryz.prog os ⟨#[.cells #[.string synS] 459, .cells #[.string rngS] 459], #[], []⟩
  let put (h : Array Obj) (g : Nat) (cs : Array Value) : Array Obj := h.modify g fun
    | .cells _ t frozen => .cells cs t frozen
    | o => o
  let tab (d : DataW Unit) : Array Value := match d with
    | .agg l => (l.map fun | .lit (.int k n) => Value.int k n | .lit (.string s) => Value.string ⟨s.toArray⟩ | _ => undef).toArray
    | _ => #[]
  let h1 := put w0.heap 11 (tab Rows.laid_math_bits_deBruijn32tab)
  let h2 := put h1 12 (tab Rows.laid_math_bits_deBruijn64tab)
  let h3 := put h2 10 (tab Rows.laid_internal_strconv_uint64pow10)
  let h4 := put h3 8 #[.iface 457 (.pointer (some ⟨low, 0, none⟩))]
  let h5 := put h4 9 #[.iface 457 (.pointer (some ⟨low + 1, 0, none⟩))]
  let h6 := put h5 7 (tab Rows.laid_corollary_lex_keys)
  let h7 := put h6 5 (tab Rows.laid_corollary_lex_signs)
  let h8 := put h7 2 (tab Rows.laid_corollary_show_aggs)
  let h9 := put h8 0 (tab Rows.laid_corollary_show_signs)
  let h10 := put h9 1 (tab Rows.laid_corollary_show_ops)
  { w0 with heap := h10 }
set_option maxRecDepth 100000 in
theorem laidWorldS_met (os : Os) (args : Array Value) : laidMet Tryz.prog laidS ((laidWorldS os).forCall (fun _ _ => 0) ⟨#[], args, []⟩).memory :=
  laidMet_of_run' 8 (by kernel_rfl) (by kernel_rfl)
end Go.Proofs.YtgabkmibfhmkmaaGreatDoor

namespace Go.Proofs.YtgabkmibfhmkmaaGreatDoor
open Go.RowKit
theorem join_ge : ∀ (xs : List (List UInt8)) (x : List UInt8), x ∈ xs → x.length ≤ (Lib.join xs sep2).length
  | [a], x, h => by rw [join_one]; simp at h; rw [h]; exact Nat.le_refl _
  | a :: b :: r, x, h => by
    rw [join_two]
    simp only [List.length_append]
    rcases List.mem_cons.1 h with rfl | h
    · omega
    · have := join_ge (b :: r) x h; omega
theorem aggL_at {g : Nat} (h1 : 1 ≤ g) (h4 : g ≤ 4) : aggsL[g]? = some (aggS (g : Int)) := by
  have : g = 1 ∨ g = 2 ∨ g = 3 ∨ g = 4 := by omega
  rcases this with rfl | rfl | rfl | rfl <;> rfl
set_option maxRecDepth 100000 in
set_option maxHeartbeats 4000000 in
theorem things_any (g : Nat) (col : Int) (A : Option Addr) (n c : Nat) (l : List GTold) (w : World) (ht : SliceIs Enc.told w w.heap.size A n c l) (hW : ShowW w) (hg : g ≤ 4) (hn : n ≤ 100000) (hlen : (thingsS (g : Int) col l).length ≤ 1000000000000) :
    Calls Tryz.prog 186 #[.slice A n c, .int .i64 (g : Int), .int .i64 col] w (RetV (.string (bytes (thingsS (g : Int) col l))) w) := by
  have Hlen := Lib.hid ht.1
  have HT := Lib.hid ht
  have HW := Lib.hid hW
  obtain ⟨S, HS⟩ : ∃ S, Hid (S = thingsS (g : Int) col l) := ⟨_, rfl⟩
  rw [← HS.out]
  have HE : Hid (S = [40] ++ Lib.join (thingsL (g : Int) col 0 l) sep2 ++ [41]) := by rw [HS.out]; rfl
  have HL : Hid ((Lib.join (thingsL (g : Int) col 0 l) sep2).length ≤ 1000000000000) := by
    show _ ≤ _
    have h := hlen
    unfold thingsS at h
    simp only [List.length_append] at h
    omega
  have HLt : Hid (∀ (i : Nat) (t : GTold), l[i]? = some t → (thing (g : Int) col i t).length ≤ 1000000000000) := fun i t hi => by
    have h1 := thingsL_get (g : Int) col l 0 i t hi
    rw [Nat.zero_add] at h1
    exact Nat.le_trans (join_ge _ _ (List.mem_of_getElem? h1)) HL.out
  clear ht hW hlen HS
  go_enter Tryz.func186, Tryz.ntmps186
  go_wp2_with fail
  go_loopw [7, 8, 9, 10, 13] (fun v _ _ _ i wr => ∃ k A' c', k ≤ n ∧ v = .slice A' k c' ∧ i = .int .i64 k ∧ Hid (wr.ownsRow w.heap.size 9 1 (.slice A' k c') k ((thingsL (g : Int) col 0 (l.take k)).map fun s => .string (bytes s))) ∧ Below w.heap.size w wr) (fun _ _ _ _ i _ => n - (intOf i).toNat)
  case atStart => exact ⟨0, none, 0, by omega, rfl, rfl, World.ownsRow_nil _ _ _ _, Below.refl _ _⟩
  case round =>
    obtain ⟨k, A', c', hk, rfl, rfl, how, hbr⟩ := hrel
    have i0 : (0 : Int) ≤ (k : Int) := by omega
    by_cases hlt : k < n
    · have i1 : (k : Int) < (n : Int) := by omega
      obtain ⟨b, o, x, rfl, _, hx, x0, x1, x2, x3, hxo, hxv⟩ := (HT.out.below hbr).told_at hlt
      have HC := Lib.hid (fun (W : World) (hb : Below w.heap.size w W) => shown_any x hxv.2.1 W (HW.out.on hb).tab)
      have HAg := Lib.hid (fun (W : World) (hb : Below w.heap.size w W) => (HW.out.on hb).aggs)
      have HSt : Hid ((thingsL (g : Int) col 0 (l.take (k + 1))).map (fun s => Value.string (bytes s)) = (thingsL (g : Int) col 0 (l.take k)).map (fun s => .string (bytes s)) ++ [.string (bytes (thing (g : Int) col k x))]) := by
        show _ = _
        rw [thingsL_take _ _ hx.out]; simp
      have HTh := Lib.hid (HLt.out k x hx.out)
      have hbx := belowA hbr (.cells #[.string x.x, .int .i64 x.v.k, .int .i64 x.v.n, .string x.v.s] 30)
      have HOw := Lib.hid (how.out.alloc (.cells #[.string x.x, .int .i64 x.v.k, .int .i64 x.v.n, .string x.v.s] 30))
      have HBx := Lib.hid hbx
      clear hx hxo hxv how hbr hbx
      go_wp2_with fail
      refine (HC.out _ HBx.out).mono ?_
      rintro r w2 ⟨rfl, hq2⟩
      have HBw := Lib.hid (below_next HBx.out hq2)
      have HO2 := Lib.hid (own_below HOw.out hq2)
      have HPu : Hid (∀ (s : List UInt8), ∃ A2 c2 w', (∀ ty, (Builtin.append_ #[107, 107] ty #[.slice A' k c', .slice (some ⟨w2.heap.size, 0, none⟩) 1 1]).run Tryz.prog (w2.alloc (.cells #[.string (bytes s)] 9)) = .ok (.slice A2 (k + 1) c2) w') ∧ w'.ownsRow w.heap.size 9 1 (.slice A2 (k + 1) c2) (k + 1) (((thingsL (g : Int) col 0 (l.take k)).map fun s => .string (bytes s)) ++ [.string (bytes s)]) ∧ Below w.heap.size w w') := fun s => by
        obtain ⟨v', w', h1, h2, h3⟩ := str_push (bytes s) (by omega) HBw.out HO2.out
        obtain ⟨A2, c2, rfl⟩ := own_form h2
        exact ⟨A2, c2, w', h1, h2, h3⟩
      clear HC HOw HBx hq2 HO2 x0 x1 x2 x3
      by_cases hc : 0 < (g : Int) ∧ (k : Int) = col
      · obtain ⟨q1, q2'⟩ := hc
        have q2 : ((k : Int) == col) = true := by simp [q2']
        have j0 : (0 : Int) ≤ (g : Int) := by omega
        have j1 : (g : Int) < 5 := by omega
        have HAc := (HAg.out _ HBw.out).cell (aggL_at (by omega) hg)
        have hthl := HTh.out
        have HTe : Hid (bytes (thing (g : Int) col k x) = bytes (aggS (g : Int)) ++ ⟨#[40]⟩ ++ bytes (shownT x) ++ ⟨#[41]⟩) := by
          show _ = bytes (aggS (g : Int)) ++ bytes [40] ++ bytes (shownT x) ++ bytes [41]
          rw [bytes_app, bytes_app, bytes_app]
          unfold thing
          rw [if_pos ⟨q1, q2'⟩]
        obtain ⟨A2, c2, w', hrun, hown', hb'⟩ := HPu.out (thing (g : Int) col k x)
        rw [← HSt.out] at hown'
        rw [HTe.out] at hrun
        have e1 := congrArg ByteArray.size HTe.out
        simp only [ByteArray.size_append, bytes_size] at e1
        have e2 : (bytes (aggS (g : Int))).size = (aggS (g : Int)).length := rfl
        have e3 : (bytes (shownT x)).size = (shownT x).length := rfl
        have e4 : (⟨#[40]⟩ : ByteArray).size = 1 := rfl
        have e5 : (⟨#[41]⟩ : ByteArray).size = 1 := rfl
        rw [e4, e5] at e1
        have hz1 : ¬ (9223372036854775807 < (bytes (aggS (g : Int))).size + 1) := by omega
        have hz2 : ¬ (9223372036854775807 < (bytes (aggS (g : Int))).size + 1 + (bytes (shownT x)).size) := by omega
        have hz3 : ¬ (9223372036854775807 < (bytes (aggS (g : Int))).size + 1 + (bytes (shownT x)).size + 1) := by omega
        have HRun := Lib.hid hrun
        have HOn := Lib.hid hown'
        have HBn := Lib.hid hb'
        clear hrun hown' hb' HPu HTe e1 e2 e3 e4 e5 hthl HTh HSt HAg q2'
        generalize bytes (aggS (g : Int)) = sa at *
        generalize bytes (shownT x) = sx at *
        go_wp2_with (at_builtin; refine wpList_append_run rfl _ _ _ rfl _ _ rfl rfl (HRun.out _) ?_)
        go_roundw
        case rel => exact ⟨k + 1, A2, c2, by omega, rfl, by go_num, HOn.out, HBn.out⟩
        case measure => simp [intOf]; omega
      · have HTe : Hid (thing (g : Int) col k x = shownT x) := by show _ = _; unfold thing; rw [if_neg hc]
        obtain ⟨A2, c2, w', hrun, hown', hb'⟩ := HPu.out (shownT x)
        have hs := HSt.out
        rw [HTe.out] at hs
        rw [← hs] at hown'
        have HRun := Lib.hid hrun
        have HOn := Lib.hid hown'
        have HBn := Lib.hid hb'
        clear hrun hown' hb' HPu HTe hs HTh HSt HAg
        generalize bytes (shownT x) = sx at *
        by_cases q1 : 0 < (g : Int)
        · have q2 : ((k : Int) == col) = false := by
            rw [beq_eq_false_iff_ne]; exact fun e => hc ⟨q1, e⟩
          clear hc
          go_wp2_with (at_builtin; refine wpList_append_run rfl _ _ _ rfl _ _ rfl rfl (HRun.out _) ?_)
          go_roundw
          case rel => exact ⟨k + 1, A2, c2, by omega, rfl, by go_num, HOn.out, HBn.out⟩
          case measure => simp [intOf]; omega
        · clear hc
          go_wp2_with (at_builtin; refine wpList_append_run rfl _ _ _ rfl _ _ rfl rfl (HRun.out _) ?_)
          go_roundw
          case rel => exact ⟨k + 1, A2, c2, by omega, rfl, by go_num, HOn.out, HBn.out⟩
          case measure => simp [intOf]; omega
    · have i1 : ¬ (k : Int) < (n : Int) := by omega
      obtain rfl : k = n := by omega
      have hown := how.out
      rw [List.take_of_length_le (by have := Hlen.out; omega)] at hown
      have HJ := Lib.hid (sjoin_any A' k c' (thingsL (g : Int) col 0 l) wr (by rw [thingsL_len]; exact Hlen.out) (by have := HL.out; omega) (by omega) hown)
      have hjl := HL.out
      generalize Lib.join (thingsL (g : Int) col 0 l) sep2 = jl at HJ HE hjl
      clear how hown HL HLt HW
      go_wp2_with fail
      refine HJ.out.mono ?_
      rintro r w2 ⟨rfl, hq2⟩
      have hbw := below_next hbr hq2
      clear hq2 HJ
      have HSE : Hid (bytes S = ⟨#[40]⟩ ++ bytes jl ++ ⟨#[41]⟩) := by
        show _ = bytes [40] ++ bytes jl ++ bytes [41]
        rw [HE.out, bytes_app, bytes_app]
      have hsz : (bytes jl).size ≤ 1000000000000 := hjl
      generalize bytes jl = js at *
      have hz1 : ¬ (9223372036854775807 < 1 + js.size) := by omega
      have hz2 : ¬ (9223372036854775807 < js.size + 1) := by omega
      have hz3 : ¬ (9223372036854775806 < js.size) := by omega
      have hz4 : ¬ (9223372036854775807 < 1 + js.size + 1) := by omega
      go_wp2_with fail
      go_ret
      exact ⟨by rw [HSE.out]; rfl, hbw⟩
end Go.Proofs.YtgabkmibfhmkmaaGreatDoor

namespace Go.Proofs.YtgabkmibfhmkmaaGreatDoor
open Go.RowKit
set_option maxRecDepth 100000 in
set_option maxHeartbeats 1000000 in
theorem refShown_any (t : GTold) (hv : t.v.ok) (hx : t.x.size ≤ reachN) (w : World) : Calls Tryz.prog 120 #[toldV t] w (RetV (.string (bytes (shownT t))) w) := by
  obtain ⟨S, HS⟩ : ∃ S, Hid (S = shownT t) := ⟨_, rfl⟩
  rw [← HS.out]
  have hrb : (w.alloc (.cells #[.string t.x, .int .i64 t.v.k, .int .i64 t.v.n, .string t.v.s] 46)).heap[w.heap.size]? = some (.cells #[.string t.x, .int .i64 t.v.k, .int .i64 t.v.n, .string t.v.s] 46 (0, 0)) := heapNew rfl
  have hba : Below w.heap.size w (w.alloc (.cells #[.string t.x, .int .i64 t.v.k, .int .i64 t.v.n, .string t.v.s] 46)) := belowA (Below.refl _ _) _
  have HR := Lib.hid (fun W => refText_any t.v hv W)
  have hx' : t.x.size ≤ 140737488351232 := hx
  obtain ⟨b0, b1, b2, b3⟩ := facts4 hrb
  by_cases h0 : t.x.size = 0
  · have e0 : ¬ (0 : Int) < (t.x.size : Int) := by omega
    have HE : Hid (S = textOf t.v) := by show _ = _; rw [HS.out]; simp [shownT, h0]
    clear h0 HS hx hx' hv
    go_enter Tryz.func120, Tryz.ntmps120
    go_wp2_with fail
    refine (HR.out _).mono ?_
    rintro e w1 ⟨rfl, hb⟩
    have Hb := Lib.hid hb
    clear hb
    go_wp2_with fail
    go_ret
    exact ⟨by rw [HE.out]; rfl, below_next hba Hb.out⟩
  · have e0 : (0 : Int) < (t.x.size : Int) := by omega
    have HE : Hid (bytes S = t.x) := by show _ = _; rw [HS.out]; simp only [shownT, if_neg h0]; exact bytes_of _
    clear h0 HS HR hx hx' hv
    go_enter Tryz.func120, Tryz.ntmps120
    go_wp2_with fail
    go_ret
    exact ⟨by rw [HE.out]; rfl, hba⟩
theorem sum_eq (e : GExp) : sumB e = ((e.op == 1) || (e.op == 2)) := by
  unfold sumB
  by_cases h1 : e.op = 1
  · simp [h1]
  · by_cases h2 : e.op = 2
    · simp [h2]
    · have : ¬ (0 < e.op ∧ e.op < 3) := by omega
      simp only [Bool.or_self, beq_eq_false_iff_ne.2 h1, beq_eq_false_iff_ne.2 h2]
      simp only [Bool.and_eq_false_iff, decide_eq_false_iff_not]
      omega
set_option maxRecDepth 100000 in
set_option maxHeartbeats 4000000 in
theorem refExp2_any : ∀ (k : Nat) (e : GExp) (A : Option Addr) (n c d : Nat) (w : World), rightE k e = true → SliceIs (Enc.exp d) w w.heap.size A n c e.kids → e.t.v.ok → e.t.x.size ≤ reachN → (expS k e).length ≤ 1000000000000 →
    Calls Tryz.prog 44 #[expV e A n c] w (RetV (.string (bytes (expS k e))) w) := by
  intro k
  induction k using Nat.strongRecOn with
  | ind k ih =>
    intro e A n c d w hr hk hv hx hlen
    obtain ⟨o, t, ks⟩ := e
    replace hk : SliceIs (Enc.exp d) w w.heap.size A n c ks := hk
    replace hv : t.v.ok := hv
    replace hx : t.x.size ≤ reachN := hx
    show Calls Tryz.prog 44 #[.agg #[.int .i64 o, .string t.x, .int .i64 t.v.k, .int .i64 t.v.n, .string t.v.s, .slice A n c]] w (RetV (.string (bytes (expS k (.mk o t ks)))) w)
    have mixed : Tryz.prog.follows .mixedOrders = true := by kernel_rfl
    have IH := Lib.hid ih
    obtain ⟨S, HS⟩ : ∃ S, Hid (S = expS k (.mk o t ks)) := ⟨_, rfl⟩
    rw [← HS.out]
    have hrb : (w.alloc (.cells #[.int .i64 o, .string t.x, .int .i64 t.v.k, .int .i64 t.v.n, .string t.v.s, .slice A n c] 49)).heap[w.heap.size]? = some (.cells #[.int .i64 o, .string t.x, .int .i64 t.v.k, .int .i64 t.v.n, .string t.v.s, .slice A n c] 49 (0, 0)) := heapNew rfl
    have hba : Below w.heap.size w (w.alloc (.cells #[.int .i64 o, .string t.x, .int .i64 t.v.k, .int .i64 t.v.n, .string t.v.s, .slice A n c] 49)) := belowA (Below.refl _ _) _
    have HK := Lib.hid (hk.keep hba)
    have HN := Lib.hid hk.1
    obtain ⟨c0, c1, c2, c3, c4, c5⟩ := facts6 hrb
    have Hrb := Lib.hid hrb
    have Hba := Lib.hid hba
    clear ih hk hrb hba
    by_cases h0 : o = 0
    · have e0 : (o == 0) = true := by simp [h0]
      have HE : Hid (S = shownT t) := by show _ = _; rw [HS.out, expS_leaf (e := .mk o t ks) h0]; rfl
      have HC := Lib.hid (fun W => refShown_any t hv hx W)
      clear HS h0 hr hlen HK HN IH hx hv
      go_enter Tryz.func44, Tryz.ntmps44
      go_wp2_with fail
      refine (HC.out _).mono ?_
      rintro r w1 ⟨rfl, hb⟩
      have Hb := Lib.hid hb
      clear hb HC
      go_wp2_with fail
      go_ret
      exact ⟨by rw [HE.out]; rfl, below_next Hba.out Hb.out⟩
    have hkids0 := rightE_parts (e := .mk o t ks) h0 hr
    obtain ⟨k, ka, kb, rfl, hkids, ho1, ho3, hra, hrb⟩ := hkids0
    replace ho1 : 1 ≤ o := ho1
    replace ho3 : o ≤ 3 := ho3
    replace hkids : ks = [ka, kb] := hkids
    have e0 : (o == 0) = false := by simp [h0]
    obtain ⟨j, hj⟩ : ∃ j : Nat, o = (j : Int) := ⟨o.toNat, by omega⟩
    subst hj
    have hn2 : n = 2 := by have := HN.out; rw [hkids] at this; simpa using this.symm
    subst hn2
    obtain ⟨b1, o1, kx, cs1, hA1, _, h1, ok1, hc1⟩ := HK.out.at_ (show 0 < 2 by omega)
    obtain ⟨b2, o2, ky, cs2, hA2, _, h2, ok2, hc2⟩ := HK.out.at_ (show 1 < 2 by omega)
    obtain rfl : kx = ka := by have := h1.out; rw [hkids] at this; simpa using this.symm
    obtain rfl : ky = kb := by have := h2.out; rw [hkids] at this; simpa using this.symm
    obtain rfl : A = _ := hA1
    obtain ⟨rfl, rfl⟩ : b1 = b2 ∧ o1 = o2 := by injection hA2 with h; injection h with h h'; exact ⟨h, h'⟩
    rw [Enc.exp_sz] at hc1 hc2
    obtain ⟨g, rfl⟩ : ∃ g, d = g + 1 := by cases d with
      | zero => exact ok1.elim
      | succ g => exact ⟨g, rfl⟩
    obtain ⟨A1, n1, a1, rfl, -, hx1, hv1, k1⟩ := ok1
    obtain ⟨A2, n2, a2, rfl, -, hx2, hv2, k2⟩ := ok2
    have hS : expS (k + 1) (.mk (j : Int) t ks) = inB (decide ((j : Int) = 3) && sumB kx) (expS k kx) ++ [32] ++ opS (j : Int) ++ [32] ++ inB (sumB ky || (decide ((j : Int) = 3) && decide (ky.op = 3))) (expS k ky) := expS_two (e := .mk (j : Int) t ks) h0 hkids
    have hl0 := hlen
    rw [hS] at hl0
    have hla : (expS k kx).length ≤ 1000000000000 := by
      have : (expS k kx).length ≤ (inB (decide ((j : Int) = 3) && sumB kx) (expS k kx)).length := inB_ge _ _
      simp only [List.length_append] at hl0
      omega
    have hlb : (expS k ky).length ≤ 1000000000000 := by
      have : (expS k ky).length ≤ (inB (sumB ky || (decide ((j : Int) = 3) && decide (ky.op = 3))) (expS k ky)).length := inB_ge _ _
      simp only [List.length_append] at hl0
      omega
    have HC1 := Lib.hid (fun (W : World) (hb : Below (w.alloc (.cells #[.int .i64 (j : Int), .string t.x, .int .i64 t.v.k, .int .i64 t.v.n, .string t.v.s, .slice (some ⟨b1, o1, none⟩) 2 c] 49)).heap.size (w.alloc (.cells #[.int .i64 (j : Int), .string t.x, .int .i64 t.v.k, .int .i64 t.v.n, .string t.v.s, .slice (some ⟨b1, o1, none⟩) 2 c] 49)) W) => IH.out k (by omega) kx A1 n1 a1 g W hra (k1.keep hb) hv1 hx1 hla)
    have HC2 := Lib.hid (fun (W : World) (hb : Below (w.alloc (.cells #[.int .i64 (j : Int), .string t.x, .int .i64 t.v.k, .int .i64 t.v.n, .string t.v.s, .slice (some ⟨b1, o1, none⟩) 2 c] 49)).heap.size (w.alloc (.cells #[.int .i64 (j : Int), .string t.x, .int .i64 t.v.k, .int .i64 t.v.n, .string t.v.s, .slice (some ⟨b1, o1, none⟩) 2 c] 49)) W) => IH.out k (by omega) ky A2 n2 a2 g W hrb (k2.keep hb) hv2 hx2 hlb)
    obtain ⟨L, HL⟩ : ∃ L, Hid (L = inB (decide ((j : Int) = 3) && sumB kx) (expS k kx)) := ⟨_, rfl⟩
    obtain ⟨R, HR⟩ : ∃ R, Hid (R = inB (sumB ky || (decide ((j : Int) = 3) && decide (ky.op = 3))) (expS k ky)) := ⟨_, rfl⟩
    have HSS : Hid (S = L ++ [32] ++ opS (j : Int) ++ [32] ++ R) := by show _ = _; rw [HS.out, hS, HL.out, HR.out]
    have HLL : Hid (L.length ≤ 1000000000002 ∧ R.length ≤ 1000000000002 ∧ (expS k kx).length ≤ 1000000000000 ∧ (expS k ky).length ≤ 1000000000000) := by
      have h1 := inB_len (decide ((j : Int) = 3) && sumB kx) (expS k kx)
      have h2 := inB_len (sumB ky || (decide ((j : Int) = 3) && decide (ky.op = 3))) (expS k ky)
      rw [← HL.out] at h1
      rw [← HR.out] at h2
      exact ⟨by omega, by omega, hla, hlb⟩
    have HJ := Lib.hid (And.intro ho1 ho3)
    have x0 := hc1 0 _ rfl
    have x1 := hc1 1 _ rfl
    have x2 := hc1 2 _ rfl
    have x3 := hc1 3 _ rfl
    have x4 := hc1 4 _ rfl
    have x5 := hc1 5 _ rfl
    have y0 := hc2 0 _ rfl
    have y1 := hc2 1 _ rfl
    have y2 := hc2 2 _ rfl
    have y3 := hc2 3 _ rfl
    have y4 := hc2 4 _ rfl
    have y5 := hc2 5 _ rfl
    simp only [Nat.zero_mul, Nat.one_mul, Nat.add_zero] at x0 x1 x2 x3 x4 x5 y0 y1 y2 y3 y4 y5
    clear h1 h2 hc1 hc2 k1 k2 hA2 hra hrb HK HN IH hr hv hv1 hv2 hx hx1 hx2 hS hl0 hlen hla hlb HS hkids ho1 ho3
    generalize hwb : (w.alloc (.cells #[.int .i64 (j : Int), .string t.x, .int .i64 t.v.k, .int .i64 t.v.n, .string t.v.s, .slice (some ⟨b1, o1, none⟩) 2 c] 49)) = wb at *
    go_enter Tryz.func44, Tryz.ntmps44
    go_wp2_with fail
    try simp only [hwb]
    clear hwb
    go_wp2_with fail
    have Hk := Lib.hid (fun (V : World) (hb : Below wb.heap.size wb V) => And.intro (below_cell hb c0) (And.intro (below_cell hb c5) (And.intro (below_cell hb x0) (And.intro (below_cell hb x1) (And.intro (below_cell hb x2) (And.intro (below_cell hb x3) (And.intro (below_cell hb x4) (And.intro (below_cell hb x5) (And.intro (below_cell hb y0) (And.intro (below_cell hb y1) (And.intro (below_cell hb y2) (And.intro (below_cell hb y3) (And.intro (below_cell hb y4) (below_cell hb y5))))))))))))))
    have hb1 := Below.refl wb.heap.size wb
    go_region_held3 (fun w' => w'.cell? ⟨w.heap.size, 0, none⟩ = some (.int .i64 (j : Int)) ∧ w'.cell? ⟨w.heap.size, 5, none⟩ = some (.slice (some ⟨b1, o1, none⟩) 2 c) ∧ w'.cell? ⟨b1, o1, none⟩ = some (.int .i64 kx.op) ∧ w'.cell? ⟨b1, o1 + 1, none⟩ = some (.string kx.t.x) ∧ w'.cell? ⟨b1, o1 + 2, none⟩ = some (.int .i64 kx.t.v.k) ∧ w'.cell? ⟨b1, o1 + 3, none⟩ = some (.int .i64 kx.t.v.n) ∧ w'.cell? ⟨b1, o1 + 4, none⟩ = some (.string kx.t.v.s) ∧ w'.cell? ⟨b1, o1 + 5, none⟩ = some (.slice A1 n1 a1) ∧ w'.cell? ⟨b1, o1 + 6, none⟩ = some (.int .i64 ky.op) ∧ w'.cell? ⟨b1, o1 + 6 + 1, none⟩ = some (.string ky.t.x) ∧ w'.cell? ⟨b1, o1 + 6 + 2, none⟩ = some (.int .i64 ky.t.v.k) ∧ w'.cell? ⟨b1, o1 + 6 + 3, none⟩ = some (.int .i64 ky.t.v.n) ∧ w'.cell? ⟨b1, o1 + 6 + 4, none⟩ = some (.string ky.t.v.s) ∧ w'.cell? ⟨b1, o1 + 6 + 5, none⟩ = some (.slice A2 n2 a2))
      (first
        | (refine Hk.out _ ?_; (repeat (first | with_reducible exact Below.refl _ _ | with_reducible assumption | with_reducible refine Below.drew ?_ | with_reducible refine belowA ?_ _)); done)
        | go_keep)
      ((first
        | (go_at_call 44
           first
             | (have hS2 := hS1
                refine (HC2.out _ (by repeat (first | with_reducible exact Below.refl _ _ | with_reducible assumption | with_reducible refine Below.drew ?_ | with_reducible refine belowA ?_ _))).mono ?_
                rintro r wN ⟨rfl, hq1⟩
                have hb1 : Below wb.heap.size wb wN := by
                  refine below_next ?_ hq1
                  repeat (first | with_reducible exact Below.refl _ _ | with_reducible assumption | with_reducible refine Below.drew ?_ | with_reducible refine belowA ?_ _)
                clear hq1)
             | (refine (HC1.out _ (by repeat (first | with_reducible exact Below.refl _ _ | with_reducible assumption | with_reducible refine Below.drew ?_ | with_reducible refine belowA ?_ _))).mono ?_
                rintro r wN ⟨rfl, hq1⟩
                have hb1 : Below wb.heap.size wb wN := by
                  refine below_next ?_ hq1
                  repeat (first | with_reducible exact Below.refl _ _ | with_reducible assumption | with_reducible refine Below.drew ?_ | with_reducible refine belowA ?_ _)
                clear hq1
                have hS1 : True := trivial))))
    go_wp2_with fail
    go_region_held3 (fun w' => w'.cell? ⟨w.heap.size, 0, none⟩ = some (.int .i64 (j : Int)) ∧ w'.cell? ⟨w.heap.size, 5, none⟩ = some (.slice (some ⟨b1, o1, none⟩) 2 c) ∧ w'.cell? ⟨b1, o1, none⟩ = some (.int .i64 kx.op) ∧ w'.cell? ⟨b1, o1 + 6, none⟩ = some (.int .i64 ky.op))
      (first
        | (have hk9 := Hk.out _ (by repeat (first | with_reducible exact Below.refl _ _ | with_reducible assumption | with_reducible refine Below.drew ?_ | with_reducible refine belowA ?_ _)); exact ⟨hk9.1, hk9.2.1, hk9.2.2.1, hk9.2.2.2.2.2.2.2.2.1⟩)
        | go_keep)
      (fail)
    have HB2 := Lib.hid hb1
    have HXk := Lib.hid Hk
    clear hb1 x0 x1 x2 x3 x4 x5 y0 y1 y2 y3 y4 y5 c0 c1 c2 c3 c4 c5 Hk HC1 HC2
    have HD := Lib.hid (Below.drew (Below.refl wN.heap.size wN))
    have c0 := ((HXk.out).out _ HB2.out).1
    have HLk := Lib.hid (HLL.out.2.2)
    obtain ⟨sx, hsx⟩ : ∃ sx, Hid (sx = expS k kx) := ⟨_, rfl⟩
    obtain ⟨sy, hsy⟩ : ∃ sy, Hid (sy = expS k ky) := ⟨_, rfl⟩
    rw [← hsx.out] at HL HLk
    rw [← hsy.out] at HR HLk
    simp only [← hsx.out, ← hsy.out]
    have Hb4 := Lib.hid (below_next HB2.out HD.out)
    generalize hw4 : wN.drew = w4 at *
    clear hw4
    have hl1 := HLk.out.1
    have hl2 := HLk.out.2
    obtain ⟨cc, HC⟩ : ∃ cc, Hid (cc = (((j : Int) == 3) && ((kx.op == 1) || (kx.op == 2)))) := ⟨_, rfl⟩
    obtain ⟨dd, HD2⟩ : ∃ dd, Hid (dd = (((ky.op == 1) || (ky.op == 2)) || (((j : Int) == 3) && (ky.op == 3)))) := ⟨_, rfl⟩
    have HL3 : Hid (L = inB cc sx) := by show _ = _; rw [HL.out, HC.out, sum_eq]; rfl
    have HR3 : Hid (R = inB dd sy) := by show _ = _; rw [HR.out, HD2.out, sum_eq]; rfl
    clear HL HR
    go_upto_region 5 with fail
    go_cut [43] (fun v W => v = .bool cc ∧ W = w4)
    case first =>
      clear HD2 HL3 HR3 HSS HLL HXk
      by_cases h3 : (j : Int) = 3
      · have q3 : ((j : Int) == 3) = true := by simp [h3]
        by_cases h1 : kx.op = 1
        · have q1 : (kx.op == 1) = true := by simp [h1]
          clear h1 h3
          go_wp2_with fail
          go_meet
          exact ⟨by rw [HC.out]; simp [*], rfl⟩
        · have q1 : (kx.op == 1) = false := by simp [h1]
          by_cases h2 : kx.op = 2
          · have q2 : (kx.op == 2) = true := by simp [h2]
            clear h1 h2 h3
            go_wp2_with fail
            go_meet
            exact ⟨by rw [HC.out]; simp [*], rfl⟩
          · have q2 : (kx.op == 2) = false := by simp [h2]
            clear h1 h2 h3
            go_wp2_with fail
            go_meet
            exact ⟨by rw [HC.out]; simp [*], rfl⟩
      · have q3 : ((j : Int) == 3) = false := by simp [h3]
        clear h3
        go_wp2_with fail
        go_meet
        exact ⟨by rw [HC.out]; simp [*], rfl⟩
    case rest =>
    obtain ⟨rfl, rfl⟩ := hcut
    go_upto_if 43 with fail
    go_cut [3] (fun v W => v = .string (bytes L) ∧ W = wc)
    case first =>
      clear HD2 HC HR3 HSS HLL HXk
      cases cc with
      | false =>
        go_wp2_with fail
        go_meet
        exact ⟨by rw [HL3.out]; rfl, rfl⟩
      | true =>
        have HI := Lib.hid (bytes_in sx)
        have hz : (bytes sx).size ≤ 1000000000000 := hl1
        generalize bytes sx = sb at *
        have hz1 : ¬ (9223372036854775807 < 1 + sb.size) := by omega
        have hz2 : ¬ (9223372036854775807 < 1 + sb.size + 1) := by omega
        have hz4 : ¬ (9223372036854775807 < sb.size + 1) := by omega
        have hz3 : ¬ (9223372036854775806 < sb.size) := by omega
        go_wp2_with fail
        go_meet
        exact ⟨by rw [HL3.out, ← HI.out], rfl⟩
    case rest =>
    obtain ⟨rfl, rfl⟩ := hcut
    go_upto_region 7 with fail
    go_cut [61] (fun v W => v = .bool dd ∧ W = wc)
    case first =>
      clear HC HL3 HR3 HSS HLL HXk
      by_cases h1 : ky.op = 1
      · have q1 : (ky.op == 1) = true := by simp [h1]
        have hyu : undef = Value.tuple #[] := rfl
        clear h1
        go_wp2_with fail
        go_meet
        exact ⟨by rw [HD2.out]; simp [*], rfl⟩
      · have q1 : (ky.op == 1) = false := by simp [h1]
        by_cases h2 : ky.op = 2
        · have q2 : (ky.op == 2) = true := by simp [h2]
          have hyu : undef = Value.tuple #[] := rfl
          clear h1 h2
          go_wp2_with fail
          go_meet
          exact ⟨by rw [HD2.out]; simp [*], rfl⟩
        · have q2 : (ky.op == 2) = false := by simp [h2]
          by_cases h3 : (j : Int) = 3
          · have q3 : ((j : Int) == 3) = true := by simp [h3]
            by_cases h4 : ky.op = 3
            · have q4 : (ky.op == 3) = true := by simp [h4]
              clear h1 h2 h3 h4
              go_wp2_with fail
              go_meet
              exact ⟨by rw [HD2.out]; simp [*], rfl⟩
            · have q4 : (ky.op == 3) = false := by simp [h4]
              clear h1 h2 h3 h4
              go_wp2_with fail
              go_meet
              exact ⟨by rw [HD2.out]; simp [*], rfl⟩
          · have q3 : ((j : Int) == 3) = false := by simp [h3]
            have hyu : undef = Value.tuple #[] := rfl
            clear h1 h2 h3
            go_wp2_with fail
            go_meet
            exact ⟨by rw [HD2.out]; simp [*], rfl⟩
    case rest =>
    obtain ⟨rfl, rfl⟩ := hcut
    go_upto_if 61 with fail
    go_cut [4] (fun v W => v = .string (bytes R) ∧ W = wc)
    case first =>
      clear HD2 HC HL3 HSS HLL HXk
      cases dd with
      | false =>
        go_wp2_with fail
        go_meet
        exact ⟨by rw [HR3.out]; rfl, rfl⟩
      | true =>
        have HI := Lib.hid (bytes_in sy)
        have hz : (bytes sy).size ≤ 1000000000000 := hl2
        generalize bytes sy = sb at *
        have hz1 : ¬ (9223372036854775807 < 1 + sb.size) := by omega
        have hz2 : ¬ (9223372036854775807 < 1 + sb.size + 1) := by omega
        have hz4 : ¬ (9223372036854775807 < sb.size + 1) := by omega
        have hz3 : ¬ (9223372036854775806 < sb.size) := by omega
        go_wp2_with fail
        go_meet
        exact ⟨by rw [HR3.out, ← HI.out], rfl⟩
    case rest =>
    obtain ⟨rfl, rfl⟩ := hcut
    obtain ⟨hj1, hj3⟩ := HJ.out
    obtain ⟨hm1, hm2, -, -⟩ := HLL.out
    have e1 : (bytes L).size = L.length := rfl
    have e2 : (bytes R).size = R.length := rfl
    have HSE : Hid (bytes S = bytes L ++ bytes ([32] ++ opS (j : Int) ++ [32]) ++ bytes R) := by
      show _ = _
      rw [HSS.out, bytes_app, bytes_app]
      congr 1
      simp
    generalize bytes L = sl at *
    generalize bytes R = sr at *
    have z1 : ¬ (9223372036854775807 < sl.size + 3) := by omega
    have z2 : ¬ (9223372036854775807 < sl.size + 3 + sr.size) := by omega
    have c0 := ((HXk.out).out _ Hb4.out).1
    clear HSS HLL HXk HR3 HL3 hm1 hm2 hl1 hl2 HLk HC HD2
    have hj : j = 1 ∨ j = 2 ∨ j = 3 := by omega
    rcases hj with rfl | rfl | rfl
    · have e : ((1 : Nat) : Int) = 1 := rfl
      simp only [e] at c0 ⊢
      have c1 := cellA (o := .cells #[.string ⟨#[]⟩, .string ⟨#[32, 43, 32]⟩, .string ⟨#[32, 45, 32]⟩, .string ⟨#[32, 42, 32]⟩] 9) c0
      go_wp2_with fail
      go_ret
      exact ⟨by rw [HSE.out]; rfl, below_next Hba.out (belowA Hb4.out _)⟩
    · have e : ((2 : Nat) : Int) = 2 := rfl
      simp only [e] at c0 ⊢
      have c1 := cellA (o := .cells #[.string ⟨#[]⟩, .string ⟨#[32, 43, 32]⟩, .string ⟨#[32, 45, 32]⟩, .string ⟨#[32, 42, 32]⟩] 9) c0
      go_wp2_with fail
      go_ret
      exact ⟨by rw [HSE.out]; rfl, below_next Hba.out (belowA Hb4.out _)⟩
    · have e : ((3 : Nat) : Int) = 3 := rfl
      simp only [e] at c0 ⊢
      have c1 := cellA (o := .cells #[.string ⟨#[]⟩, .string ⟨#[32, 43, 32]⟩, .string ⟨#[32, 45, 32]⟩, .string ⟨#[32, 42, 32]⟩] 9) c0
      go_wp2_with fail
      go_ret
      exact ⟨by rw [HSE.out]; rfl, below_next Hba.out (belowA Hb4.out _)⟩
end Go.Proofs.YtgabkmibfhmkmaaGreatDoor

namespace Go.Proofs.YtgabkmibfhmkmaaGreatDoor
open Go.RowKit
theorem join_step {l : List GTold} {g col : Int} {k : Nat} {t : GTold} (h : l[k]? = some t) : Lib.join (thingsL g col 0 (l.take (k + 1))) sep2 = Lib.join (thingsL g col 0 (l.take k)) sep2 ++ (if k = 0 then [] else sep2) ++ thing g col k t := by
  rw [thingsL_take _ _ h]
  by_cases hk : k = 0
  · subst hk
    rw [List.take_zero]
    simp only [thingsL, List.nil_append, if_true, List.append_nil]
    rw [join_one]
    simp [Lib.join, List.intercalate]
  · rw [if_neg hk, join_snoc]
    intro e
    have h1 := congrArg List.length e
    have hkl : k < l.length := (List.getElem?_eq_some_iff.1 h).1
    rw [thingsL_len, List.length_take] at h1
    simp only [List.length_nil] at h1
    omega
theorem join_grow {l : List GTold} {g col : Int} : ∀ (k : Nat), (Lib.join (thingsL g col 0 (l.take k)) sep2).length ≤ (Lib.join (thingsL g col 0 l) sep2).length := by
  intro k
  by_cases hk : l.length ≤ k
  · rw [List.take_of_length_le hk]; exact Nat.le_refl _
  · have : ∀ d, k + d ≤ l.length → (Lib.join (thingsL g col 0 (l.take k)) sep2).length ≤ (Lib.join (thingsL g col 0 (l.take (k + d))) sep2).length := by
      intro d
      induction d with
      | zero => intro _; exact Nat.le_refl _
      | succ d ih =>
        intro hd
        have h1 := ih (by omega)
        have h2 := join_step (g := g) (col := col) (List.getElem?_eq_getElem (l := l) (i := k + d) (by omega))
        rw [show k + (d + 1) = k + d + 1 from rfl, h2]
        simp only [List.length_append]
        omega
    have h := this (l.length - k) (by omega)
    rwa [show k + (l.length - k) = l.length by omega, List.take_length] at h
def raF (g k n c b o H : Nat) (s1 sa sx : ByteArray) (t : GTold) (i : Nat) (v : Value) (W : World) : Prop := match i with
  | 0 => v = .string s1
  | 1 => ∃ h, v = .slice (some ⟨h, 0, none⟩) 5 5 ∧ W.cell? ⟨h, g, none⟩ = some (.string sa)
  | 2 => v = .int .i64 g
  | 3 => ∃ h, v = .pointer (some ⟨h, g, none⟩) ∧ W.cell? ⟨h, g, none⟩ = some (.string sa)
  | 4 => v = .string sa
  | 5 => v = .string (s1 ++ sa)
  | 6 => v = .string (s1 ++ sa ++ ⟨#[40]⟩)
  | 7 => v = .pointer (some ⟨H, 1, none⟩)
  | 8 => v = .slice (some ⟨b, o, none⟩) n c
  | 9 => v = .int .i64 k
  | 10 => v = .pointer (some ⟨b, o + k * 4, none⟩)
  | 11 => v = .agg #[.string t.x, .int .i64 t.v.k, .int .i64 t.v.n, .string t.v.s]
  | 12 => v = .string sx
  | 13 => v = .string (s1 ++ sa ++ ⟨#[40]⟩ ++ sx)
  | 14 => v = .string (s1 ++ sa ++ ⟨#[40]⟩ ++ sx ++ ⟨#[41]⟩)
  | _ => True
theorem raF_keep {g k n c b o H : Nat} {s1 sa sx : ByteArray} {t : GTold} {i : Nat} {v : Value} {W W' : World} (h : raF g k n c b o H s1 sa sx t i v W) (hb : Below W.heap.size W W') : raF g k n c b o H s1 sa sx t i v W' := by
  match i, h with
  | 0, h => exact h
  | 1, ⟨q, h1, h2⟩ => exact ⟨q, h1, below_cell hb h2⟩
  | 2, h => exact h
  | 3, ⟨q, h1, h2⟩ => exact ⟨q, h1, below_cell hb h2⟩
  | 4, h => exact h
  | 5, h => exact h
  | 6, h => exact h
  | 7, h => exact h
  | 8, h => exact h
  | 9, h => exact h
  | 10, h => exact h
  | 11, h => exact h
  | 12, h => exact h
  | 13, h => exact h
  | 14, h => exact h
  | _ + 15, _ => exact trivial
set_option maxRecDepth 100000 in
set_option maxHeartbeats 4000000 in
theorem refAtom_any (g : Nat) (col : Int) (x : GAtom) (A : Option Addr) (n c : Nat) (w : World) (ht : SliceIs Enc.told w w.heap.size A n c x.args) (hg : g ≤ 4) (hlen : (atomS x (g : Int) col).length ≤ 1000000000000) :
    Calls Tryz.prog 117 #[.agg #[.string x.rel, .slice A n c], .int .i64 (g : Int), .int .i64 col] w (RetV (.string (bytes (atomS x (g : Int) col))) w) := by
  have mixed : Tryz.prog.follows .mixedOrders = true := by kernel_rfl
  have hn := ht.bound
  have Hlen := Lib.hid ht.1
  have hrb : (w.alloc (.cells #[.string x.rel, .slice A n c] 45)).heap[w.heap.size]? = some (.cells #[.string x.rel, .slice A n c] 45 (0, 0)) := heapNew rfl
  have hba : Below w.heap.size w (w.alloc (.cells #[.string x.rel, .slice A n c] 45)) := belowA (Below.refl _ _) _
  have HT := Lib.hid (ht.keep hba)
  obtain ⟨S, HS⟩ : ∃ S, Hid (S = atomS x (g : Int) col) := ⟨_, rfl⟩
  rw [← HS.out]
  have HE : Hid (S = x.rel.toList ++ [40] ++ Lib.join (thingsL (g : Int) col 0 x.args) sep2 ++ [41]) := by show _ = _; rw [HS.out]; unfold atomS thingsS; simp only [List.append_assoc]
  have HL : Hid (x.rel.size + (Lib.join (thingsL (g : Int) col 0 x.args) sep2).length + 2 ≤ 1000000000000) := by
    show _ ≤ _
    rw [← HS.out, HE.out] at hlen
    simp only [List.length_append, List.length_cons, List.length_nil, ba_len] at hlen
    omega
  have HLt : Hid (∀ (i : Nat) (t : GTold), x.args[i]? = some t → (thing (g : Int) col i t).length ≤ 1000000000000) := fun i t hi => by
    have h1 := thingsL_get (g : Int) col x.args 0 i t hi
    rw [Nat.zero_add] at h1
    have := join_ge _ _ (List.mem_of_getElem? h1)
    have := HL.out
    omega
  obtain ⟨b0, b1⟩ := facts2 hrb
  have hxs : x.rel.size ≤ 1000000000000 := by have := HL.out; omega
  have hz1 : ¬ (9223372036854775807 < x.rel.size + 1) := by omega
  have hz3 : ¬ (9223372036854775806 < x.rel.size) := by omega
  have HR0 := Lib.hid hrb
  have HB0 := Lib.hid hba
  have HS0 : Hid (x.rel ++ ⟨#[40]⟩ = bytes (x.rel.toList ++ [40] ++ Lib.join (thingsL (g : Int) col 0 (x.args.take 0)) sep2)) := by
    show _ = _
    rw [List.take_zero]
    simp only [thingsL, show Lib.join ([] : List (List UInt8)) sep2 = [] from rfl, List.append_nil]
    rw [← bytes_app, bytes_of]
    rfl
  clear ht hlen HS hrb hba
  generalize hwb : w.alloc (.cells #[.string x.rel, .slice A n c] 45) = wb at *
  go_enter Tryz.func117, Tryz.ntmps117
  go_wp2_with fail
  try simp only [hwb]
  clear hwb
  go_wp2_with fail
  clear b0 b1 hz1 hz3
  go_loopw [7, 8] (fun v i wr => ∃ (k : Nat) (s : ByteArray), k ≤ n ∧ v = .string s ∧ i = .int .i64 k ∧ Hid (s = bytes (x.rel.toList ++ [40] ++ Lib.join (thingsL (g : Int) col 0 (x.args.take k)) sep2)) ∧ Hid (Below wb.heap.size wb wr)) (fun _ i _ => n - (intOf i).toNat)
  case atStart => exact ⟨0, _, by omega, rfl, rfl, HS0, Below.refl _ _⟩
  case round =>
    clear HS0
    obtain ⟨k, s, hk, rfl, rfl, Hs, HBr⟩ := hrel
    have i0 : (0 : Int) ≤ (k : Int) := by omega
    have hrX := (HBr.out.block _ (Array.getElem?_eq_some_iff.1 HR0.out).1).trans HR0.out
    obtain ⟨f0, f1⟩ := facts2 hrX
    have hss : s.size ≤ 1000000000000 := by
      have h1 := Hs.out
      have h2 := join_grow (l := x.args) (g := (g : Int)) (col := col) k
      have h3 := HL.out
      have h4 := congrArg ByteArray.size h1
      rw [bytes_size] at h4
      simp only [List.length_append, List.length_cons, List.length_nil, ba_len] at h4
      omega
    by_cases hlt : k < n
    · have i1 : (k : Int) < (n : Int) := by omega
      obtain ⟨b, o, t, rfl, _, hx, x0, x1, x2, x3, hxo, hxv⟩ := (HT.out.keep HBr.out).told_at hlt
      have HC := Lib.hid (fun (W : World) => refShown_any t hxv hxo W)
      have HTh := Lib.hid (HLt.out k t hx.out)
      obtain ⟨s1, Hs1⟩ : ∃ s1, Hid (s1 = s ++ bytes (if k = 0 then [] else sep2)) := ⟨_, rfl⟩
      have hs1s : s1.size ≤ 1000000000002 := by
        have h4 := congrArg ByteArray.size Hs1.out
        rw [ByteArray.size_append, bytes_size] at h4
        split at h4
        · simp at h4; omega
        · have : sep2.length = 2 := rfl
          omega
      have HNx : Hid (s1 ++ bytes (thing (g : Int) col k t) = bytes (x.rel.toList ++ [40] ++ Lib.join (thingsL (g : Int) col 0 (x.args.take (k + 1))) sep2)) := by
        show _ = _
        rw [join_step hx.out, Hs1.out, Hs.out, bytes_app, bytes_app]
        congr 1
        simp only [List.append_assoc]
      clear hx hxo hxv Hs
      go_upto_if 20 with fail
      go_cut [7] (fun v W => v = .string s1 ∧ W = wr)
      case first =>
        by_cases hk0 : k = 0
        · have i2 : ¬ (0 : Int) < (k : Int) := by omega
          have HS1 : Hid (s1 = s) := by show _ = _; rw [Hs1.out, if_pos hk0, ← toList_inj, ba_app, bytes_list, List.append_nil]
          clear hk0
          go_wp2_with fail
          go_meet
          exact ⟨by rw [HS1.out], rfl⟩
        · have i2 : (0 : Int) < (k : Int) := by omega
          have HS1 : Hid (s1 = s ++ ⟨#[44, 32]⟩) := by show _ = _; rw [Hs1.out, if_neg hk0]; rfl
          have hz1 : ¬ (9223372036854775807 < s.size + 2) := by omega
          have hz3 : ¬ (9223372036854775805 < s.size) := by omega
          clear hk0
          go_wp2_with fail
          go_meet
          exact ⟨by rw [HS1.out], rfl⟩
      case rest =>
        obtain ⟨rfl, rfl⟩ := hcut
        clear Hs1 hss
        by_cases hc : 0 < (g : Int) ∧ (k : Int) = col
        · obtain ⟨q1, q2'⟩ := hc
          have q2 : ((k : Int) == col) = true := by simp [q2']
          have hTe : thing (g : Int) col k t = aggS (g : Int) ++ [40] ++ shownT t ++ [41] := by unfold thing; rw [if_pos ⟨q1, q2'⟩]
          have HTe : Hid (s1 ++ bytes (thing (g : Int) col k t) = s1 ++ bytes (aggS (g : Int)) ++ ⟨#[40]⟩ ++ bytes (shownT t) ++ ⟨#[41]⟩) := by
            show _ = s1 ++ bytes (aggS (g : Int)) ++ bytes [40] ++ bytes (shownT t) ++ bytes [41]
            rw [hTe, ← bytes_app, ← bytes_app, ← bytes_app, ← ByteArray.append_assoc, ← ByteArray.append_assoc, ← ByteArray.append_assoc]
          have e1 : (thing (g : Int) col k t).length = (aggS (g : Int)).length + 1 + (shownT t).length + 1 := by rw [hTe]; simp only [List.length_append, List.length_cons, List.length_nil]
          have e0 := HTh.out
          have e2 : (bytes (aggS (g : Int))).size = (aggS (g : Int)).length := rfl
          have e3 : (bytes (shownT t)).size = (shownT t).length := rfl
          have hag := aggS_len (g : Int)
          have j0 : (0 : Int) ≤ (g : Int) := by omega
          have j1 : (g : Int) < 5 := by omega
          clear hTe HTh q2'
          have hg4 : g = 1 ∨ g = 2 ∨ g = 3 ∨ g = 4 := by omega
          have hsx : (bytes (shownT t)).size ≤ 1000000000000 := by omega
          have hsa : (bytes (aggS (g : Int))).size ≤ 5 := by omega
          have kW : ∀ W : World, (W.alloc (.cells #[.string ⟨#[]⟩, .string ⟨#[99, 111, 117, 110, 116]⟩, .string ⟨#[115, 117, 109]⟩, .string ⟨#[109, 105, 110]⟩, .string ⟨#[109, 97, 120]⟩] 9)).cell? ⟨W.heap.size, g, none⟩ = some (.string (bytes (aggS (g : Int)))) := fun W => by
            rcases hg4 with rfl | rfl | rfl | rfl
            · exact (cell_of_row _ _ 1 _ _ _ (heapNew rfl)).trans rfl
            · exact (cell_of_row _ _ 2 _ _ _ (heapNew rfl)).trans rfl
            · exact (cell_of_row _ _ 3 _ _ _ (heapNew rfl)).trans rfl
            · exact (cell_of_row _ _ 4 _ _ _ (heapNew rfl)).trans rfl
          clear e0 e1 e2 e3 hag hg4
          generalize bytes (shownT t) = sx at *
          generalize bytes (aggS (g : Int)) = sa at *
          have y1 : ¬ (9223372036854775807 < s1.size + sa.size) := by omega
          have y2 : ¬ (9223372036854775807 < s1.size + sa.size + 1) := by omega
          have y6 : ¬ (9223372036854775807 < s1.size + sa.size + 1 + sx.size) := by omega
          have y8 : ¬ (9223372036854775807 < s1.size + sa.size + 1 + sx.size + 1) := by omega
          go_upto_region 8 with fail
          refine drawn2 mixed 15 55 [30, 31, 32, 33, 34, 35, 36, 37, 38, 39, 40, 41, 42, 43, 44] (fun _ W => Below wc.heap.size wc W) (raF g k n c b o w.heap.size s1 sa sx t) (fun _ W W' => Below W.heap.size W W') rfl (by kernel_rfl) (by kernel_rfl) rfl (fun j _ => below_drewN _ 1 _) (fun i j v W W' _ _ _ h h' => raF_keep h h') (fun _ _ _ _ _ _ _ _ h h' => below_next h h') ?_ ?_
          · intro i o2' a2 W hi ho hd hold hG _ hw
            have hr1 : a2.tmps[1]? = some (.int .i64 g) := hold 1 (by kernel_rfl)
            have hr3 : a2.tmps[3]? = some (.pointer (some ⟨w.heap.size, 0, none⟩)) := hold 3 (by kernel_rfl)
            have hr7 : a2.tmps[7]? = some (.string s1) := hold 7 (by kernel_rfl)
            have hr8 : a2.tmps[8]? = some (.int .i64 k) := hold 8 (by kernel_rfl)
            clear hold
            match i, hi, ho with
            | 0, _, ho =>
              injection ho with ho; subst ho
              exact op_val _ (by simp [execOp, Act.eval, hr7, go_sem]) ⟨_, rfl, Below.refl _ _, rfl⟩
            | 1, _, ho =>
              injection ho with ho; subst ho
              exact op_bslice 107 9 5 _ rfl 1 [.string ⟨#[]⟩, .string ⟨#[99, 111, 117, 110, 116]⟩, .string ⟨#[115, 117, 109]⟩, .string ⟨#[109, 105, 110]⟩, .string ⟨#[109, 97, 120]⟩] Tryz.underlying107 (by kernel_rfl) (by decide) rfl (by decide) (by decide) (by simp [Act.eval]) (fun v hv => by simp at hv; rcases hv with rfl | rfl | rfl | rfl | rfl <;> rfl) ⟨_, rfl, belowA (Below.refl _ _) _, _, rfl, kW W⟩
            | 2, _, ho =>
              injection ho with ho; subst ho
              exact op_val _ (by simp [execOp, Act.eval, hr1, go_sem]) ⟨_, rfl, Below.refl _ _, rfl⟩
            | 3, _, ho =>
              injection ho with ho; subst ho
              obtain ⟨v1, h1, e1⟩ := hw 1 31 (by kernel_rfl)
              obtain ⟨q1, rfl, kc1⟩ := e1
              obtain ⟨v2, h2, e2⟩ := hw 2 32 (by kernel_rfl)
              obtain rfl : v2 = _ := e2
              exact op_val _ (by simp [execOp, Act.eval, h1, h2, go_sem, j0, j1]) ⟨_, rfl, Below.refl _ _, _, rfl, kc1⟩
            | 4, _, ho =>
              injection ho with ho; subst ho
              obtain ⟨v3, h3, e3⟩ := hw 3 33 (by kernel_rfl)
              obtain ⟨q3, rfl, kc3⟩ := e3
              exact op_val _ (by simp [execOp, Act.eval, h3, go_sem, kc3]) ⟨_, rfl, Below.refl _ _, rfl⟩
            | 5, _, ho =>
              injection ho with ho; subst ho
              obtain ⟨v0, h0, e0⟩ := hw 0 30 (by kernel_rfl)
              obtain rfl : v0 = _ := e0
              obtain ⟨v4, h4, e4⟩ := hw 4 34 (by kernel_rfl)
              obtain rfl : v4 = _ := e4
              exact op_val _ (by simp [execOp, Act.eval, h0, h4, go_sem, y1]) ⟨_, rfl, Below.refl _ _, rfl⟩
            | 6, _, ho =>
              injection ho with ho; subst ho
              obtain ⟨v5, h5, e5⟩ := hw 5 35 (by kernel_rfl)
              obtain rfl : v5 = _ := e5
              exact op_val _ (by simp [execOp, Act.eval, h5, go_sem, y2]) ⟨_, rfl, Below.refl _ _, rfl⟩
            | 7, _, ho =>
              injection ho with ho; subst ho
              exact op_val _ (by simp [execOp, Act.eval, hr3, go_sem]) ⟨_, rfl, Below.refl _ _, rfl⟩
            | 8, _, ho =>
              injection ho with ho; subst ho
              obtain ⟨v7, h7, e7⟩ := hw 7 37 (by kernel_rfl)
              obtain rfl : v7 = _ := e7
              exact op_val _ (by simp [execOp, Act.eval, h7, run_load1 Tryz.underlying43 (below_cell hG f1)]) ⟨_, rfl, Below.refl _ _, rfl⟩
            | 9, _, ho =>
              injection ho with ho; subst ho
              exact op_val _ (by simp [execOp, Act.eval, hr8, go_sem]) ⟨_, rfl, Below.refl _ _, rfl⟩
            | 10, _, ho =>
              injection ho with ho; subst ho
              obtain ⟨v8, h8, e8⟩ := hw 8 38 (by kernel_rfl)
              obtain rfl : v8 = _ := e8
              obtain ⟨v9, h9, e9⟩ := hw 9 39 (by kernel_rfl)
              obtain rfl : v9 = _ := e9
              exact op_val _ (by simp [execOp, Act.eval, h8, h9, go_sem, i0, i1]) ⟨_, rfl, Below.refl _ _, rfl⟩
            | 11, _, ho =>
              injection ho with ho; subst ho
              obtain ⟨v10, h10, e10⟩ := hw 10 40 (by kernel_rfl)
              obtain rfl : v10 = _ := e10
              have z0 := below_cell hG x0; have z1 := below_cell hG x1; have z2 := below_cell hG x2; have z3 := below_cell hG x3
              exact op_val _ (by simp [execOp, Act.eval, h10, go_sem, z0, z1, z2, z3]) ⟨_, rfl, Below.refl _ _, rfl⟩
            | 12, _, ho =>
              injection ho with ho; subst ho
              obtain ⟨v11, h11, e11⟩ := hw 11 41 (by kernel_rfl)
              obtain rfl : v11 = _ := e11
              refine op_call 120 _ rfl rfl #[.agg #[.string t.x, .int .i64 t.v.k, .int .i64 t.v.n, .string t.v.s]] (by simp [Act.eval, h11]) _ Tryz.func120 (by kernel_rfl) (by kernel_rfl) ((HC.out W).mono ?_)
              rintro r w' ⟨rfl, hb⟩
              exact ⟨_, rfl, _, rfl, hb, rfl⟩
            | 13, _, ho =>
              injection ho with ho; subst ho
              obtain ⟨v6, h6, e6⟩ := hw 6 36 (by kernel_rfl)
              obtain rfl : v6 = _ := e6
              obtain ⟨v12, h12, e12⟩ := hw 12 42 (by kernel_rfl)
              obtain rfl : v12 = _ := e12
              exact op_val _ (by simp [execOp, Act.eval, h6, h12, go_sem, y6]) ⟨_, rfl, Below.refl _ _, rfl⟩
            | 14, _, ho =>
              injection ho with ho; subst ho
              obtain ⟨v13, h13, e13⟩ := hw 13 43 (by kernel_rfl)
              obtain rfl : v13 = _ := e13
              exact op_val _ (by simp [execOp, Act.eval, h13, go_sem, y8]) ⟨_, rfl, Below.refl _ _, rfl⟩
            | n + 15, hi, _ => omega
          · intro o2' u W ho hG hw
            have e0 := hw 14 44 (by decide) (by kernel_rfl)
            injection ho with ho; subst ho
            simp only [List.foldl_cons, List.foldl_nil, Act.put, List.setIfInBounds_toArray, List.set_cons_zero, List.set_cons_succ]
            rw [show u 44 = Value.string (s1 ++ sa ++ ⟨#[40]⟩ ++ sx ++ ⟨#[41]⟩) from e0]
            have HBn := Lib.hid (below_next HBr.out hG)
            refine op_assign (.tmp 44) (.inl rfl) (.string (s1 ++ sa ++ ⟨#[40]⟩ ++ sx ++ ⟨#[41]⟩)) (by simp [Act.eval]) ?_
            clear hw e0 HC hG x0 x1 x2 x3 f0 f1 y1 y2 y6 y8 kW
            simp only [Act.put, List.setIfInBounds_toArray]
            go_wp2_with fail
            go_roundw
            case rel => exact ⟨k + 1, _, by omega, rfl, by go_num, by show _ = _; rw [← HTe.out]; exact HNx.out, HBn⟩
            case measure => simp [intOf]; omega
        · have HTe : Hid (thing (g : Int) col k t = shownT t) := by show _ = _; unfold thing; rw [if_neg hc]
          have hth := HTh.out
          rw [HTe.out] at HNx hth
          have e3 : (bytes (shownT t)).size = (shownT t).length := rfl
          clear HTe HTh
          generalize bytes (shownT t) = sx at *
          have hz1 : ¬ (9223372036854775807 < s1.size + sx.size) := by omega
          by_cases q1 : 0 < (g : Int)
          · have q2 : ((k : Int) == col) = false := by
              rw [beq_eq_false_iff_ne]; exact fun e => hc ⟨q1, e⟩
            clear hc
            go_wp2_with fail
            refine (HC.out _).mono ?_
            rintro r w2 ⟨rfl, hq2⟩
            have HBn := Lib.hid (below_next HBr.out hq2)
            clear hq2 x0 x1 x2 x3 f0 f1
            go_wp2_with fail
            go_roundw
            case rel => exact ⟨k + 1, _, by omega, rfl, by go_num, HNx, HBn⟩
            case measure => simp [intOf]; omega
          · clear hc
            go_wp2_with fail
            refine (HC.out _).mono ?_
            rintro r w2 ⟨rfl, hq2⟩
            have HBn := Lib.hid (below_next HBr.out hq2)
            clear hq2 x0 x1 x2 x3 f0 f1
            go_wp2_with fail
            go_roundw
            case rel => exact ⟨k + 1, _, by omega, rfl, by go_num, HNx, HBn⟩
            case measure => simp [intOf]; omega
    · have i1 : ¬ (k : Int) < (n : Int) := by omega
      have hkn : k = n := by omega
      have HSE : Hid (bytes S = s ++ ⟨#[41]⟩) := by
        show _ = s ++ bytes [41]
        have h1 := Hs.out
        rw [hkn, List.take_of_length_le (by have := Hlen.out; omega)] at h1
        rw [HE.out, h1, bytes_app]
      have HBn := Lib.hid (below_next HB0.out HBr.out)
      have hz1 : ¬ (9223372036854775807 < s.size + 1) := by omega
      have hz3 : ¬ (9223372036854775806 < s.size) := by omega
      clear Hs
      go_wp2_with fail
      go_ret
      exact ⟨by rw [HSE.out]; rfl, HBn.out⟩
end Go.Proofs.YtgabkmibfhmkmaaGreatDoor
