/- My own texts, as far as this claim needs them. -/
import Derived.Test.YtplekbpmfaghbaaDoorZg4
import Derived.Test.YtplekbpmfaghbaaDoorZg8
import Derived.Test.YtplekbpmfaghbaaDoorZg21
set_option linter.unusedVariables false
set_option linter.unusedSimpArgs false
namespace Go.Proofs.YtplekbpmfaghbaaDoor
open Go.ChangeShapes Go.WideShapes Go.ChangeAt Go.RowKit
set_option linter.unusedVariables false
/-- a list of texts as laid data -/
def strsData {H : Type} (L : List (List UInt8)) : DataW H := .agg (L.map fun l => .lit (.string l))
theorem cells_of_strs {H : Type} {enc : TypeId × Value → H} {P : Program} {w : World} {base : Nat} {sp : Nat → Bool} {held : Bool} {fuel : Nat} {t e : TypeId} {n : Nat} {cs : List Value} {L : List (List UInt8)} {p : List MemPlace}
    (ht : P.underlying t = some (.array n e)) (he : P.underlying e = some .string) (hce : P.cellsOf e = 1) (hct : P.cellsOf t = n)
    (h : DataW.trod enc P w base sp held fuel t cs = some (strsData L, p)) : cs = L.map fun l => Value.string (bytes l) := by
  cases fuel with
  | zero => simp [DataW.trod] at h
  | succ fuel =>
    simp only [DataW.trod, ht, hce, hct, Nat.mul_one] at h
    split at h
    · rename_i hl
      obtain ⟨xs, hm, hx⟩ := Option.map_eq_some_iff.1 h
      have hxs : xs.map (·.1) = L.map fun l => (DataW.lit (.string l) : DataW H) := by
        have := congrArg Prod.fst hx
        simpa [strsData] using this
      have hxl : xs.length = n := by simpa using Lib.mapM_length hm
      have hzl : L.length = n := by
        have := congrArg List.length hxs
        simp at this
        omega
      apply List.ext_getElem?
      intro i
      by_cases hi : i < n
      · obtain ⟨b, hb, hf⟩ := Lib.mapM_at hm i i (by simp [hi])
        obtain ⟨z, hc, rfl, _⟩ := DataW.trod_string he hf
        have h1 : cs[i]? = some (.string z) := by
          have := congrArg (·[0]?) hc
          simpa [List.getElem?_take, List.getElem?_drop] using this
        have h2 : (xs.map (·.1))[i]? = some (DataW.lit (.string z.data.toList) : DataW H) := by simp [hb]
        rw [hxs] at h2
        simp only [List.getElem?_map, Option.map_eq_some_iff, DataW.lit.injEq, Lit.string.injEq] at h2
        obtain ⟨z', hz', hzz⟩ := h2
        have e1 : bytes z' = z := by rw [hzz]; rfl
        simp [h1, hz', e1]
      · rw [List.getElem?_eq_none (by omega), List.getElem?_eq_none (by simp; omega)]
    · cases h
theorem strs_of_head {P : Program} {W : World} {name : String} {L : List (List UInt8)} {rest : List (String × DataW Unit)} {g : Nat} {t e : TypeId} {n : Nat}
    (hg : P.globalNamed name = some g) (hty : (P.globals[g]?).map (·.type) = some t) (ht : P.underlying t = some (.array n e)) (he : P.underlying e = some .string) (hce : P.cellsOf e = 1) (hct : P.cellsOf t = n)
    (h : laidMet P ((name, strsData L) :: rest) W) : StrsW g L W := by
  obtain ⟨ps, ⟨g', t', cs, fuel, p, q, hg', ht', hvar, hd, _, _⟩, _⟩ := h
  obtain rfl := Option.some.inj (hg.symm.trans hg')
  obtain rfl := Option.some.inj (hty.symm.trans ht')
  have e1 := cells_of_strs ht he hce hct hd
  simp only [World.var?, hg, Option.bind_some] at hvar
  split at hvar
  · rename_i c t2 fr hb
    injection hvar with hvar
    refine ⟨t2, fr, hb.trans ?_⟩
    rw [hvar, ← e1]
  · cases hvar
theorem keys_eq {H : Type} : (Rows.laid_corollary_lex_keys : DataW H) = strsData keysL := rfl
theorem signs_eq {H : Type} : (Rows.laid_corollary_lex_signs : DataW H) = strsData signsL := rfl
theorem gK : Tryd.prog.globalNamed "corollary/lex.keys" = some 3 := by kernel_rfl
theorem gKT : (Tryd.prog.globals[3]?).map (·.type) = some 119 := by kernel_rfl
theorem gS : Tryd.prog.globalNamed "corollary/lex.signs" = some 2 := by kernel_rfl
theorem gST : (Tryd.prog.globals[2]?).map (·.type) = some 115 := by kernel_rfl
end Go.Proofs.YtplekbpmfaghbaaDoor
namespace Go.Proofs.YtplekbpmfaghbaaDoor
open Go.ChangeShapes Go.WideShapes Go.ChangeAt Go.RowKit
set_option linter.unusedVariables false
def laidP {H : Type} : List (String × DataW H) := [("math/bits.deBruijn32tab", Rows.laid_math_bits_deBruijn32tab), ("math/bits.deBruijn64tab", Rows.laid_math_bits_deBruijn64tab), ("internal/strconv.uint64pow10", Rows.laid_internal_strconv_uint64pow10), ("strconv.ErrRange", Rows.laid_strconv_ErrRange), ("strconv.ErrSyntax", Rows.laid_strconv_ErrSyntax), ("corollary/lex.keys", Rows.laid_corollary_lex_keys), ("corollary/lex.signs", Rows.laid_corollary_lex_signs), ("corollary/parse.aggs", Rows.laid_corollary_parse_aggs), ("corollary/parse.signs", Rows.laid_corollary_parse_signs)]
/-- the first seven of a laid list -/
theorem lexW_of_seven {W : World} {rest : List (String × DataW Unit)} (h : laidMet Tryd.prog (("math/bits.deBruijn32tab", Rows.laid_math_bits_deBruijn32tab) :: ("math/bits.deBruijn64tab", Rows.laid_math_bits_deBruijn64tab) :: ("internal/strconv.uint64pow10", Rows.laid_internal_strconv_uint64pow10) :: ("strconv.ErrRange", Rows.laid_strconv_ErrRange) :: ("strconv.ErrSyntax", Rows.laid_strconv_ErrSyntax) :: ("corollary/lex.keys", Rows.laid_corollary_lex_keys) :: ("corollary/lex.signs", Rows.laid_corollary_lex_signs) :: rest) W) : LexW W := by
  have h3 := laidMet.tail (laidMet.tail (laidMet.tail h))
  have h5 := laidMet.tail (laidMet.tail h3)
  have h6 := laidMet.tail h5
  refine ⟨TabW.of (Lib.tabIs_of_head gP gPT Tryd.underlying153 Tryd.underlying129 (by kernel_rfl) (by kernel_rfl) (rest := ("strconv.ErrRange", Rows.laid_strconv_ErrRange) :: ("strconv.ErrSyntax", Rows.laid_strconv_ErrSyntax) :: ("corollary/lex.keys", Rows.laid_corollary_lex_keys) :: ("corollary/lex.signs", Rows.laid_corollary_lex_signs) :: rest) (by rw [← pow_eq]; exact laidMet.tail (laidMet.tail h))), ?_, ?_, ?_⟩
  · obtain ⟨a0, s0, hv0, -, -, -⟩ := laid_sentinel h3 gER gERT Tryd.underlying27 rowES Tryd.underlying141 Tryd.underlying143 rfl rfl Tryd.underlying9 cellsES cellsStr
    obtain ⟨a1, s1, hv1, -, -, -⟩ := laid_sentinel (laidMet.tail h3) gES gEST Tryd.underlying27 rowES Tryd.underlying141 Tryd.underlying143 rfl rfl Tryd.underlying9 cellsES cellsStr
    exact ⟨⟨_, _, by have h0 := World.var?_cell gES hv1 0; simpa using h0⟩, ⟨_, _, by have h0 := World.var?_cell gER hv0 0; simpa using h0⟩⟩
  · rw [keys_eq] at h5
    exact strs_of_head gK gKT Tryd.underlying119 Tryd.underlying9 (by kernel_rfl) (by kernel_rfl) h5
  · rw [signs_eq] at h6
    exact strs_of_head gS gST Tryd.underlying115 Tryd.underlying9 (by kernel_rfl) (by kernel_rfl) h6
theorem paggs_eq {H : Type} : (Rows.laid_corollary_parse_aggs : DataW H) = strsData paggsL := rfl
theorem psigns_eq {H : Type} : (Rows.laid_corollary_parse_signs : DataW H) = strsData psignsL := rfl
theorem gPA : Tryd.prog.globalNamed "corollary/parse.aggs" = some 0 := by kernel_rfl
theorem gPAT : (Tryd.prog.globals[0]?).map (·.type) = some 96 := by kernel_rfl
theorem gPS : Tryd.prog.globalNamed "corollary/parse.signs" = some 1 := by kernel_rfl
theorem gPST : (Tryd.prog.globals[1]?).map (·.type) = some 108 := by kernel_rfl
theorem lexW_of_laidP {W : World} (h : laidMet Tryd.prog laidP W) : LexW W := lexW_of_seven h
theorem parW_of_laidP {W : World} (h : laidMet Tryd.prog laidP W) : ParW W := by
  have hL := lexW_of_laidP h
  have h7 := laidMet.tail (laidMet.tail (laidMet.tail (laidMet.tail (laidMet.tail (laidMet.tail (laidMet.tail h))))))
  have h8 := laidMet.tail h7
  rw [paggs_eq] at h7
  rw [psigns_eq] at h8
  exact ⟨hL, strs_of_head gPA gPAT Tryd.underlying96 Tryd.underlying9 (by kernel_rfl) (by kernel_rfl) h7, strs_of_head gPS gPST Tryd.underlying108 Tryd.underlying9 (by kernel_rfl) (by kernel_rfl) h8⟩
noncomputable def laidWorldP (os : Os) : World :=
  let w0 := World.holding Tryd.prog os ⟨#[.cells #[.string synS] 143, .cells #[.string rngS] 143], #[], []⟩
  let put (h : Array Obj) (g : Nat) (cs : Array Value) : Array Obj := h.modify g fun
    | .cells _ t frozen => .cells cs t frozen
    | o => o
  let tab (d : DataW Unit) : Array Value := match d with
    | .agg l => (l.map fun | .lit (.int k n) => Value.int k n | .lit (.string s) => Value.string ⟨s.toArray⟩ | _ => undef).toArray
    | _ => #[]
  let h1 := put w0.heap 8 (tab Rows.laid_math_bits_deBruijn32tab)
  let h2 := put h1 9 (tab Rows.laid_math_bits_deBruijn64tab)
  let h3 := put h2 7 (tab Rows.laid_internal_strconv_uint64pow10)
  let h4 := put h3 4 #[.iface 141 (.pointer (some ⟨low, 0, none⟩))]
  let h5 := put h4 5 #[.iface 141 (.pointer (some ⟨low + 1, 0, none⟩))]
  let h6 := put h5 3 (tab Rows.laid_corollary_lex_keys)
  let h7 := put h6 2 (tab Rows.laid_corollary_lex_signs)
  let h8 := put h7 0 (tab Rows.laid_corollary_parse_aggs)
  let h9 := put h8 1 (tab Rows.laid_corollary_parse_signs)
  { w0 with heap := h9 }
set_option maxRecDepth 100000 in
theorem laidWorldP_met (os : Os) (args : Array Value) : laidMet Tryd.prog laidP ((laidWorldP os).forCall (fun _ _ => 0) ⟨#[], args, []⟩).memory :=
  laidMet_of_run' 8 (by kernel_rfl) (by kernel_rfl)
end Go.Proofs.YtplekbpmfaghbaaDoor
