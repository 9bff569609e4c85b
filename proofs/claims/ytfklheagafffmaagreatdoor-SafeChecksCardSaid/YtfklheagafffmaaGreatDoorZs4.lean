/- My own texts LexW, LFrame, Exp, Pgm, TFrame, as far as this claim needs them. -/
import Derived.Test.YtfklheagafffmaaGreatDoorZs3
set_option linter.unusedVariables false
set_option linter.unusedSimpArgs false
set_option maxRecDepth 1000000
set_option maxHeartbeats 16000000
namespace Go.Proofs.YtfklheagafffmaaGreatDoor
open Go.RowKit
def keysL : List (List UInt8) := [[114, 101, 108], [105, 110, 116], [115, 121, 109], [110, 111, 116], [99, 111, 117, 110, 116], [115, 117, 109], [109, 105, 110], [109, 97, 120]]
def headN (l : List UInt8) : Nat := (l.headD 0).toNat
def wordK (l : List UInt8) : Int := if l ∈ keysL then 1 else if nameOk ⟨l.toArray⟩ then 2 else if greatB (headN l) && decide (l.length ≤ 32) then 3 else if (refNum l).isSome then 4 else 0
def bytes (l : List UInt8) : ByteArray := ⟨l.toArray⟩
theorem mem_bytes (s : ByteArray) (L : List (List UInt8)) : decide (s ∈ L.map bytes) = decide (s.toList ∈ L) := by
  rw [Bool.eq_iff_iff]
  simp only [decide_eq_true_eq, List.mem_map]
  constructor
  · rintro ⟨l, hl, rfl⟩; unfold bytes; rw [toList_mk]; exact hl
  · intro h; exact ⟨_, h, bytes_back s⟩
def StrsW (g : Nat) (L : List (List UInt8)) (W : World) : Prop := ∃ t fr, W.heap[g]? = some (.cells (L.map fun l => Value.string (bytes l)).toArray t fr)
theorem StrsW.on {g : Nat} {L : List (List UInt8)} {w W : World} (h : StrsW g L w) (hb : Below w.heap.size w W) : StrsW g L W := by
  obtain ⟨t, fr, h⟩ := h
  exact ⟨t, fr, (hb.block g (Array.getElem?_eq_some_iff.1 h).1).trans h⟩
theorem StrsW.is {g : Nat} {L : List (List UInt8)} {w : World} (h : StrsW g L w) (hl : L.length ≤ 1000) (hb : ∀ l ∈ L, l.length ≤ 1000) : SliceIs Enc.str w w.heap.size (some ⟨g, 0, none⟩) L.length L.length (L.map bytes) := by
  obtain ⟨t, fr, h⟩ := h
  refine ⟨by simp, Nat.le_refl _, by simp [maxLen]; omega, by simp [reachN]; omega, .inr ⟨g, 0, rfl, (Array.getElem?_eq_some_iff.1 h).1, ?_⟩⟩
  intro i x hx
  rw [List.getElem?_map] at hx
  obtain ⟨l, hl', rfl⟩ := Option.map_eq_some_iff.1 hx
  refine ⟨[.string (bytes l)], ⟨rfl, ?_⟩, ?_⟩
  · have := hb l (List.mem_of_getElem? hl')
    have e : (bytes l).size = l.length := by rw [← ba_len]; unfold bytes; rw [toList_mk]
    rw [e]; simp [reachN]; omega
  · intro j v hj
    match j, hj with
    | 0, hj =>
      simp at hj; subst hj
      rw [cell_of_row _ _ _ _ _ _ h]
      show _ = _
      simp [Enc.str, hl']
    | j + 1, hj => simp at hj
structure LexW (W : World) : Prop where
  tab : TabW W
  err : ErrW W
  keys : StrsW 3 keysL W
  signs : StrsW 2 signsL W
theorem LexW.on {w W : World} (h : LexW w) (hb : Below w.heap.size w W) : LexW W := ⟨h.tab.on hb, h.err.on hb, h.keys.on hb, h.signs.on hb⟩
def numB (l : List UInt8) : Bool := match Lib.atoiAll l with
  | .ok n => decide (n ≤ 2147483647) && decide (Lib.itoa n = l)
  | _ => false
theorem numB_ref (l : List UInt8) (h : l.head? ≠ some 45) : numB l = (refNum l).isSome := by
  rw [← own_eq_ref]
  unfold numB ownNum
  cases Lib.atoiAll l with
  | ok n =>
    by_cases h1 : Lib.itoa n = l
    · have h0 : 0 ≤ n := by
        by_cases hn : 0 ≤ n
        · exact hn
        · exfalso
          apply h
          rw [← h1]
          unfold Lib.itoa
          rw [if_pos (by omega)]; rfl
      by_cases h2 : n ≤ 2147483647
      · have h3 : bnd31 n = true := by simp [bnd31]; omega
        simp [h1, h2, h3]
      · have h3 : bnd31 n = false := by simp [bnd31]; omega
        simp [h1, h2, h3]
    · simp [h1]
  | _ => rfl
theorem word_any (s : ByteArray) (hs : s.size ≤ 140737488351232) (h1 : 1 ≤ s.size) (hh : s.toList.head? ≠ some 45) (w : World) (hW : LexW w) : Calls Tryz.prog 151 #[.string s] w (RetInt (wordK s.toList) w) := by
  have HW := Lib.hid hW
  have HC := Lib.hid (contains_any _ _ _ _ s w (hW.keys.is (by decide) (by decide)))
  have Hn := Lib.hid (fun w => name_any s w)
  have Hg := Lib.hid (fun w => great_any (s[0]'h1).toNat w)
  have e0 : headN s.toList = (s[0]'h1).toNat := by
    have := ba_head h1
    cases hl : s.toList with
    | nil => rw [hl] at this; cases this
    | cons c r => rw [hl] at this; simp at this; simp [headN, this]
  have e1 : nameOk ⟨s.toList.toArray⟩ = nameOk s := by rw [bytes_back]
  have e2 : s.toList.length = s.size := ba_len s
  have HQ : Hid (wordK s.toList = if decide (s ∈ keysL.map bytes) then (1 : Int) else if nameOk s then (2 : Int) else if greatB (s[0]'h1).toNat && decide (s.size ≤ 32) then (3 : Int) else if numB s.toList then (4 : Int) else (0 : Int)) := by
    show _ = _
    unfold wordK
    rw [e0, e1, e2, mem_bytes, numB_ref _ hh]
    simp
  have HA := Lib.hid (fun (W : World) (hb : Below w.heap.size w W) => atoi_any s hs W (hW.err.on hb))
  have HI := Lib.hid (fun (n : Int) (hn : fits n) (W : World) (hb : Below w.heap.size w W) => itoa_any n hn W (hW.tab.on hb))
  have h1n : (0 : Int) < (s.size : Int) := by omega
  rw [HQ.out]
  clear hh hW e0 e1 e2 HQ
  cases hk : decide (s ∈ keysL.map bytes) with
  | true =>
    rw [hk] at HC
    simp only [if_true]
    go_enter Tryz.func151, Tryz.ntmps151
    go_wp2_with fail
    refine HC.out.mono ?_
    rintro e w1 ⟨rfl, hb⟩
    go_wp2_with fail
    go_ret
    exact ⟨rfl, hb⟩
  | false =>
  rw [hk] at HC
  clear hk
  simp only [Bool.false_eq_true, if_false]
  cases hN : nameOk s with
  | true =>
    rw [hN] at Hn
    simp only [if_true]
    go_enter Tryz.func151, Tryz.ntmps151
    go_wp2_with fail
    refine HC.out.mono ?_
    rintro e w1 ⟨rfl, hb⟩
    go_wp2_with fail
    refine (Hn.out _).mono ?_
    rintro e w2 ⟨rfl, hb2⟩
    go_wp2_with fail
    go_ret
    exact ⟨rfl, below_next hb hb2⟩
  | false =>
  rw [hN] at Hn
  clear hN
  simp only [Bool.false_eq_true, if_false]
  have HAll : Hid (∀ (W : World) (hb : Below w.heap.size w W), Calls Tryz.prog 137 #[.string s] W (AtoiPost s W)) := HA.out
  clear HA
  cases hG : greatB (s[0]'h1).toNat with
  | true =>
    rw [hG] at Hg
    by_cases h32 : s.size ≤ 32
    · have z0 : (s.size : Int) ≤ 32 := by omega
      simp only [h32, decide_true, Bool.and_self, if_true]
      clear h32 hG
      go_enter Tryz.func151, Tryz.ntmps151
      go_wp2_with fail
      refine HC.out.mono ?_
      rintro e w1 ⟨rfl, hb⟩
      go_wp2_with fail
      refine (Hn.out _).mono ?_
      rintro e w2 ⟨rfl, hb2⟩
      go_wp2_with fail
      refine (Hg.out _).mono ?_
      rintro e w3 ⟨rfl, rfl⟩
      go_wp2_with fail
      go_ret
      exact ⟨rfl, below_next hb hb2⟩
    · have z0 : ¬ (s.size : Int) ≤ 32 := by omega
      simp only [h32, decide_false, Bool.and_false, Bool.false_eq_true, if_false]
      clear h32 hG
      obtain ⟨R, HR⟩ : ∃ R : Int, Hid (R = if numB s.toList then 4 else 0) := ⟨_, rfl⟩
      rw [← HR.out]
      go_enter Tryz.func151, Tryz.ntmps151
      go_wp2_with fail
      refine HC.out.mono ?_
      rintro e w1 ⟨rfl, hb⟩
      go_wp2_with fail
      refine (Hn.out _).mono ?_
      rintro e w2 ⟨rfl, hb2⟩
      replace hb := below_next hb hb2
      go_wp2_with fail
      refine (Hg.out _).mono ?_
      rintro e w3 ⟨rfl, rfl⟩
      go_wp2_with fail
      refine (HAll.out _ hb).mono ?_
      rintro e w4 ⟨n, ev, hfn, rfl, hb4, hor⟩
      replace hb := below_next hb hb4
      rcases hor with ⟨ha, rfl⟩ | ⟨ha, T, q, rfl⟩
      rotate_left
      · have HR2 : Hid (R = 0) := by
          show _ = _
          rw [HR.out]; unfold numB
          cases h : Lib.atoiAll s.toList with
          | ok m => exact absurd h (ha m)
          | _ => rfl
        clear ha HR
        go_wp2_with fail
        go_ret
        exact ⟨by rw [HR2.out]; rfl, hb⟩
      by_cases hn : n ≤ 2147483647
      · have HT := Lib.hid (HI.out n hfn _ hb)
        by_cases hi : Lib.itoa n = s.toList
        · have HR2 : Hid (R = 4) := by show _ = _; rw [HR.out]; simp [numB, ha, hn, hi]
          have Hi := Lib.hid hi
          clear ha HR hi HI
          go_wp2_with fail
          refine HT.out.mono ?_
          rintro e w5 ⟨t, ht, -, rfl, hb5⟩
          have z1 : (t.toList == s.toList) = true := by rw [ht.out, toList_mk, Hi.out]; simp
          go_wp2_with fail
          go_ret
          exact ⟨by rw [HR2.out]; rfl, below_next hb hb5⟩
        · have HR2 : Hid (R = 0) := by show _ = _; rw [HR.out]; simp [numB, ha, hi]
          have Hi := Lib.hid hi
          clear ha HR hi HI
          go_wp2_with fail
          refine HT.out.mono ?_
          rintro e w5 ⟨t, ht, -, rfl, hb5⟩
          have z1 : (t.toList == s.toList) = false := by rw [ht.out, toList_mk]; simpa using Hi.out
          go_wp2_with fail
          go_ret
          exact ⟨by rw [HR2.out]; rfl, below_next hb hb5⟩
      · have HR2 : Hid (R = 0) := by show _ = _; rw [HR.out]; simp [numB, ha, hn]
        clear ha HR HI
        go_wp2_with fail
        go_ret
        exact ⟨by rw [HR2.out]; rfl, hb⟩
  | false =>
    rw [hG] at Hg
    simp only [Bool.false_and, Bool.false_eq_true, if_false]
    clear hG
    obtain ⟨R, HR⟩ : ∃ R : Int, Hid (R = if numB s.toList then 4 else 0) := ⟨_, rfl⟩
    rw [← HR.out]
    go_enter Tryz.func151, Tryz.ntmps151
    go_wp2_with fail
    refine HC.out.mono ?_
    rintro e w1 ⟨rfl, hb⟩
    go_wp2_with fail
    refine (Hn.out _).mono ?_
    rintro e w2 ⟨rfl, hb2⟩
    replace hb := below_next hb hb2
    go_wp2_with fail
    refine (Hg.out _).mono ?_
    rintro e w3 ⟨rfl, rfl⟩
    go_wp2_with fail
    refine (HAll.out _ hb).mono ?_
    rintro e w4 ⟨n, ev, hfn, rfl, hb4, hor⟩
    replace hb := below_next hb hb4
    rcases hor with ⟨ha, rfl⟩ | ⟨ha, T, q, rfl⟩
    rotate_left
    · have HR2 : Hid (R = 0) := by
        show _ = _
        rw [HR.out]; unfold numB
        cases h : Lib.atoiAll s.toList with
        | ok m => exact absurd h (ha m)
        | _ => rfl
      clear ha HR
      go_wp2_with fail
      go_ret
      exact ⟨by rw [HR2.out]; rfl, hb⟩
    by_cases hn : n ≤ 2147483647
    · have HT := Lib.hid (HI.out n hfn _ hb)
      by_cases hi : Lib.itoa n = s.toList
      · have HR2 : Hid (R = 4) := by show _ = _; rw [HR.out]; simp [numB, ha, hn, hi]
        have Hi := Lib.hid hi
        clear ha HR hi HI
        go_wp2_with fail
        refine HT.out.mono ?_
        rintro e w5 ⟨t, ht, -, rfl, hb5⟩
        have z1 : (t.toList == s.toList) = true := by rw [ht.out, toList_mk, Hi.out]; simp
        go_wp2_with fail
        go_ret
        exact ⟨by rw [HR2.out]; rfl, below_next hb hb5⟩
      · have HR2 : Hid (R = 0) := by show _ = _; rw [HR.out]; simp [numB, ha, hi]
        have Hi := Lib.hid hi
        clear ha HR hi HI
        go_wp2_with fail
        refine HT.out.mono ?_
        rintro e w5 ⟨t, ht, -, rfl, hb5⟩
        have z1 : (t.toList == s.toList) = false := by rw [ht.out, toList_mk]; simpa using Hi.out
        go_wp2_with fail
        go_ret
        exact ⟨by rw [HR2.out]; rfl, below_next hb hb5⟩
    · have HR2 : Hid (R = 0) := by show _ = _; rw [HR.out]; simp [numB, ha, hn]
      clear ha HR HI
      go_wp2_with fail
      go_ret
      exact ⟨by rw [HR2.out]; rfl, hb⟩
end Go.Proofs.YtfklheagafffmaaGreatDoor

namespace Go.Proofs.YtfklheagafffmaaGreatDoor
open Go.ChangeShapes Go.WideShapes Go.ChangeAt Go.RowKit
set_option linter.unusedVariables false
def strsData {H : Type} (L : List (List UInt8)) : DataW H := .agg (L.map fun l => .lit (.string l))
theorem cells_of_strs {H : Type} {enc : TypeId × Value → H} {P : Program} {w : World} {base : Nat} {sp : Nat → Bool} {held : Bool} {fuel : Nat} {t e : TypeId} {n : Nat} {cs : List Value} {L : List (List UInt8)} {p : List MemPlace}
    (ht : P.underlying t = some (.array n e)) (he : P.underlying e = some .string) (hce : P.cellsOf e = 1) (hct : P.cellsOf t = n)
    (h : DataW.trod enc P w base sp held fuel t cs = some (strsData L, p)) : cs = L.map fun l => Value.string (bytes l) := by
  cases fuel with
  | zero => simp [DataW.trod] at h
  | succ fuel =>
    simp only [DataW.trod, ht, hce, hct, Nat.mul_one] at h
    split at h
    · rename_i hl
      obtain ⟨xs, hm, hx⟩ := Option.map_eq_some_iff.1 h
      have hxs : xs.map (·.1) = L.map fun l => (DataW.lit (.string l) : DataW H) := by
        have := congrArg Prod.fst hx
        simpa [strsData] using this
      have hxl : xs.length = n := by simpa using Lib.mapM_length hm
      have hzl : L.length = n := by
        have := congrArg List.length hxs
        simp at this
        omega
      apply List.ext_getElem?
      intro i
      by_cases hi : i < n
      · obtain ⟨b, hb, hf⟩ := Lib.mapM_at hm i i (by simp [hi])
        obtain ⟨z, hc, rfl, _⟩ := DataW.trod_string he hf
        have h1 : cs[i]? = some (.string z) := by
          have := congrArg (·[0]?) hc
          simpa [List.getElem?_take, List.getElem?_drop] using this
        have h2 : (xs.map (·.1))[i]? = some (DataW.lit (.string z.data.toList) : DataW H) := by simp [hb]
        rw [hxs] at h2
        simp only [List.getElem?_map, Option.map_eq_some_iff, DataW.lit.injEq, Lit.string.injEq] at h2
        obtain ⟨z', hz', hzz⟩ := h2
        have e1 : bytes z' = z := by rw [hzz]; rfl
        simp [h1, hz', e1]
      · rw [List.getElem?_eq_none (by omega), List.getElem?_eq_none (by simp; omega)]
    · cases h
theorem strs_of_head {P : Program} {W : World} {name : String} {L : List (List UInt8)} {rest : List (String × DataW Unit)} {g : Nat} {t e : TypeId} {n : Nat}
    (hg : P.globalNamed name = some g) (hty : (P.globals[g]?).map (·.type) = some t) (ht : P.underlying t = some (.array n e)) (he : P.underlying e = some .string) (hce : P.cellsOf e = 1) (hct : P.cellsOf t = n)
    (h : laidMet P ((name, strsData L) :: rest) W) : StrsW g L W := by
  obtain ⟨ps, ⟨g', t', cs, fuel, p, q, hg', ht', hvar, hd, _, _⟩, _⟩ := h
  obtain rfl := Option.some.inj (hg.symm.trans hg')
  obtain rfl := Option.some.inj (hty.symm.trans ht')
  have e1 := cells_of_strs ht he hce hct hd
  simp only [World.var?, hg, Option.bind_some] at hvar
  split at hvar
  · rename_i c t2 fr hb
    injection hvar with hvar
    refine ⟨t2, fr, hb.trans ?_⟩
    rw [hvar, ← e1]
  · cases hvar
theorem keys_eq {H : Type} : (Rows.laid_corollary_lex_keys : DataW H) = strsData keysL := rfl
theorem signs_eq {H : Type} : (Rows.laid_corollary_lex_signs : DataW H) = strsData signsL := rfl
theorem gK : Tryz.prog.globalNamed "corollary/lex.keys" = some 3 := by kernel_rfl
theorem gKT : (Tryz.prog.globals[3]?).map (·.type) = some 219 := by kernel_rfl
theorem gS : Tryz.prog.globalNamed "corollary/lex.signs" = some 2 := by kernel_rfl
theorem gST : (Tryz.prog.globals[2]?).map (·.type) = some 215 := by kernel_rfl
end Go.Proofs.YtfklheagafffmaaGreatDoor

namespace Go.Proofs.YtfklheagafffmaaGreatDoor
open Go.RowKit
inductive GExp where
  | mk (op : Int) (t : GTold) (kids : List GExp)
def GExp.op : GExp → Int | .mk o _ _ => o
def GExp.t : GExp → GTold | .mk _ t _ => t
def GExp.kids : GExp → List GExp | .mk _ _ k => k
def Enc.expStep (E : Enc GExp) : Enc GExp where
  sz := 6
  ok := fun w B cs e => ∃ A n c, cs = [.int .i64 e.op, .string e.t.x, .int .i64 e.t.v.k, .int .i64 e.t.v.n, .string e.t.v.s, .slice A n c] ∧ fits e.op ∧ e.t.x.size ≤ reachN ∧ e.t.v.ok ∧ SliceIs E w B A n c e.kids
  mono := fun hB hk ⟨A, n, c, h1, h2, h3, h4, h5⟩ => ⟨A, n, c, h1, h2, h3, h4, h5.mono' hB hk⟩
  len := fun ⟨_, _, _, h, _⟩ => by rw [h]; rfl
def Enc.expNone : Enc GExp where
  sz := 6
  ok := fun _ _ _ _ => False
  mono := fun _ _ h => h
  len := fun h => h.elim
def Enc.exp : Nat → Enc GExp
  | 0 => Enc.expNone
  | d + 1 => Enc.expStep (Enc.exp d)
theorem Enc.exp_sz : ∀ d, (Enc.exp d).sz = 6
  | 0 => rfl
  | _ + 1 => rfl
theorem SliceIs.exp_at {w : World} {B : Nat} {A : Option Addr} {n c d : Nat} {l : List GExp} (h : SliceIs (Enc.exp d) w B A n c l) {i : Nat} (hi : i < n) :
    ∃ b o e A' n' c' d', A = some ⟨b, o, none⟩ ∧ b < B ∧ Hid (l[i]? = some e) ∧ d = d' + 1 ∧ w.cell? ⟨b, o + i * 6, none⟩ = some (.int .i64 e.op) ∧ w.cell? ⟨b, o + i * 6 + 1, none⟩ = some (.string e.t.x) ∧ w.cell? ⟨b, o + i * 6 + 2, none⟩ = some (.int .i64 e.t.v.k) ∧
      w.cell? ⟨b, o + i * 6 + 3, none⟩ = some (.int .i64 e.t.v.n) ∧ w.cell? ⟨b, o + i * 6 + 4, none⟩ = some (.string e.t.v.s) ∧ w.cell? ⟨b, o + i * 6 + 5, none⟩ = some (.slice A' n' c') ∧
      fits e.op ∧ e.t.x.size ≤ reachN ∧ e.t.v.ok ∧ SliceIs (Enc.exp d') w B A' n' c' e.kids := by
  obtain ⟨b, o, e, cs, hA, hb, hx, hok, hc⟩ := h.at_ hi
  cases d with
  | zero => exact hok.elim
  | succ d =>
    obtain ⟨A', n', c', rfl, h1, h2, h3, h4⟩ := hok
    rw [Enc.exp_sz] at hc
    exact ⟨b, o, e, A', n', c', d, hA, hb, hx, rfl, by simpa using hc 0 _ rfl, by simpa using hc 1 _ rfl, by simpa using hc 2 _ rfl, by simpa using hc 3 _ rfl, by simpa using hc 4 _ rfl, by simpa using hc 5 _ rfl, h1, h2, h3, h4⟩
def OpensB {α : Type} (N : Nat) (P : Program) (t : TypeId) (E : Enc α) : Prop :=
  ∀ (H : Type) (enc : TypeId × Value → H) (w : World) (fuel : Nat) (cs : List Value) (x : DataW H × List MemPlace), fuel ≤ N →
    DataW.trod enc P w 0 (fun _ => true) true fuel t cs = some x → (∀ n ∈ x.1.weights P t, n ≤ reachBytes) → ∃ y : α, E.ok w w.heap.size cs y
theorem opensB_slice {α : Type} {N : Nat} {P : Program} {t e : TypeId} {E : Enc α} (h : P.underlying t = some (.slice e)) (he : OpensB N P e E) (hc : P.cellsOf e = E.sz) (hz : 0 < E.sz) (hb : 0 < P.bytesOf e) : OpensB (N + 1) P t (Enc.slice E) := by
  intro H enc w fuel cs x hfu hx hwt
  rcases DataW.trod_slice h hx with ⟨rfl, _⟩ | ⟨a, len, cap, elems, rest, n, rfl, rfl, rfl, -, hl, hm, hel, hi, -, -⟩
  · exact ⟨[], none, 0, 0, rfl, SliceIs.nil⟩
  · have hw0 := hwt ((elems.length + rest.length) * P.bytesOf e) (by simp [DataW.weights, h])
    have hle : len ≤ reachN := by
      rw [reach_eq] at hw0
      have : elems.length + rest.length ≤ (elems.length + rest.length) * P.bytesOf e := Nat.le_mul_of_pos_right _ hb
      omega
    obtain ⟨l, hll, hq⟩ := choose_list (Q := fun i y => ∃ cs', w.cells? 0 (a.add (i * P.cellsOf e)) (P.cellsOf e) = some cs' ∧ E.ok w w.heap.size cs' y) len (fun i hil => by
      have h1 := hi i hil
      rw [List.getElem?_eq_getElem (by omega)] at h1
      obtain ⟨cs', h2, h3⟩ := Option.bind_eq_some_iff.1 h1
      obtain ⟨y, hy⟩ := he H enc w n cs' _ (by omega) h3 (fun q hq => hwt q (by
        simp only [DataW.weights, h, List.mem_cons, List.mem_append]
        exact .inr (.inl (weights_all (List.mem_map.2 ⟨elems[i]'(by omega), List.getElem_mem _, rfl⟩) q hq))))
      exact ⟨y, cs', h2, hy⟩)
    refine ⟨l, some a, len, cap, rfl, hll, hl, hm, hle, ?_⟩
    by_cases h0 : len = 0
    · exact .inl (List.eq_nil_of_length_eq_zero (by omega))
    · right
      have hcell : ∀ i y, l[i]? = some y → ∃ cs', E.ok w w.heap.size cs' y ∧ ∀ j v, cs'[j]? = some v → w.cell? (a.add (i * E.sz + j)) = some v := by
        intro i y hy
        obtain ⟨cs', h1, h2⟩ := hq i y hy
        refine ⟨cs', h2, fun j v hj => ?_⟩
        obtain ⟨_, hcl, hat⟩ := World.cells?_some h1
        have hjl : j < P.cellsOf e := by rw [← hcl]; exact (List.getElem?_eq_some_iff.1 hj).1
        have := hat j hjl
        rw [hj, Go.Deep.add_add, hc] at this
        exact this
      have hex : ∃ y, l[0]? = some y := by
        rw [List.getElem?_eq_getElem (by omega)]
        exact ⟨_, rfl⟩
      obtain ⟨y, hy⟩ := hex
      obtain ⟨cs', h1, h2⟩ := hcell 0 y hy
      have hlen := E.len h1
      obtain ⟨v, hv⟩ : ∃ v, cs'[0]? = some v := by
        rw [List.getElem?_eq_getElem (by omega)]
        exact ⟨_, rfl⟩
      have hc0 := h2 0 v hv
      obtain ⟨b, off, spot⟩ := a
      obtain rfl : spot = none := by simpa [Addr.add] using World.cell?_spot hc0
      refine ⟨b, off, rfl, ?_, fun i y hy => ?_⟩
      · exact World.block_lt_of_cell? w _ (by simpa [Addr.add] using hc0)
      · obtain ⟨cs', h1, h2⟩ := hcell i y hy
        refine ⟨cs', h1, fun j v hj => ?_⟩
        have h3 := h2 j v hj
        rw [Nat.add_assoc]
        unfold Addr.add at h3
        split at h3
        · rename_i h0
          rw [h0]
          exact h3
        · exact h3
theorem open_fieldsB {H : Type} {enc : TypeId × Value → H} {P : Program} {w : World} {t : TypeId} {fuel : Nat} {cs : List Value} {x : DataW H × List MemPlace} {fl : List (TypeId × Nat × Nat)} (hf : fieldsOf P t = fl) (h0 : fl ≠ [])
    (hx : DataW.trod enc P w 0 (fun _ => true) true fuel t cs = some x) (hwt : ∀ n ∈ x.1.weights P t, n ≤ reachBytes) :
    cs.length = P.cellsOf t ∧ ∃ n, fuel = n + 1 ∧ ∀ (j : Nat) (f : TypeId × Nat × Nat), fl[j]? = some f → ∃ y, DataW.trod enc P w 0 (fun _ => true) true n f.1 ((cs.drop f.2.1).take f.2.2) = some y ∧ ∀ n ∈ y.1.weights P f.1, n ≤ reachBytes := by
  unfold fieldsOf at hf
  split at hf
  · rename_i fs hs
    obtain ⟨xs, n, rfl, rfl, hl, hlen, hat⟩ := DataW.trod_struct hs hx
    refine ⟨hl, n, rfl, fun j f hj => ?_⟩
    subst hf
    rw [List.getElem?_map, Option.map_eq_some_iff] at hj
    obtain ⟨fd, hfd, rfl⟩ := hj
    have hfd' : fs[j]? = some fd := by simpa using hfd
    have h1 := hat j fd hfd'
    have hjl : j < fs.size := (Array.getElem?_eq_some_iff.1 hfd').1
    have hxj : xs[j]? = some (xs[j]'(by omega)) := List.getElem?_eq_getElem (by omega)
    refine ⟨_, h1.trans hxj, fun q hq => hwt q ?_⟩
    simp only [DataW.weights, hs]
    exact DataW.weights_mem_each (j := j) (t := fd.type) (d := (xs[j]'(by omega)).1) (by simp [hfd']) (by simp [hxj]) q hq
  · exact absurd hf.symm h0
theorem opens_exp {P : Program} {t a b c : TypeId} (hf : fieldsOf P t = [(a, 0, 1), (b, 1, 4), (c, 5, 1)]) (hz : P.cellsOf t = 6) (hby : 0 < P.bytesOf t) (ha : P.underlying a = some (.int .i64)) (hb : Opens P b Enc.told) (hc : P.underlying c = some (.slice t)) :
    ∀ N, OpensB N P t (Enc.exp (N + 1))
  | 0 => fun H enc w fuel cs x hfu hx _ => by
    obtain rfl : fuel = 0 := by omega
    simp [DataW.trod] at hx
  | N + 1 => by
    have ih := opens_exp hf hz hby ha hb hc N
    have ihs := opensB_slice hc ih (by rw [hz, Enc.exp_sz]) (by rw [Enc.exp_sz]; omega) hby
    intro H enc w fuel cs x hfu hx hwt
    obtain ⟨hl, n, rfl, hat⟩ := open_fieldsB hf (by simp) hx hwt
    rw [hz] at hl
    match cs, hl with
    | [u0, u1, u2, u3, u4, u5], _ =>
      obtain ⟨y, h, hw⟩ := hat 0 _ rfl
      obtain ⟨k, e0, f0⟩ := opens_int ha _ _ _ _ _ _ h hw
      obtain ⟨y, h, hw⟩ := hat 1 _ rfl
      obtain ⟨tt, e1, f1, f2⟩ := hb _ _ _ _ _ _ h hw
      obtain ⟨y, h, hw⟩ := hat 2 _ rfl
      obtain ⟨ks, A, m, d, e2, f3⟩ := ihs _ _ _ _ _ _ (by omega) h hw
      simp at e0 e1 e2
      obtain ⟨rfl, rfl, rfl, rfl⟩ := e1
      subst e0 e2
      exact ⟨.mk k tt ks, A, m, d, rfl, f0, f1, f2, f3⟩
end Go.Proofs.YtfklheagafffmaaGreatDoor

namespace Go.Proofs.YtfklheagafffmaaGreatDoor
open Go.RowKit
structure Hd where
  A : Option Addr
  n : Nat
  c : Nat
abbrev Hd.v (h : Hd) : Value := .slice h.A h.n h.c
structure GAtom where
  rel : ByteArray
  args : List GTold
structure GLit where
  k : Int
  atom : GAtom
  op : Int
  l : GExp
  r : GExp
  pos : Int
structure GRule where
  head : GAtom
  agg : Int
  col : Int
  body : List GLit
  pos : Int
abbrev litC (x : GLit) (a p q : Hd) : List Value := [.int .i64 x.k, .string x.atom.rel, a.v, .int .i64 x.op, .int .i64 x.l.op, .string x.l.t.x, .int .i64 x.l.t.v.k, .int .i64 x.l.t.v.n, .string x.l.t.v.s, p.v, .int .i64 x.r.op, .string x.r.t.x, .int .i64 x.r.t.v.k, .int .i64 x.r.t.v.n, .string x.r.t.v.s, q.v, .int .i64 x.pos]
abbrev ruleC (x : GRule) (a b : Hd) : List Value := [.string x.head.rel, a.v, .int .i64 x.agg, .int .i64 x.col, b.v, .int .i64 x.pos]
structure LitAt (d : Nat) (w : World) (B : Nat) (x : GLit) (a p q : Hd) : Prop where
  k : fits x.k
  op : fits x.op
  pos : fits x.pos
  rel : x.atom.rel.size ≤ reachN
  args : SliceIs Enc.told w B a.A a.n a.c x.atom.args
  lop : fits x.l.op
  lx : x.l.t.x.size ≤ reachN
  lv : x.l.t.v.ok
  lk : SliceIs (Enc.exp d) w B p.A p.n p.c x.l.kids
  rop : fits x.r.op
  rx : x.r.t.x.size ≤ reachN
  rv : x.r.t.v.ok
  rk : SliceIs (Enc.exp d) w B q.A q.n q.c x.r.kids
theorem LitAt.mono' {d : Nat} {w w' : World} {B B' : Nat} {x : GLit} {a p q : Hd} (h : LitAt d w B x a p q) (hB : B ≤ B') (hk : Kept w w' B) : LitAt d w' B' x a p q :=
  ⟨h.k, h.op, h.pos, h.rel, h.args.mono' hB hk, h.lop, h.lx, h.lv, h.lk.mono' hB hk, h.rop, h.rx, h.rv, h.rk.mono' hB hk⟩
theorem LitAt.keep {d : Nat} {w w' : World} {x : GLit} {a p q : Hd} (h : LitAt d w w.heap.size x a p q) (hb : Below w.heap.size w w') : LitAt d w' w'.heap.size x a p q := h.mono' hb.size (Kept.of hb.block)
def Enc.lit (d : Nat) : Enc GLit where
  sz := 17
  ok := fun w B cs x => ∃ a p q : Hd, cs = litC x a p q ∧ LitAt d w B x a p q
  mono := fun hB hk ⟨a, p, q, h1, h2⟩ => ⟨a, p, q, h1, h2.mono' hB hk⟩
  len := fun ⟨_, _, _, h, _⟩ => by rw [h]; rfl
structure RuleAt (d : Nat) (w : World) (B : Nat) (x : GRule) (a b : Hd) : Prop where
  rel : x.head.rel.size ≤ reachN
  args : SliceIs Enc.told w B a.A a.n a.c x.head.args
  agg : fits x.agg
  col : fits x.col
  body : SliceIs (Enc.lit d) w B b.A b.n b.c x.body
  pos : fits x.pos
theorem RuleAt.mono' {d : Nat} {w w' : World} {B B' : Nat} {x : GRule} {a b : Hd} (h : RuleAt d w B x a b) (hB : B ≤ B') (hk : Kept w w' B) : RuleAt d w' B' x a b :=
  ⟨h.rel, h.args.mono' hB hk, h.agg, h.col, h.body.mono' hB hk, h.pos⟩
theorem RuleAt.keep {d : Nat} {w w' : World} {x : GRule} {a b : Hd} (h : RuleAt d w w.heap.size x a b) (hb : Below w.heap.size w w') : RuleAt d w' w'.heap.size x a b := h.mono' hb.size (Kept.of hb.block)
def Enc.rule (d : Nat) : Enc GRule where
  sz := 6
  ok := fun w B cs x => ∃ a b : Hd, cs = ruleC x a b ∧ RuleAt d w B x a b
  mono := fun hB hk ⟨a, b, h1, h2⟩ => ⟨a, b, h1, h2.mono' hB hk⟩
  len := fun ⟨_, _, h, _⟩ => by rw [h]; rfl
section
variable {w : World} {B : Nat} {A : Option Addr} {n c d : Nat}
theorem SliceIs.lit_at {l : List GLit} (h : SliceIs (Enc.lit d) w B A n c l) {i : Nat} (hi : i < n) :
    ∃ (b o : Nat) (x : GLit) (a p q : Hd), A = some ⟨b, o, none⟩ ∧ b < B ∧ Hid (l[i]? = some x) ∧ LitAt d w B x a p q ∧
      w.cell? ⟨b, o + i * 17, none⟩ = some (.int .i64 x.k) ∧ w.cell? ⟨b, o + i * 17 + 1, none⟩ = some (.string x.atom.rel) ∧ w.cell? ⟨b, o + i * 17 + 2, none⟩ = some (a.v) ∧ w.cell? ⟨b, o + i * 17 + 3, none⟩ = some (.int .i64 x.op) ∧ w.cell? ⟨b, o + i * 17 + 4, none⟩ = some (.int .i64 x.l.op) ∧ w.cell? ⟨b, o + i * 17 + 5, none⟩ = some (.string x.l.t.x) ∧ w.cell? ⟨b, o + i * 17 + 6, none⟩ = some (.int .i64 x.l.t.v.k) ∧ w.cell? ⟨b, o + i * 17 + 7, none⟩ = some (.int .i64 x.l.t.v.n) ∧ w.cell? ⟨b, o + i * 17 + 8, none⟩ = some (.string x.l.t.v.s) ∧ w.cell? ⟨b, o + i * 17 + 9, none⟩ = some (p.v) ∧ w.cell? ⟨b, o + i * 17 + 10, none⟩ = some (.int .i64 x.r.op) ∧ w.cell? ⟨b, o + i * 17 + 11, none⟩ = some (.string x.r.t.x) ∧ w.cell? ⟨b, o + i * 17 + 12, none⟩ = some (.int .i64 x.r.t.v.k) ∧ w.cell? ⟨b, o + i * 17 + 13, none⟩ = some (.int .i64 x.r.t.v.n) ∧ w.cell? ⟨b, o + i * 17 + 14, none⟩ = some (.string x.r.t.v.s) ∧ w.cell? ⟨b, o + i * 17 + 15, none⟩ = some (q.v) ∧ w.cell? ⟨b, o + i * 17 + 16, none⟩ = some (.int .i64 x.pos) := by
  obtain ⟨b, o, x, cs, hA, hb, hx, ⟨a, p, q, rfl, h1⟩, hc⟩ := h.at_ hi
  exact ⟨b, o, x, a, p, q, hA, hb, hx, h1, by simpa [Enc.lit] using hc 0 _ rfl, by simpa [Enc.lit] using hc 1 _ rfl, by simpa [Enc.lit] using hc 2 _ rfl, by simpa [Enc.lit] using hc 3 _ rfl, by simpa [Enc.lit] using hc 4 _ rfl, by simpa [Enc.lit] using hc 5 _ rfl, by simpa [Enc.lit] using hc 6 _ rfl, by simpa [Enc.lit] using hc 7 _ rfl, by simpa [Enc.lit] using hc 8 _ rfl, by simpa [Enc.lit] using hc 9 _ rfl, by simpa [Enc.lit] using hc 10 _ rfl, by simpa [Enc.lit] using hc 11 _ rfl, by simpa [Enc.lit] using hc 12 _ rfl, by simpa [Enc.lit] using hc 13 _ rfl, by simpa [Enc.lit] using hc 14 _ rfl, by simpa [Enc.lit] using hc 15 _ rfl, by simpa [Enc.lit] using hc 16 _ rfl⟩
end
theorem facts2 {W : World} {g : Nat} {t : TypeId} {v0 v1 : Value} (h : W.heap[g]? = some (.cells #[v0, v1] t (0, 0))) : W.cell? ⟨g, 0, none⟩ = some v0 ∧ W.cell? ⟨g, 1, none⟩ = some v1 :=
  ⟨(cell_of_row _ _ 0 _ _ _ h).trans rfl, (cell_of_row _ _ 1 _ _ _ h).trans rfl⟩
theorem facts3 {W : World} {g : Nat} {t : TypeId} {v0 v1 v2 : Value} (h : W.heap[g]? = some (.cells #[v0, v1, v2] t (0, 0))) : W.cell? ⟨g, 0, none⟩ = some v0 ∧ W.cell? ⟨g, 1, none⟩ = some v1 ∧ W.cell? ⟨g, 2, none⟩ = some v2 :=
  ⟨(cell_of_row _ _ 0 _ _ _ h).trans rfl, (cell_of_row _ _ 1 _ _ _ h).trans rfl, (cell_of_row _ _ 2 _ _ _ h).trans rfl⟩
theorem facts4 {W : World} {g : Nat} {t : TypeId} {v0 v1 v2 v3 : Value} (h : W.heap[g]? = some (.cells #[v0, v1, v2, v3] t (0, 0))) : W.cell? ⟨g, 0, none⟩ = some v0 ∧ W.cell? ⟨g, 1, none⟩ = some v1 ∧ W.cell? ⟨g, 2, none⟩ = some v2 ∧ W.cell? ⟨g, 3, none⟩ = some v3 :=
  ⟨(cell_of_row _ _ 0 _ _ _ h).trans rfl, (cell_of_row _ _ 1 _ _ _ h).trans rfl, (cell_of_row _ _ 2 _ _ _ h).trans rfl, (cell_of_row _ _ 3 _ _ _ h).trans rfl⟩
theorem facts6 {W : World} {g : Nat} {t : TypeId} {v0 v1 v2 v3 v4 v5 : Value} (h : W.heap[g]? = some (.cells #[v0, v1, v2, v3, v4, v5] t (0, 0))) : W.cell? ⟨g, 0, none⟩ = some v0 ∧ W.cell? ⟨g, 1, none⟩ = some v1 ∧ W.cell? ⟨g, 2, none⟩ = some v2 ∧ W.cell? ⟨g, 3, none⟩ = some v3 ∧ W.cell? ⟨g, 4, none⟩ = some v4 ∧ W.cell? ⟨g, 5, none⟩ = some v5 :=
  ⟨(cell_of_row _ _ 0 _ _ _ h).trans rfl, (cell_of_row _ _ 1 _ _ _ h).trans rfl, (cell_of_row _ _ 2 _ _ _ h).trans rfl, (cell_of_row _ _ 3 _ _ _ h).trans rfl, (cell_of_row _ _ 4 _ _ _ h).trans rfl, (cell_of_row _ _ 5 _ _ _ h).trans rfl⟩
theorem facts17 {W : World} {g : Nat} {t : TypeId} {v0 v1 v2 v3 v4 v5 v6 v7 v8 v9 v10 v11 v12 v13 v14 v15 v16 : Value} (h : W.heap[g]? = some (.cells #[v0, v1, v2, v3, v4, v5, v6, v7, v8, v9, v10, v11, v12, v13, v14, v15, v16] t (0, 0))) : W.cell? ⟨g, 0, none⟩ = some v0 ∧ W.cell? ⟨g, 1, none⟩ = some v1 ∧ W.cell? ⟨g, 2, none⟩ = some v2 ∧ W.cell? ⟨g, 3, none⟩ = some v3 ∧ W.cell? ⟨g, 4, none⟩ = some v4 ∧ W.cell? ⟨g, 5, none⟩ = some v5 ∧ W.cell? ⟨g, 6, none⟩ = some v6 ∧ W.cell? ⟨g, 7, none⟩ = some v7 ∧ W.cell? ⟨g, 8, none⟩ = some v8 ∧ W.cell? ⟨g, 9, none⟩ = some v9 ∧ W.cell? ⟨g, 10, none⟩ = some v10 ∧ W.cell? ⟨g, 11, none⟩ = some v11 ∧ W.cell? ⟨g, 12, none⟩ = some v12 ∧ W.cell? ⟨g, 13, none⟩ = some v13 ∧ W.cell? ⟨g, 14, none⟩ = some v14 ∧ W.cell? ⟨g, 15, none⟩ = some v15 ∧ W.cell? ⟨g, 16, none⟩ = some v16 :=
  ⟨(cell_of_row _ _ 0 _ _ _ h).trans rfl, (cell_of_row _ _ 1 _ _ _ h).trans rfl, (cell_of_row _ _ 2 _ _ _ h).trans rfl, (cell_of_row _ _ 3 _ _ _ h).trans rfl, (cell_of_row _ _ 4 _ _ _ h).trans rfl, (cell_of_row _ _ 5 _ _ _ h).trans rfl, (cell_of_row _ _ 6 _ _ _ h).trans rfl, (cell_of_row _ _ 7 _ _ _ h).trans rfl, (cell_of_row _ _ 8 _ _ _ h).trans rfl, (cell_of_row _ _ 9 _ _ _ h).trans rfl, (cell_of_row _ _ 10 _ _ _ h).trans rfl, (cell_of_row _ _ 11 _ _ _ h).trans rfl, (cell_of_row _ _ 12 _ _ _ h).trans rfl, (cell_of_row _ _ 13 _ _ _ h).trans rfl, (cell_of_row _ _ 14 _ _ _ h).trans rfl, (cell_of_row _ _ 15 _ _ _ h).trans rfl, (cell_of_row _ _ 16 _ _ _ h).trans rfl⟩
theorem OpensB.down {α : Type} {N M : Nat} {P : Program} {t : TypeId} {E : Enc α} (h : OpensB N P t E) (hM : M ≤ N) : OpensB M P t E := fun H enc w fuel cs x hf hx hw => h H enc w fuel cs x (by omega) hx hw
theorem opensB_slice' {α : Type} {N : Nat} {P : Program} {t e : TypeId} {E : Enc α} (h : P.underlying t = some (.slice e)) (he : OpensB N P e E) (hc : P.cellsOf e = E.sz) (hz : 0 < E.sz) (hb : 0 < P.bytesOf e) : OpensB N P t (Enc.slice E) :=
  (opensB_slice h he hc hz hb).down (Nat.le_succ _)
theorem opens_atomF {H : Type} {enc : TypeId × Value → H} {P : Program} {w : World} {t a b : TypeId} {fuel : Nat} {cs : List Value} {x : DataW H × List MemPlace} (hf : fieldsOf P t = [(a, 0, 1), (b, 1, 1)]) (hz : P.cellsOf t = 2) (ha : P.underlying a = some .string) (hb : Opens P b (Enc.slice Enc.told))
    (hx : DataW.trod enc P w 0 (fun _ => true) true fuel t cs = some x) (hwt : ∀ n ∈ x.1.weights P t, n ≤ reachBytes) : ∃ (y : GAtom) (h : Hd), cs = [.string y.rel, h.v] ∧ y.rel.size ≤ reachN ∧ SliceIs Enc.told w w.heap.size h.A h.n h.c y.args := by
  obtain ⟨hl, n, rfl, hat⟩ := open_fieldsB hf (by simp) hx hwt
  rw [hz] at hl
  match cs, hl with
  | [u0, u1], _ =>
    obtain ⟨y, h, hw⟩ := hat 0 _ rfl
    obtain ⟨s, e0, f0⟩ := opens_str ha _ _ _ _ _ _ h hw
    obtain ⟨y, h, hw⟩ := hat 1 _ rfl
    obtain ⟨ks, A, m, d, e1, f1⟩ := hb _ _ _ _ _ _ h hw
    simp at e0 e1
    subst e0 e1
    exact ⟨⟨s, ks⟩, ⟨A, m, d⟩, rfl, f0, f1⟩
theorem opens_lit {N d : Nat} {P : Program} {t k at_ o e s al : TypeId} (hf : fieldsOf P t = [(k, 0, 1), (at_, 1, 2), (o, 3, 1), (e, 4, 6), (e, 10, 6), (o, 16, 1)]) (hz : P.cellsOf t = 17) (hk : P.underlying k = some (.int .i64)) (ho : P.underlying o = some (.int .i64))
    (hfa : fieldsOf P at_ = [(s, 0, 1), (al, 1, 1)]) (hza : P.cellsOf at_ = 2) (hs : P.underlying s = some .string) (hal : Opens P al (Enc.slice Enc.told)) (he : OpensB N P e (Enc.exp (d + 1))) : OpensB N P t (Enc.lit d) := by
  intro H enc w fuel cs x hfu hx hwt
  obtain ⟨hl, n, rfl, hat⟩ := open_fieldsB hf (by simp) hx hwt
  rw [hz] at hl
  match cs, hl with
  | [u0, u1, u2, u3, u4, u5, u6, u7, u8, u9, u10, u11, u12, u13, u14, u15, u16], _ =>
    obtain ⟨y, h, hw⟩ := hat 0 _ rfl
    obtain ⟨i0, e0, f0⟩ := opens_int hk _ _ _ _ _ _ h hw
    obtain ⟨y, h, hw⟩ := hat 1 _ rfl
    obtain ⟨ga, ha, e1, f1, f2⟩ := opens_atomF hfa hza hs hal h hw
    obtain ⟨y, h, hw⟩ := hat 2 _ rfl
    obtain ⟨i3, e3, f3⟩ := opens_int ho _ _ _ _ _ _ h hw
    obtain ⟨y, h, hw⟩ := hat 3 _ rfl
    obtain ⟨x4, A4, m4, d4, e4, f4, g4, h4, k4⟩ := he _ _ _ _ _ _ (by omega) h hw
    obtain ⟨y, h, hw⟩ := hat 4 _ rfl
    obtain ⟨x5, A5, m5, d5, e5, f5, g5, h5, k5⟩ := he _ _ _ _ _ _ (by omega) h hw
    obtain ⟨y, h, hw⟩ := hat 5 _ rfl
    obtain ⟨i6, e6, f6⟩ := opens_int ho _ _ _ _ _ _ h hw
    simp at e0 e1 e3 e4 e5 e6
    obtain ⟨rfl, rfl⟩ := e1
    obtain ⟨rfl, rfl, rfl, rfl, rfl, rfl⟩ := e4
    obtain ⟨rfl, rfl, rfl, rfl, rfl, rfl⟩ := e5
    subst e0 e3 e6
    exact ⟨⟨i0, ga, i3, x4, x5, i6⟩, ha, ⟨A4, m4, d4⟩, ⟨A5, m5, d5⟩, rfl, ⟨f0, f3, f6, f1, f2, f4, g4, h4, k4, f5, g5, h5, k5⟩⟩
theorem opens_rule {N d : Nat} {P : Program} {t at_ o lt s al : TypeId} (hf : fieldsOf P t = [(at_, 0, 2), (o, 2, 1), (o, 3, 1), (lt, 4, 1), (o, 5, 1)]) (hz : P.cellsOf t = 6) (ho : P.underlying o = some (.int .i64))
    (hfa : fieldsOf P at_ = [(s, 0, 1), (al, 1, 1)]) (hza : P.cellsOf at_ = 2) (hs : P.underlying s = some .string) (hal : Opens P al (Enc.slice Enc.told)) (hl : OpensB N P lt (Enc.slice (Enc.lit d))) : OpensB N P t (Enc.rule d) := by
  intro H enc w fuel cs x hfu hx hwt
  obtain ⟨hlen, n, rfl, hat⟩ := open_fieldsB hf (by simp) hx hwt
  rw [hz] at hlen
  match cs, hlen with
  | [u0, u1, u2, u3, u4, u5], _ =>
    obtain ⟨y, h, hw⟩ := hat 0 _ rfl
    obtain ⟨ga, ha, e1, f1, f2⟩ := opens_atomF hfa hza hs hal h hw
    obtain ⟨y, h, hw⟩ := hat 1 _ rfl
    obtain ⟨i2, e2, f3⟩ := opens_int ho _ _ _ _ _ _ h hw
    obtain ⟨y, h, hw⟩ := hat 2 _ rfl
    obtain ⟨i3, e3, f4⟩ := opens_int ho _ _ _ _ _ _ h hw
    obtain ⟨y, h, hw⟩ := hat 3 _ rfl
    obtain ⟨ls, A, m, c, e4, f5⟩ := hl _ _ _ _ _ _ (by omega) h hw
    obtain ⟨y, h, hw⟩ := hat 4 _ rfl
    obtain ⟨i5, e5, f6⟩ := opens_int ho _ _ _ _ _ _ h hw
    simp at e1 e2 e3 e4 e5
    obtain ⟨rfl, rfl⟩ := e1
    subst e2 e3 e4 e5
    exact ⟨⟨ga, i2, i3, ls, i5⟩, ha, ⟨A, m, c⟩, rfl, ⟨f1, f2, f3, f4, f5, f6⟩⟩
end Go.Proofs.YtfklheagafffmaaGreatDoor

namespace Go.Proofs.YtfklheagafffmaaGreatDoor
open Go.RowKit Go.WideShapes
theorem open_encB {α : Type} {E : Nat → Enc α} {H : Type} {enc : TypeId × Value → H} {P : Program} {w : World} {t : TypeId} {v : Value} {d : DataW H} {p : List MemPlace} {r : Reach} {b0 : Nat} (hs : ∃ fs, P.underlying t = some (.struct fs)) (ho : ∀ N, OpensB N P t (E N))
    (hval : Value.okWide P w r b0 t v) (h : DataW.Trod enc P w 0 (fun _ => true) true t v d p) (hwt : ∀ n ∈ d.weights P t, n ≤ reachBytes) : ∃ (N : Nat) (x : α) (cs : List Value), v = .agg cs.toArray ∧ (E N).ok w w.heap.size cs x := by
  obtain ⟨fs, hs⟩ := hs
  obtain ⟨cs, rfl, hsz⟩ := okWide_struct hs hval
  obtain ⟨fuel, hx⟩ := h
  obtain ⟨y, hy⟩ := ho fuel _ _ _ fuel _ _ (Nat.le_refl _) hx hwt
  obtain ⟨cs⟩ := cs
  exact ⟨fuel, y, cs, rfl, by simpa [Value.cells] using hy⟩
theorem o_val2 : Opens Tryz.prog 47 Enc.val := opens_val (a := 45) (b := 3) (c := 9) (by kernel_rfl) (by kernel_rfl) Tryz.underlying45 Tryz.underlying3 Tryz.underlying9
theorem o_term : Opens Tryz.prog 65 Enc.told := opens_told (a := 9) (b := 47) (by kernel_rfl) (by kernel_rfl) Tryz.underlying9 o_val2
theorem o_exp (N : Nat) : OpensB N Tryz.prog 68 (Enc.exp (N + 1)) := opens_exp (a := 3) (b := 65) (c := 66) (by kernel_rfl) (by kernel_rfl) (of_decide_eq_true (by kernel_rfl)) Tryz.underlying3 o_term Tryz.underlying66 N
theorem o_terms : Opens Tryz.prog 22 (Enc.slice Enc.told) := opens_slice Tryz.underlying22 o_term (by kernel_rfl) (by show 0 < _; decide) (of_decide_eq_true (by kernel_rfl))
theorem o_lit (N : Nat) : OpensB N Tryz.prog 70 (Enc.lit N) := opens_lit (k := 64) (at_ := 24) (o := 3) (e := 68) (s := 9) (al := 22) (by kernel_rfl) (by kernel_rfl) Tryz.underlying64 Tryz.underlying3 (by kernel_rfl) (by kernel_rfl) Tryz.underlying9 o_terms (o_exp N)
theorem o_lits (N : Nat) : OpensB N Tryz.prog 25 (Enc.slice (Enc.lit N)) := opensB_slice' Tryz.underlying25 (o_lit N) (by show _ = 17; kernel_rfl) (show 0 < 17 by decide) (of_decide_eq_true (by kernel_rfl))
theorem o_rule (N : Nat) : OpensB N Tryz.prog 27 (Enc.rule N) := opens_rule (at_ := 24) (o := 3) (lt := 25) (s := 9) (al := 22) (by kernel_rfl) (by kernel_rfl) Tryz.underlying3 (by kernel_rfl) (by kernel_rfl) Tryz.underlying9 o_terms (o_lits N)
end Go.Proofs.YtfklheagafffmaaGreatDoor
