/- My own texts LexW, LFrame, Exp, Pgm, as far as this claim needs them. -/
import Derived.Test.YtaeedepojpablaaGreatDoorZq3
set_option linter.unusedVariables false
set_option linter.unusedSimpArgs false
set_option maxRecDepth 1000000
set_option maxHeartbeats 16000000
namespace Go.Proofs.YtaeedepojpablaaGreatDoor
open Go.RowKit
def keysL : List (List UInt8) := [[114, 101, 108], [105, 110, 116], [115, 121, 109], [110, 111, 116], [99, 111, 117, 110, 116], [115, 117, 109], [109, 105, 110], [109, 97, 120]]
def headN (l : List UInt8) : Nat := (l.headD 0).toNat
def wordK (l : List UInt8) : Int := if l ∈ keysL then 1 else if nameOk ⟨l.toArray⟩ then 2 else if greatB (headN l) && decide (l.length ≤ 32) then 3 else if (refNum l).isSome then 4 else 0
def bytes (l : List UInt8) : ByteArray := ⟨l.toArray⟩
theorem mem_bytes (s : ByteArray) (L : List (List UInt8)) : decide (s ∈ L.map bytes) = decide (s.toList ∈ L) := by
 rw [Bool.eq_iff_iff]; simp only [decide_eq_true_eq, List.mem_map]; constructor
 ·rintro ⟨l, hl, rfl⟩; unfold bytes; rw [toList_mk]; exact hl
 ·intro h; exact ⟨_, h, bytes_back s⟩
def StrsW (g : Nat) (L : List (List UInt8)) (W : World) : Prop := ∃ t fr, W.heap[g]? = some (.cells (L.map fun l => Value.string (bytes l)).toArray t fr)
theorem StrsW.on {g : Nat} {L : List (List UInt8)} {w W : World} (h : StrsW g L w) (hb : Below w.heap.size w W) : StrsW g L W := by
 obtain ⟨t, fr, h⟩ := h; exact ⟨t, fr, (hb.block g (glt h)).trans h⟩
theorem StrsW.is {g : Nat} {L : List (List UInt8)} {w : World} (h : StrsW g L w) (hl : L.length ≤ 1000) (hb : ∀ l ∈ L, l.length ≤ 1000) : SliceIs Enc.str w w.heap.size (some ⟨g, 0, none⟩) L.length L.length (L.map bytes) := by
 obtain ⟨t, fr, h⟩ := h; refine ⟨by simp, Nat.le_refl _, by simp [maxLen]; omega, by simp [reachN]; omega, .inr ⟨g, 0, rfl, (glt h), ?_⟩⟩; intro i x hx; rw [List.getElem?_map] at hx; obtain ⟨l, hl', rfl⟩ := Option.map_eq_some_iff.1 hx; refine ⟨[.string (bytes l)], ⟨rfl, ?_⟩, ?_⟩
 ·have := hb l (List.mem_of_getElem? hl'); have e : (bytes l).size = l.length := by rw [← ba_len]; unfold bytes; rw [toList_mk]
  rw [e]; simp [reachN]; omega
 ·intro j v hj; match j, hj with
  | 0, hj =>
    simp at hj; subst hj
    rw [cell_of_row _ _ _ _ _ _ h]; show _ = _; simp [Enc.str, hl']
  | j + 1, hj => simp at hj
structure LexW (W : World) : Prop where
 tab : TabW W
 err : ErrW W
 keys : StrsW 3 keysL W
 signs : StrsW 1 signsL W
theorem LexW.on {w W : World} (h : LexW w) (hb : Below w.heap.size w W) : LexW W := ⟨h.tab.on hb, h.err.on hb, h.keys.on hb, h.signs.on hb⟩
def numB (l : List UInt8) : Bool := match Lib.atoiAll l with
 | .ok n => decide (n ≤ 2147483647) && decide (Lib.itoa n = l)
 | _ => false
theorem numB_ref (l : List UInt8) (h : l.head? ≠ some 45) : numB l = (refNum l).isSome := by
 rw [← own_eq_ref]; unfold numB ownNum; cases Lib.atoiAll l with
 | ok n =>
   by_cases h1 : Lib.itoa n = l
   ·have h0 : 0 ≤ n := by
     by_cases hn : 0 ≤ n
     ·exact hn
     ·exfalso; apply h; rw [← h1]; unfold Lib.itoa; rw [if_pos (by omega)]; rfl
    by_cases h2 : n ≤ 2147483647
    ·have h3 : bnd31 n = true := by simp [bnd31]; omega
     simp [h1, h2, h3]
    ·have h3 : bnd31 n = false := by simp [bnd31]; omega
     simp [h1, h2, h3]
   ·simp [h1]
 | _ => rfl
theorem word_any (s : ByteArray) (hs : s.size ≤ 140737488351232) (h1 : 1 ≤ s.size) (hh : s.toList.head? ≠ some 45) (w : World) (hW : LexW w) : Calls Tryz.prog 165 #[.string s] w (RetInt (wordK s.toList) w) := by
 have HW := hZ9 hW; have HC := hZ9 (contains_any _ _ _ _ s w (hW.keys.is (by decide) (by decide))); have Hn := hZ9 (fun w => name_any s w); have Hg := hZ9 (fun w => great_any (s[0]'h1).toNat w)
 have e0 : headN s.toList = (s[0]'h1).toNat := by
  have := ba_head h1; cases hl : s.toList with
  | nil => rw [hl] at this; cases this
  | cons c r => rw [hl] at this; simp at this; simp [headN, this]
 have e1 : nameOk ⟨s.toList.toArray⟩ = nameOk s := by rw [bytes_back]
 have e2 : s.toList.length = s.size := ba_len s
 have HQ : Hid (wordK s.toList = if decide (s ∈ keysL.map bytes) then (1 : Int) else if nameOk s then (2 : Int) else if greatB (s[0]'h1).toNat && decide (s.size ≤ 32) then (3 : Int) else if numB s.toList then (4 : Int) else (0 : Int)) := by
  show _ = _; unfold wordK; rw [e0, e1, e2, mem_bytes, numB_ref _ hh]; simp
 have HA := hZ9 (fun (W : World) (hb : Below w.heap.size w W) => atoi_any s hs W (hW.err.on hb)); have HI := hZ9 (fun (n : Int) (hn : fits n) (W : World) (hb : Below w.heap.size w W) => itoa_any n hn W (hW.tab.on hb)); have h1n : (0 : Int) < (s.size : Int) := by omega
 rw [HQ.out]; clear hh hW e0 e1 e2 HQ; cases hk : decide (s ∈ keysL.map bytes) with
 | true =>
   rw [hk] at HC; simp only [if_true]; go_enter Tryz.func165, Tryz.ntmps165
   go_wp2_with fail
   refine HC.out.mono ?_; rintro e w1 ⟨rfl, hb⟩; go_wp2_with fail
   go_ret; exact ⟨rfl, hb⟩
 | false =>
 rw [hk] at HC; clear hk; simp only [Bool.false_eq_true, if_false]; cases hN : nameOk s with
 | true =>
   rw [hN] at Hn; simp only [if_true]; go_enter Tryz.func165, Tryz.ntmps165
   go_wp2_with fail
   refine HC.out.mono ?_; rintro e w1 ⟨rfl, hb⟩; go_wp2_with fail
   refine (Hn.out _).mono ?_; rintro e w2 ⟨rfl, hb2⟩; go_wp2_with fail
   go_ret; exact ⟨rfl, below_next hb hb2⟩
 | false =>
 rw [hN] at Hn; clear hN; simp only [Bool.false_eq_true, if_false]; have HAll : Hid (∀ (W : World) (hb : Below w.heap.size w W), Calls Tryz.prog 167 #[.string s] W (AtoiPost s W)) := HA.out; clear HA; cases hG : greatB (s[0]'h1).toNat with
 | true =>
   rw [hG] at Hg; by_cases h32 : s.size ≤ 32
   ·have z0 : (s.size : Int) ≤ 32 := by omega
    simp only [h32, decide_true, Bool.and_self, if_true]; clear h32 hG; go_enter Tryz.func165, Tryz.ntmps165
    go_wp2_with fail
    refine HC.out.mono ?_; rintro e w1 ⟨rfl, hb⟩; go_wp2_with fail
    refine (Hn.out _).mono ?_; rintro e w2 ⟨rfl, hb2⟩; go_wp2_with fail
    refine (Hg.out _).mono ?_; rintro e w3 ⟨rfl, rfl⟩; go_wp2_with fail
    go_ret; exact ⟨rfl, below_next hb hb2⟩
   ·have z0 : ¬ (s.size : Int) ≤ 32 := by omega
    simp only [h32, decide_false, Bool.and_false, Bool.false_eq_true, if_false]; clear h32 hG; obtain ⟨R, HR⟩ : ∃ R : Int, Hid (R = if numB s.toList then 4 else 0) := ⟨_, rfl⟩
    rw [← HR.out]; go_enter Tryz.func165, Tryz.ntmps165
    go_wp2_with fail
    refine HC.out.mono ?_; rintro e w1 ⟨rfl, hb⟩; go_wp2_with fail
    refine (Hn.out _).mono ?_; rintro e w2 ⟨rfl, hb2⟩; replace hb := below_next hb hb2; go_wp2_with fail
    refine (Hg.out _).mono ?_; rintro e w3 ⟨rfl, rfl⟩; go_wp2_with fail
    refine (HAll.out _ hb).mono ?_; rintro e w4 ⟨n, ev, hfn, rfl, hb4, hor⟩; replace hb := below_next hb hb4; rcases hor with ⟨ha, rfl⟩ | ⟨ha, T, q, rfl⟩
    rotate_left
    ·have HR2 : Hid (R = 0) := by
      show _ = _; rw [HR.out]; unfold numB
      cases h : Lib.atoiAll s.toList with
      | ok m => exact absurd h (ha m)
      | _ => rfl
     clear ha HR; go_wp2_with fail
     go_ret; exact ⟨by rw [HR2.out]; rfl, hb⟩
    by_cases hn : n ≤ 2147483647
    ·have HT := hZ9 (HI.out n hfn _ hb); by_cases hi : Lib.itoa n = s.toList
     ·have HR2 : Hid (R = 4) := by show _ = _; rw [HR.out]; simp [numB, ha, hn, hi]
      have Hi := hZ9 hi; clear ha HR hi HI; go_wp2_with fail
      refine HT.out.mono ?_; rintro e w5 ⟨t, ht, -, rfl, hb5⟩; have z1 : (t.toList == s.toList) = true := by rw [ht.out, toList_mk, Hi.out]; simp
      go_wp2_with fail
      go_ret; exact ⟨by rw [HR2.out]; rfl, below_next hb hb5⟩
     ·have HR2 : Hid (R = 0) := by show _ = _; rw [HR.out]; simp [numB, ha, hi]
      have Hi := hZ9 hi; clear ha HR hi HI; go_wp2_with fail
      refine HT.out.mono ?_; rintro e w5 ⟨t, ht, -, rfl, hb5⟩; have z1 : (t.toList == s.toList) = false := by rw [ht.out, toList_mk]; simpa using Hi.out
      go_wp2_with fail
      go_ret; exact ⟨by rw [HR2.out]; rfl, below_next hb hb5⟩
    ·have HR2 : Hid (R = 0) := by show _ = _; rw [HR.out]; simp [numB, ha, hn]
     clear ha HR HI; go_wp2_with fail
     go_ret; exact ⟨by rw [HR2.out]; rfl, hb⟩
 | false =>
   rw [hG] at Hg; simp only [Bool.false_and, Bool.false_eq_true, if_false]; clear hG; obtain ⟨R, HR⟩ : ∃ R : Int, Hid (R = if numB s.toList then 4 else 0) := ⟨_, rfl⟩
   rw [← HR.out]; go_enter Tryz.func165, Tryz.ntmps165
   go_wp2_with fail
   refine HC.out.mono ?_; rintro e w1 ⟨rfl, hb⟩; go_wp2_with fail
   refine (Hn.out _).mono ?_; rintro e w2 ⟨rfl, hb2⟩; replace hb := below_next hb hb2; go_wp2_with fail
   refine (Hg.out _).mono ?_; rintro e w3 ⟨rfl, rfl⟩; go_wp2_with fail
   refine (HAll.out _ hb).mono ?_; rintro e w4 ⟨n, ev, hfn, rfl, hb4, hor⟩; replace hb := below_next hb hb4; rcases hor with ⟨ha, rfl⟩ | ⟨ha, T, q, rfl⟩
   rotate_left
   ·have HR2 : Hid (R = 0) := by
     show _ = _; rw [HR.out]; unfold numB
     cases h : Lib.atoiAll s.toList with
     | ok m => exact absurd h (ha m)
     | _ => rfl
    clear ha HR; go_wp2_with fail
    go_ret; exact ⟨by rw [HR2.out]; rfl, hb⟩
   by_cases hn : n ≤ 2147483647
   ·have HT := hZ9 (HI.out n hfn _ hb); by_cases hi : Lib.itoa n = s.toList
    ·have HR2 : Hid (R = 4) := by show _ = _; rw [HR.out]; simp [numB, ha, hn, hi]
     have Hi := hZ9 hi; clear ha HR hi HI; go_wp2_with fail
     refine HT.out.mono ?_; rintro e w5 ⟨t, ht, -, rfl, hb5⟩; have z1 : (t.toList == s.toList) = true := by rw [ht.out, toList_mk, Hi.out]; simp
     go_wp2_with fail
     go_ret; exact ⟨by rw [HR2.out]; rfl, below_next hb hb5⟩
    ·have HR2 : Hid (R = 0) := by show _ = _; rw [HR.out]; simp [numB, ha, hi]
     have Hi := hZ9 hi; clear ha HR hi HI; go_wp2_with fail
     refine HT.out.mono ?_; rintro e w5 ⟨t, ht, -, rfl, hb5⟩; have z1 : (t.toList == s.toList) = false := by rw [ht.out, toList_mk]; simpa using Hi.out
     go_wp2_with fail
     go_ret; exact ⟨by rw [HR2.out]; rfl, below_next hb hb5⟩
   ·have HR2 : Hid (R = 0) := by show _ = _; rw [HR.out]; simp [numB, ha, hn]
    clear ha HR HI; go_wp2_with fail
    go_ret; exact ⟨by rw [HR2.out]; rfl, hb⟩
end Go.Proofs.YtaeedepojpablaaGreatDoor

namespace Go.Proofs.YtaeedepojpablaaGreatDoor
open Go.ChangeShapes Go.WideShapes Go.ChangeAt Go.RowKit
set_option linter.unusedVariables false
def strsData {H : Type} (L : List (List UInt8)) : DataW H := .agg (L.map fun l => .lit (.string l))
theorem cells_of_strs {H : Type} {enc : TypeId × Value → H} {P : Program} {w : World} {base : Nat} {sp : Nat → Bool} {held : Bool} {fuel : Nat} {t e : TypeId} {n : Nat} {cs : List Value} {L : List (List UInt8)} {p : List MemPlace}
 (ht : P.underlying t = some (.array n e)) (he : P.underlying e = some .string) (hce : P.cellsOf e = 1) (hct : P.cellsOf t = n)
 (h : DataW.trod enc P w base sp held fuel t cs = some (strsData L, p)) : cs = L.map fun l => Value.string (bytes l) := by
 cases fuel with
 | zero => simp [DataW.trod] at h
 | succ fuel =>
   simp only [DataW.trod, ht, hce, hct, Nat.mul_one] at h; split at h
   ·rename_i hl
    obtain ⟨xs, hm, hx⟩ := Option.map_eq_some_iff.1 h
    have hxs : xs.map (·.1) = L.map fun l => (DataW.lit (.string l) : DataW H) := by
     have := congrArg Prod.fst hx; simpa [strsData] using this
    have hxl : xs.length = n := by simpa using Lib.mapM_length hm
    have hzl : L.length = n := by
     have := congrArg List.length hxs; simp at this
     omega
    apply List.ext_getElem?; intro i; by_cases hi : i < n
    ·obtain ⟨b, hb, hf⟩ := Lib.mapM_at hm i i (by simp [hi]); obtain ⟨z, hc, rfl, _⟩ := DataW.trod_string he hf
     have h1 : cs[i]? = some (.string z) := by
      have := congrArg (·[0]?) hc; simpa [List.getElem?_take, List.getElem?_drop] using this
     have h2 : (xs.map (·.1))[i]? = some (DataW.lit (.string z.data.toList) : DataW H) := by simp [hb]
     rw [hxs] at h2; simp only [List.getElem?_map, Option.map_eq_some_iff, DataW.lit.injEq, Lit.string.injEq] at h2; obtain ⟨z', hz', hzz⟩ := h2; have e1 : bytes z' = z := by rw [hzz]; rfl
     simp [h1, hz', e1]
    ·rw [List.getElem?_eq_none (by omega), List.getElem?_eq_none (by simp; omega)]
   ·cases h
theorem strs_of_head {P : Program} {W : World} {name : String} {L : List (List UInt8)} {rest : List (String × DataW Unit)} {g : Nat} {t e : TypeId} {n : Nat}
 (hg : P.globalNamed name = some g) (hty : (P.globals[g]?).map (·.type) = some t) (ht : P.underlying t = some (.array n e)) (he : P.underlying e = some .string) (hce : P.cellsOf e = 1) (hct : P.cellsOf t = n)
 (h : laidMet P ((name, strsData L) :: rest) W) : StrsW g L W := by
 obtain ⟨ps, ⟨g', t', cs, fuel, p, q, hg', ht', hvar, hd, _, _⟩, _⟩ := h; obtain rfl := Option.some.inj (hg.symm.trans hg'); obtain rfl := Option.some.inj (hty.symm.trans ht'); have e1 := cells_of_strs ht he hce hct hd; simp only [World.var?, hg, Option.bind_some] at hvar; split at hvar
 ·rename_i c t2 fr hb
  injection hvar with hvar
  refine ⟨t2, fr, hb.trans ?_⟩; rw [hvar, ← e1]
 ·cases hvar
theorem keys_eq {H : Type} : (Rows.laid_corollary_lex_keys : DataW H) = strsData keysL := rfl
theorem signs_eq {H : Type} : (Rows.laid_corollary_lex_signs : DataW H) = strsData signsL := rfl
theorem gK : Tryz.prog.globalNamed "corollary/lex.keys" = some 3 := by kernel_rfl
theorem gKT : (Tryz.prog.globals[3]?).map (·.type) = some 279 := by kernel_rfl
theorem gS : Tryz.prog.globalNamed "corollary/lex.signs" = some 1 := by kernel_rfl
theorem gST : (Tryz.prog.globals[1]?).map (·.type) = some 258 := by kernel_rfl
end Go.Proofs.YtaeedepojpablaaGreatDoor

namespace Go.Proofs.YtaeedepojpablaaGreatDoor
open Go.RowKit
inductive GExp where
 | mk (op : Int) (t : GTold) (kids : List GExp)
def GExp.op : GExp → Int | .mk o _ _ => o
def GExp.t : GExp → GTold | .mk _ t _ => t
def GExp.kids : GExp → List GExp | .mk _ _ k => k
def Enc.expStep (E : Enc GExp) : Enc GExp where
 sz := 6
 ok := fun w B cs e => ∃ A n c, cs = [.int .i64 e.op, .string e.t.x, .int .i64 e.t.v.k, .int .i64 e.t.v.n, .string e.t.v.s, .slice A n c] ∧ fits e.op ∧ e.t.x.size ≤ reachN ∧ e.t.v.ok ∧ SliceIs E w B A n c e.kids
 mono := fun hB hk ⟨A, n, c, h1, h2, h3, h4, h5⟩ => ⟨A, n, c, h1, h2, h3, h4, h5.mono' hB hk⟩
 len := fun ⟨_, _, _, h, _⟩ => by rw [h]; rfl
def Enc.expNone : Enc GExp where
 sz := 6
 ok := fun _ _ _ _ => False
 mono := fun _ _ h => h
 len := fun h => h.elim
def Enc.exp : Nat → Enc GExp
 | 0 => Enc.expNone
 | d + 1 => Enc.expStep (Enc.exp d)
theorem Enc.exp_sz : ∀ d, (Enc.exp d).sz = 6
 | 0 => rfl
 | _ + 1 => rfl
theorem SliceIs.exp_at {w : World} {B : Nat} {A : Option Addr} {n c d : Nat} {l : List GExp} (h : SliceIs (Enc.exp d) w B A n c l) {i : Nat} (hi : i < n) :
 ∃ b o e A' n' c' d', A = some ⟨b, o, none⟩ ∧ b < B ∧ Hid (l[i]? = some e) ∧ d = d' + 1 ∧ w.cell? ⟨b, o + i * 6, none⟩ = some (.int .i64 e.op) ∧ w.cell? ⟨b, o + i * 6 + 1, none⟩ = some (.string e.t.x) ∧ w.cell? ⟨b, o + i * 6 + 2, none⟩ = some (.int .i64 e.t.v.k) ∧
   w.cell? ⟨b, o + i * 6 + 3, none⟩ = some (.int .i64 e.t.v.n) ∧ w.cell? ⟨b, o + i * 6 + 4, none⟩ = some (.string e.t.v.s) ∧ w.cell? ⟨b, o + i * 6 + 5, none⟩ = some (.slice A' n' c') ∧
   fits e.op ∧ e.t.x.size ≤ reachN ∧ e.t.v.ok ∧ SliceIs (Enc.exp d') w B A' n' c' e.kids := by
 obtain ⟨b, o, e, cs, hA, hb, hx, hok, hc⟩ := h.at_ hi; cases d with
 | zero => exact hok.elim
 | succ d =>
   obtain ⟨A', n', c', rfl, h1, h2, h3, h4⟩ := hok; rw [Enc.exp_sz] at hc; exact ⟨b, o, e, A', n', c', d, hA, hb, hx, rfl, by simpa using hc 0 _ rfl, by simpa using hc 1 _ rfl, by simpa using hc 2 _ rfl, by simpa using hc 3 _ rfl, by simpa using hc 4 _ rfl, by simpa using hc 5 _ rfl, h1, h2, h3, h4⟩
end Go.Proofs.YtaeedepojpablaaGreatDoor

namespace Go.Proofs.YtaeedepojpablaaGreatDoor
open Go.RowKit
structure Hd where
 A : Option Addr
 n : Nat
 c : Nat
abbrev Hd.v (h : Hd) : Value := .slice h.A h.n h.c
structure GAtom where
 rel : ByteArray
 args : List GTold
structure GLit where
 k : Int
 atom : GAtom
 op : Int
 l : GExp
 r : GExp
 pos : Int
structure GRule where
 head : GAtom
 agg : Int
 col : Int
 body : List GLit
 pos : Int
structure GDecl where
 rel : ByteArray
 kinds : List Int
 pos : Int
structure GProg where
 decls : List GDecl
 rules : List GRule
abbrev litC (x : GLit) (a p q : Hd) : List Value := [.int .i64 x.k, .string x.atom.rel, a.v, .int .i64 x.op, .int .i64 x.l.op, .string x.l.t.x, .int .i64 x.l.t.v.k, .int .i64 x.l.t.v.n, .string x.l.t.v.s, p.v, .int .i64 x.r.op, .string x.r.t.x, .int .i64 x.r.t.v.k, .int .i64 x.r.t.v.n, .string x.r.t.v.s, q.v, .int .i64 x.pos]
abbrev ruleC (x : GRule) (a b : Hd) : List Value := [.string x.head.rel, a.v, .int .i64 x.agg, .int .i64 x.col, b.v, .int .i64 x.pos]
abbrev declC (x : GDecl) (a : Hd) : List Value := [.string x.rel, a.v, .int .i64 x.pos]
structure LitAt (d : Nat) (w : World) (B : Nat) (x : GLit) (a p q : Hd) : Prop where
 k : fits x.k
 op : fits x.op
 pos : fits x.pos
 rel : x.atom.rel.size ≤ reachN
 args : SliceIs Enc.told w B a.A a.n a.c x.atom.args
 lop : fits x.l.op
 lx : x.l.t.x.size ≤ reachN
 lv : x.l.t.v.ok
 lk : SliceIs (Enc.exp d) w B p.A p.n p.c x.l.kids
 rop : fits x.r.op
 rx : x.r.t.x.size ≤ reachN
 rv : x.r.t.v.ok
 rk : SliceIs (Enc.exp d) w B q.A q.n q.c x.r.kids
theorem LitAt.mono' {d : Nat} {w w' : World} {B B' : Nat} {x : GLit} {a p q : Hd} (h : LitAt d w B x a p q) (hB : B ≤ B') (hk : Kept w w' B) : LitAt d w' B' x a p q :=
 ⟨h.k, h.op, h.pos, h.rel, h.args.mono' hB hk, h.lop, h.lx, h.lv, h.lk.mono' hB hk, h.rop, h.rx, h.rv, h.rk.mono' hB hk⟩
theorem LitAt.keep {d : Nat} {w w' : World} {x : GLit} {a p q : Hd} (h : LitAt d w w.heap.size x a p q) (hb : Below w.heap.size w w') : LitAt d w' w'.heap.size x a p q := h.mono' hb.size (Kept.of hb.block)
def Enc.lit (d : Nat) : Enc GLit where
 sz := 17
 ok := fun w B cs x => ∃ a p q : Hd, cs = litC x a p q ∧ LitAt d w B x a p q
 mono := fun hB hk ⟨a, p, q, h1, h2⟩ => ⟨a, p, q, h1, h2.mono' hB hk⟩
 len := fun ⟨_, _, _, h, _⟩ => by rw [h]; rfl
structure RuleAt (d : Nat) (w : World) (B : Nat) (x : GRule) (a b : Hd) : Prop where
 rel : x.head.rel.size ≤ reachN
 args : SliceIs Enc.told w B a.A a.n a.c x.head.args
 agg : fits x.agg
 col : fits x.col
 body : SliceIs (Enc.lit d) w B b.A b.n b.c x.body
 pos : fits x.pos
theorem RuleAt.mono' {d : Nat} {w w' : World} {B B' : Nat} {x : GRule} {a b : Hd} (h : RuleAt d w B x a b) (hB : B ≤ B') (hk : Kept w w' B) : RuleAt d w' B' x a b :=
 ⟨h.rel, h.args.mono' hB hk, h.agg, h.col, h.body.mono' hB hk, h.pos⟩
theorem RuleAt.keep {d : Nat} {w w' : World} {x : GRule} {a b : Hd} (h : RuleAt d w w.heap.size x a b) (hb : Below w.heap.size w w') : RuleAt d w' w'.heap.size x a b := h.mono' hb.size (Kept.of hb.block)
def Enc.rule (d : Nat) : Enc GRule where
 sz := 6
 ok := fun w B cs x => ∃ a b : Hd, cs = ruleC x a b ∧ RuleAt d w B x a b
 mono := fun hB hk ⟨a, b, h1, h2⟩ => ⟨a, b, h1, h2.mono' hB hk⟩
 len := fun ⟨_, _, h, _⟩ => by rw [h]; rfl
structure DeclAt (w : World) (B : Nat) (x : GDecl) (a : Hd) : Prop where
 rel : x.rel.size ≤ reachN
 kinds : SliceIs Enc.int w B a.A a.n a.c x.kinds
 pos : fits x.pos
theorem DeclAt.mono' {w w' : World} {B B' : Nat} {x : GDecl} {a : Hd} (h : DeclAt w B x a) (hB : B ≤ B') (hk : Kept w w' B) : DeclAt w' B' x a := ⟨h.rel, h.kinds.mono' hB hk, h.pos⟩
theorem DeclAt.keep {w w' : World} {x : GDecl} {a : Hd} (h : DeclAt w w.heap.size x a) (hb : Below w.heap.size w w') : DeclAt w' w'.heap.size x a := h.mono' hb.size (Kept.of hb.block)
def Enc.decl : Enc GDecl where
 sz := 3
 ok := fun w B cs x => ∃ a : Hd, cs = declC x a ∧ DeclAt w B x a
 mono := fun hB hk ⟨a, h1, h2⟩ => ⟨a, h1, h2.mono' hB hk⟩
 len := fun ⟨_, h, _⟩ => by rw [h]; rfl
section
variable {w : World} {B : Nat} {A : Option Addr} {n c d : Nat}
theorem SliceIs.lit_at {l : List GLit} (h : SliceIs (Enc.lit d) w B A n c l) {i : Nat} (hi : i < n) :
 ∃ (b o : Nat) (x : GLit) (a p q : Hd), A = some ⟨b, o, none⟩ ∧ b < B ∧ Hid (l[i]? = some x) ∧ LitAt d w B x a p q ∧
   w.cell? ⟨b, o + i * 17, none⟩ = some (.int .i64 x.k) ∧ w.cell? ⟨b, o + i * 17 + 1, none⟩ = some (.string x.atom.rel) ∧ w.cell? ⟨b, o + i * 17 + 2, none⟩ = some (a.v) ∧ w.cell? ⟨b, o + i * 17 + 3, none⟩ = some (.int .i64 x.op) ∧ w.cell? ⟨b, o + i * 17 + 4, none⟩ = some (.int .i64 x.l.op) ∧ w.cell? ⟨b, o + i * 17 + 5, none⟩ = some (.string x.l.t.x) ∧ w.cell? ⟨b, o + i * 17 + 6, none⟩ = some (.int .i64 x.l.t.v.k) ∧ w.cell? ⟨b, o + i * 17 + 7, none⟩ = some (.int .i64 x.l.t.v.n) ∧ w.cell? ⟨b, o + i * 17 + 8, none⟩ = some (.string x.l.t.v.s) ∧ w.cell? ⟨b, o + i * 17 + 9, none⟩ = some (p.v) ∧ w.cell? ⟨b, o + i * 17 + 10, none⟩ = some (.int .i64 x.r.op) ∧ w.cell? ⟨b, o + i * 17 + 11, none⟩ = some (.string x.r.t.x) ∧ w.cell? ⟨b, o + i * 17 + 12, none⟩ = some (.int .i64 x.r.t.v.k) ∧ w.cell? ⟨b, o + i * 17 + 13, none⟩ = some (.int .i64 x.r.t.v.n) ∧ w.cell? ⟨b, o + i * 17 + 14, none⟩ = some (.string x.r.t.v.s) ∧ w.cell? ⟨b, o + i * 17 + 15, none⟩ = some (q.v) ∧ w.cell? ⟨b, o + i * 17 + 16, none⟩ = some (.int .i64 x.pos) := by
 obtain ⟨b, o, x, cs, hA, hb, hx, ⟨a, p, q, rfl, h1⟩, hc⟩ := h.at_ hi; exact ⟨b, o, x, a, p, q, hA, hb, hx, h1, by simpa [Enc.lit] using hc 0 _ rfl, by simpa [Enc.lit] using hc 1 _ rfl, by simpa [Enc.lit] using hc 2 _ rfl, by simpa [Enc.lit] using hc 3 _ rfl, by simpa [Enc.lit] using hc 4 _ rfl, by simpa [Enc.lit] using hc 5 _ rfl, by simpa [Enc.lit] using hc 6 _ rfl, by simpa [Enc.lit] using hc 7 _ rfl, by simpa [Enc.lit] using hc 8 _ rfl, by simpa [Enc.lit] using hc 9 _ rfl, by simpa [Enc.lit] using hc 10 _ rfl, by simpa [Enc.lit] using hc 11 _ rfl, by simpa [Enc.lit] using hc 12 _ rfl, by simpa [Enc.lit] using hc 13 _ rfl, by simpa [Enc.lit] using hc 14 _ rfl, by simpa [Enc.lit] using hc 15 _ rfl, by simpa [Enc.lit] using hc 16 _ rfl⟩
theorem SliceIs.rule_at {l : List GRule} (h : SliceIs (Enc.rule d) w B A n c l) {i : Nat} (hi : i < n) :
 ∃ (b o : Nat) (x : GRule) (a m : Hd), A = some ⟨b, o, none⟩ ∧ b < B ∧ Hid (l[i]? = some x) ∧ RuleAt d w B x a m ∧
   w.cell? ⟨b, o + i * 6, none⟩ = some (.string x.head.rel) ∧ w.cell? ⟨b, o + i * 6 + 1, none⟩ = some (a.v) ∧ w.cell? ⟨b, o + i * 6 + 2, none⟩ = some (.int .i64 x.agg) ∧ w.cell? ⟨b, o + i * 6 + 3, none⟩ = some (.int .i64 x.col) ∧ w.cell? ⟨b, o + i * 6 + 4, none⟩ = some (m.v) ∧ w.cell? ⟨b, o + i * 6 + 5, none⟩ = some (.int .i64 x.pos) := by
 obtain ⟨b, o, x, cs, hA, hb, hx, ⟨a, m, rfl, h1⟩, hc⟩ := h.at_ hi; exact ⟨b, o, x, a, m, hA, hb, hx, h1, by simpa [Enc.rule] using hc 0 _ rfl, by simpa [Enc.rule] using hc 1 _ rfl, by simpa [Enc.rule] using hc 2 _ rfl, by simpa [Enc.rule] using hc 3 _ rfl, by simpa [Enc.rule] using hc 4 _ rfl, by simpa [Enc.rule] using hc 5 _ rfl⟩
theorem SliceIs.decl_at {l : List GDecl} (h : SliceIs Enc.decl w B A n c l) {i : Nat} (hi : i < n) :
 ∃ (b o : Nat) (x : GDecl) (a : Hd), A = some ⟨b, o, none⟩ ∧ b < B ∧ Hid (l[i]? = some x) ∧ DeclAt w B x a ∧
   w.cell? ⟨b, o + i * 3, none⟩ = some (.string x.rel) ∧ w.cell? ⟨b, o + i * 3 + 1, none⟩ = some (a.v) ∧ w.cell? ⟨b, o + i * 3 + 2, none⟩ = some (.int .i64 x.pos) := by
 obtain ⟨b, o, x, cs, hA, hb, hx, ⟨a, rfl, h1⟩, hc⟩ := h.at_ hi; exact ⟨b, o, x, a, hA, hb, hx, h1, by simpa [Enc.decl] using hc 0 _ rfl, by simpa [Enc.decl] using hc 1 _ rfl, by simpa [Enc.decl] using hc 2 _ rfl⟩
end
theorem facts2 {W : World} {g : Nat} {t : TypeId} {v0 v1 : Value} (h : W.heap[g]? = some (.cells #[v0, v1] t (0, 0))) : W.cell? ⟨g, 0, none⟩ = some v0 ∧ W.cell? ⟨g, 1, none⟩ = some v1 :=
 ⟨(cell_of_row _ _ 0 _ _ _ h).trans rfl, (cell_of_row _ _ 1 _ _ _ h).trans rfl⟩
theorem facts3 {W : World} {g : Nat} {t : TypeId} {v0 v1 v2 : Value} (h : W.heap[g]? = some (.cells #[v0, v1, v2] t (0, 0))) : W.cell? ⟨g, 0, none⟩ = some v0 ∧ W.cell? ⟨g, 1, none⟩ = some v1 ∧ W.cell? ⟨g, 2, none⟩ = some v2 :=
 ⟨(cell_of_row _ _ 0 _ _ _ h).trans rfl, (cell_of_row _ _ 1 _ _ _ h).trans rfl, (cell_of_row _ _ 2 _ _ _ h).trans rfl⟩
theorem facts4 {W : World} {g : Nat} {t : TypeId} {v0 v1 v2 v3 : Value} (h : W.heap[g]? = some (.cells #[v0, v1, v2, v3] t (0, 0))) : W.cell? ⟨g, 0, none⟩ = some v0 ∧ W.cell? ⟨g, 1, none⟩ = some v1 ∧ W.cell? ⟨g, 2, none⟩ = some v2 ∧ W.cell? ⟨g, 3, none⟩ = some v3 :=
 ⟨(cell_of_row _ _ 0 _ _ _ h).trans rfl, (cell_of_row _ _ 1 _ _ _ h).trans rfl, (cell_of_row _ _ 2 _ _ _ h).trans rfl, (cell_of_row _ _ 3 _ _ _ h).trans rfl⟩
theorem facts6 {W : World} {g : Nat} {t : TypeId} {v0 v1 v2 v3 v4 v5 : Value} (h : W.heap[g]? = some (.cells #[v0, v1, v2, v3, v4, v5] t (0, 0))) : W.cell? ⟨g, 0, none⟩ = some v0 ∧ W.cell? ⟨g, 1, none⟩ = some v1 ∧ W.cell? ⟨g, 2, none⟩ = some v2 ∧ W.cell? ⟨g, 3, none⟩ = some v3 ∧ W.cell? ⟨g, 4, none⟩ = some v4 ∧ W.cell? ⟨g, 5, none⟩ = some v5 :=
 ⟨(cell_of_row _ _ 0 _ _ _ h).trans rfl, (cell_of_row _ _ 1 _ _ _ h).trans rfl, (cell_of_row _ _ 2 _ _ _ h).trans rfl, (cell_of_row _ _ 3 _ _ _ h).trans rfl, (cell_of_row _ _ 4 _ _ _ h).trans rfl, (cell_of_row _ _ 5 _ _ _ h).trans rfl⟩
theorem facts17 {W : World} {g : Nat} {t : TypeId} {v0 v1 v2 v3 v4 v5 v6 v7 v8 v9 v10 v11 v12 v13 v14 v15 v16 : Value} (h : W.heap[g]? = some (.cells #[v0, v1, v2, v3, v4, v5, v6, v7, v8, v9, v10, v11, v12, v13, v14, v15, v16] t (0, 0))) : W.cell? ⟨g, 0, none⟩ = some v0 ∧ W.cell? ⟨g, 1, none⟩ = some v1 ∧ W.cell? ⟨g, 2, none⟩ = some v2 ∧ W.cell? ⟨g, 3, none⟩ = some v3 ∧ W.cell? ⟨g, 4, none⟩ = some v4 ∧ W.cell? ⟨g, 5, none⟩ = some v5 ∧ W.cell? ⟨g, 6, none⟩ = some v6 ∧ W.cell? ⟨g, 7, none⟩ = some v7 ∧ W.cell? ⟨g, 8, none⟩ = some v8 ∧ W.cell? ⟨g, 9, none⟩ = some v9 ∧ W.cell? ⟨g, 10, none⟩ = some v10 ∧ W.cell? ⟨g, 11, none⟩ = some v11 ∧ W.cell? ⟨g, 12, none⟩ = some v12 ∧ W.cell? ⟨g, 13, none⟩ = some v13 ∧ W.cell? ⟨g, 14, none⟩ = some v14 ∧ W.cell? ⟨g, 15, none⟩ = some v15 ∧ W.cell? ⟨g, 16, none⟩ = some v16 :=
 ⟨(cell_of_row _ _ 0 _ _ _ h).trans rfl, (cell_of_row _ _ 1 _ _ _ h).trans rfl, (cell_of_row _ _ 2 _ _ _ h).trans rfl, (cell_of_row _ _ 3 _ _ _ h).trans rfl, (cell_of_row _ _ 4 _ _ _ h).trans rfl, (cell_of_row _ _ 5 _ _ _ h).trans rfl, (cell_of_row _ _ 6 _ _ _ h).trans rfl, (cell_of_row _ _ 7 _ _ _ h).trans rfl, (cell_of_row _ _ 8 _ _ _ h).trans rfl, (cell_of_row _ _ 9 _ _ _ h).trans rfl, (cell_of_row _ _ 10 _ _ _ h).trans rfl, (cell_of_row _ _ 11 _ _ _ h).trans rfl, (cell_of_row _ _ 12 _ _ _ h).trans rfl, (cell_of_row _ _ 13 _ _ _ h).trans rfl, (cell_of_row _ _ 14 _ _ _ h).trans rfl, (cell_of_row _ _ 15 _ _ _ h).trans rfl, (cell_of_row _ _ 16 _ _ _ h).trans rfl⟩
structure ProgAt (d : Nat) (w : World) (B : Nat) (x : GProg) (a b : Hd) : Prop where
 decls : SliceIs Enc.decl w B a.A a.n a.c x.decls
 rules : SliceIs (Enc.rule d) w B b.A b.n b.c x.rules
theorem ProgAt.keep {d : Nat} {w w' : World} {x : GProg} {a b : Hd} (h : ProgAt d w w.heap.size x a b) (hb : Below w.heap.size w w') : ProgAt d w' w'.heap.size x a b := ⟨h.decls.mono' hb.size (Kept.of hb.block), h.rules.mono' hb.size (Kept.of hb.block)⟩
end Go.Proofs.YtaeedepojpablaaGreatDoor
