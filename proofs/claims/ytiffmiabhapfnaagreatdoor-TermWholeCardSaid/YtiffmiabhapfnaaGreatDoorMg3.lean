/- Merged by my own program of: TVars, LexLaw, Shelf, Tab, StDigits, Name, VParseLaw, VParse, LexG, LexS, LexW. -/
import Derived.Test.YtiffmiabhapfnaaGreatDoorMg2
import Derived.Shelf.Small.Strs
import Derived.Shelf.Strconv.Atoi
import Derived.Shelf.Strconv.Itoa0
import Derived.Shelf.Strconv.Itoa1
import Derived.Shelf.LaysM
import Derived.Shelf.Strconv.Itoa2
import Derived.Shelf.Strconv.Itoa3
import Derived.Shelf.Strconv.AtoiErrFast
import Derived.Shelf.Strconv.ParseIntEmpty
import Derived.Shelf.Strconv.AtoiFail
import Derived.Shelf.Strconv.Clone
import Derived.Shelf.Strconv.SyntaxError
import Derived.Shelf.LaysC
import Derived.Shelf.Strconv.ToError
import Derived.Shelf.Strconv.Lower
import Derived.Shelf.Strconv.ParseUint10
import Derived.Shelf.Strconv.ParseUint10Empty
import Derived.Shelf.Strconv.ParseUint10Any
import Derived.Shelf.Strconv.ParseInt10
import Derived.Shelf.Strconv.AtoiLong
import Derived.Shelf.Strconv.AtoiInnerAll
import Derived.Shelf.Strconv.RangeError
import Derived.Shelf.Strconv.ToErrorRange
import Derived.Shelf.Strconv.AtoiAll
import Derived.Shelf.Strconv.ErrVarAll
import Derived.Shelf.Strings.Search1
import Derived.Shelf.Strings.Search2
import Derived.Shelf.Strings.Cut
import Derived.Shelf.Strings.Shaped
import Derived.Shelf.Strings.Prefix
import Derived.Test.YtiffmiabhapfnaaGreatDoorProg
import Derived.Lib.AppendIntMem
import Derived.Lib.ItoaLen
import Derived.Lib.TrimU
import Derived.Lib.OthersKept
import Derived.Deep.LoopGhost
import Derived.Lib.AtoiTie
import Derived.Lib.ItoaNum
import Derived.Lib.ItoaMem
import Derived.Laws.BitsAllLaws
import Derived.Laws.IdiomStrings
import Derived.Deep.DeepCutAuto
import Derived.Lib.CutLaws
/- term.Vars: a rule's variables. -/
namespace Go.Proofs.YtiffmiabhapfnaaGreatDoor
open Go.RowKit

theorem rule_ok {d : Nat} {w : World} {B : Nat} {x : GRule} {a b : Hd} (h : RuleAt d w B x a b) : ∀ t ∈ ruleT x, t.x.size ≤ reachN ∧ t.v.ok := by
  intro t ht
  unfold ruleT at ht
  rcases List.mem_append.1 ht with ht | ht
  · exact told_ok h.args t ht
  · obtain ⟨y, hy, hty⟩ := List.mem_flatMap.1 ht
    obtain ⟨i, hi⟩ := List.mem_iff_getElem?.1 hy
    have hil : i < b.n := by rw [← h.body.1]; exact (List.getElem?_eq_some_iff.1 hi).1
    obtain ⟨bb, o, y', a', p', q', -, -, hy', hl, -⟩ := h.body.lit_at hil
    have e1 : y' = y := by have := hy'.out; rw [hi] at this; injection this with this; exact this.symm
    subst e1
    exact inside_ok hl t hty
theorem flatMap_take {α β : Type} {l : List α} {f : α → List β} {k : Nat} {y : α} (hx : l[k]? = some y) : (l.take (k + 1)).flatMap f = (l.take k).flatMap f ++ f y := by
  rw [List.take_add_one, hx]; simp
theorem flatMap_len {α β : Type} (l : List α) (f : α → List β) (k : Nat) : ((l.take k).flatMap f).length ≤ (l.flatMap f).length := by
  have : l.flatMap f = (l.take k).flatMap f ++ (l.drop k).flatMap f := by rw [← List.flatMap_append, List.take_append_drop]
  rw [this]; simp only [List.length_append]; omega

set_option maxRecDepth 100000 in
set_option maxHeartbeats 4000000 in
theorem vars_any (d : Nat) (x : GRule) (a b : Hd) (w : World) (hx : RuleAt d w w.heap.size x a b) (hsz : (ruleT x).length ≤ 1500) :
    Calls Tryz.prog 16 #[.agg (ruleC x a b).toArray] w (TextsPost (putL [] (ruleT x)) w) := by
  have HX := Lib.hid hx
  have Hsz := Lib.hid hsz
  have Hok := Lib.hid (rule_ok hx)
  have hn := hx.body.bound
  have hsa : x.head.args.length ≤ 1500 := by unfold ruleT at hsz; simp only [List.length_append] at hsz; omega
  have hsb : (x.body.flatMap insideL).length ≤ 1500 := by unfold ruleT at hsz; simp only [List.length_append] at hsz; omega
  have hal := hx.args.1
  have Hlen := Lib.hid hx.body.1
  obtain ⟨P, HP⟩ : ∃ P : Ending → World → Prop, Hid (P = TextsPost (putL [] (ruleT x)) w) := ⟨_, rfl⟩
  rw [← HP.out]
  have hrb : (w.alloc (.cells (ruleC x a b).toArray 56)).heap[w.heap.size]? = some (.cells (ruleC x a b).toArray 56 (0, 0)) := heapNew rfl
  obtain ⟨b0, b1, b2, b3, b4, b5⟩ := facts6 hrb
  have hbw : Below w.heap.size w (w.alloc (.cells (ruleC x a b).toArray 56)) := belowA (Below.refl _ _) _
  have hz1 : (w.alloc (.cells (ruleC x a b).toArray 56)).heap.size = w.heap.size + 1 := by simp
  have HC := Lib.hid (put_any (w.heap.size + 1) none 0 0 [] a.A a.n a.c x.head.args (w.alloc (.cells (ruleC x a b).toArray 56)) (by omega) rfl (World.ownsRow_nil _ _ _ _) (fun _ h => by cases h) (fun W hk hb => HX.out.args.keep (hbw.trans (hb.mono (by omega)))) (by omega))
  clear hx hsz hal
  go_enter Tryz.func16, Tryz.ntmps16
  go_wp2_with fail
  refine HC.out.mono ?_
  rintro e w1 ⟨A1, c1, rfl, ho1, -, hb1⟩
  have hbw1 : Below w.heap.size w w1 := hbw.trans (hb1.mono (by omega))
  have hbs := hb1.size
  rw [hz1] at hbs
  have hrb1 := (hb1.block w.heap.size (by omega)).trans hrb
  obtain ⟨c0, c1', c2, c3, c4, c5⟩ := facts6 hrb1
  have hl0 := putL_len x.head.args []
  obtain ⟨L0, HL0⟩ : ∃ L0, Hid (putL [] x.head.args = L0) := ⟨_, rfl⟩
  rw [HL0.out] at ho1 hl0
  rw [HL0.out]
  have Ho1 := Lib.hid ho1
  have HM0 : Hid (L0.length = L0.length) := rfl
  obtain ⟨m0, Hm0⟩ : ∃ m0, Hid (L0.length = m0) := ⟨_, rfl⟩
  rw [Hm0.out] at Ho1 hl0
  rw [Hm0.out]
  have HT0 : Hid (putL [] (x.head.args ++ (x.body.take 0).flatMap insideL) = L0) := by show _ = _; simpa using HL0.out
  simp only [List.length_nil, Nat.zero_add] at hl0
  clear ho1 HM0 hbw hb1 hrb hrb1 HC hz1 HL0 b0 b1 b2 b3 b4 b5
  go_wp2_with fail
  go_loopw [3, 5, 13] (fun v _ i wr => ∃ (k m c' : Nat) (A' : Option Addr) (L : List ByteArray), k ≤ b.n ∧ i = .int .i64 k ∧ v = .slice A' m c' ∧ Hid (putL [] (x.head.args ++ (x.body.take k).flatMap insideL) = L) ∧ m ≤ 1500 ∧ Hid (L.length = m) ∧ Hid (wr.ownsRow (w.heap.size + 1) 9 1 (.slice A' m c') m (L.flatMap strC)) ∧ Below w.heap.size w wr ∧ w.heap.size + 1 ≤ wr.heap.size) (fun _ _ i _ => b.n - (intOf i).toNat)
  case atStart => exact ⟨0, m0, c1, A1, L0, by omega, rfl, rfl, HT0, by omega, Hm0, Ho1, hbw1, by omega⟩
  case round =>
    obtain ⟨k, m, c', A', L, hk, rfl, rfl, hL, hm, HLm, HO, hbr, hzr⟩ := hrel
    have i0 : (0 : Int) ≤ (k : Int) := by omega
    by_cases hlt : k < b.n
    · have i1 : (k : Int) < (b.n : Int) := by omega
      obtain ⟨bb, o, y, a', p', q', hA, hbb, hy, hly, Hr⟩ := (HX.out.keep hbr).body.lit_range hlt
      have hbx : Below wr.heap.size wr (wr.alloc (.cells (litC y a' p' q').toArray 63)) := belowA (Below.refl _ _) _
      have hzx : (wr.alloc (.cells (litC y a' p' q').toArray 63)).heap.size = wr.heap.size + 1 := by simp
      have hyl : (insideL y).length ≤ 1500 := by
        have h1 := flatMap_len x.body insideL (k + 1)
        rw [flatMap_take hy.out] at h1
        simp only [List.length_append] at h1
        omega
      have hmk : (putL [] (x.head.args ++ (x.body.take (k + 1)).flatMap insideL)).length ≤ 1500 := by
        have h1 := flatMap_len x.body insideL (k + 1)
        have h2 := putL_len (x.head.args ++ (x.body.take (k + 1)).flatMap insideL) []
        have h3 := Hsz.out
        unfold ruleT at h3
        simp only [List.length_append, List.length_nil] at h2 h3
        omega
      have HT : Hid (putL [] (x.head.args ++ (x.body.take (k + 1)).flatMap insideL) = putL L (insideL y)) := by
        show _ = _
        rw [flatMap_take hy.out, ← List.append_assoc, putL_app, hL.out]
      rw [HT.out] at hmk
      have HLs : Hid (∀ s ∈ L, s.size ≤ reachN) := fun s h => by
        rw [← hL.out] at h
        rcases putL_mem h with h | ⟨t, ht, e⟩
        · cases h
        · refine e ▸ (Hok.out t ?_).1
          unfold ruleT
          rcases List.mem_append.1 ht with ht | ht
          · exact List.mem_append_left _ ht
          · obtain ⟨z, hz, hzt⟩ := List.mem_flatMap.1 ht
            exact List.mem_append_right _ (List.mem_flatMap.2 ⟨z, List.mem_of_mem_take hz, hzt⟩)
      have Hly := Lib.hid (inside_ok hly)
      have HI := Lib.hid (insideT_any d y a' p' q' _ (hly.keep hbx) hyl)
      have hbx' : Below (w.heap.size + 1) wr (wr.alloc (.cells (litC y a' p' q').toArray 63)) := hbx.mono (by omega)
      have Hbx := Lib.hid hbx
      clear hL hly hy hbx
      have hbv : b.v = .slice (some ⟨bb, o, none⟩) b.n b.c := by unfold Hd.v; rw [hA]
      rw [hbv]
      have hrn : (wr.alloc (.cells (litC y a' p' q').toArray 63)).heap[wr.heap.size]? = some (.cells (litC y a' p' q').toArray 63 (0, 0)) := heapNew rfl
      have HRn := Lib.hid (range_row hrn)
      clear hrn
      go_wp2_with (first
        | refine wpList_load_mid rfl 63 (.tmp 15) rfl bb (o + k * 17) rfl (litC y a' p' q') _ Hr.out Tryz.underlying63 rfl (lit_size y a' p' q') ?_
        | refine wpList_new rfl rfl 63 5 (.tmp 16) rfl rfl rfl rfl _ (litC y a' p' q').toArray lit_info rfl (lit_one y a' p' q') rfl rfl ?_
        | refine wpList_load_mid rfl 63 (.tmp 5) rfl wr.heap.size 0 rfl (litC y a' p' q') _ HRn.out Tryz.underlying63 rfl (lit_size y a' p' q') ?_)
      refine HI.out.mono ?_
      rintro e w2 ⟨A2, c2', rfl, ho2, hb2⟩
      have hz2 := hb2.size
      have hbn : Below wr.heap.size wr w2 := below_next Hbx.out hb2
      have HP2 := Lib.hid (put_any (w.heap.size + 1) A' c' m L A2 (insideL y).length c2' (insideL y) w2 (by omega) HLm.out (own_below HO.out hbn) HLs.out (fun W hk hb => told_own (own_keepT ho2 hk (by decide)) rfl (by omega) Hly.out) (by omega))
      have HbN := Lib.hid hbn
      have hbw2 : Below w.heap.size w w2 := below_next hbr hbn
      clear ho2 hb2 HI hbn hbx'
      go_wp2_with fail
      refine HP2.out.mono ?_
      rintro e w3 ⟨A3, c3', rfl, ho3, -, hb3⟩
      have hz3 := hb3.size
      have hbw3 : Below w.heap.size w w3 := hbw2.trans (hb3.mono (by omega))
      obtain ⟨m3, Hm3⟩ : ∃ m3, Hid ((putL L (insideL y)).length = m3) := ⟨_, rfl⟩
      rw [Hm3.out] at ho3 hmk
      rw [Hm3.out]
      have HO3 := Lib.hid ho3
      clear ho3 hb3 HP2 hbw2
      go_wp2_with fail
      go_roundw
      case rel => exact ⟨k + 1, m3, c3', A3, _, by omega, by go_num, rfl, HT, by omega, Hm3, HO3, hbw3, by omega⟩
      case measure => simp [intOf]; omega
    · have i1 : ¬ (k : Int) < (b.n : Int) := by omega
      have e : putL [] (ruleT x) = L := by
        rw [← hL.out, List.take_of_length_le (by have := Hlen.out; omega)]; rfl
      have hPP : Hid (P (.returned (.slice A' m c')) wr) := by
        show P _ _
        rw [HP.out, e]
        exact ⟨A', c', by rw [HLm.out], by rw [HLm.out]; exact own_down HO.out (by omega), hbr⟩
      clear HP e
      go_wp2_with fail
      exact hPP.out
end Go.Proofs.YtiffmiabhapfnaaGreatDoor

/- The plain law of tokens: what a text's tokens are, that tokens joined are read as the same ones, that gaps hold none. No program. -/
namespace Go.Proofs.YtiffmiabhapfnaaGreatDoor

def insB (c : UInt8) : Bool := (decide (97 ≤ c.toNat) && decide (c.toNat ≤ 122)) || (decide (65 ≤ c.toNat) && decide (c.toNat ≤ 90)) || (decide (48 ≤ c.toNat) && decide (c.toNat ≤ 57)) || decide (c.toNat = 95)
def blankB (c : UInt8) : Bool := decide (c = 9) || decide (c = 10) || decide (c = 32) || decide (c = 13)
def runL (l : List UInt8) : Nat := (l.takeWhile insB).length
/-- how many bytes are skipped; true: within a note -/
def skipG : Bool → List UInt8 → Nat
  | _, [] => 0
  | true, c :: r => if c = 10 then 1 + skipG false r else 1 + skipG true r
  | false, c :: r => if blankB c then 1 + skipG false r else if c = 37 then 1 + skipG true r else 0
/-- a token: its kind, its text, its place -/
structure GTok where
  k : Int
  t : List UInt8
  a : Nat
deriving DecidableEq
def signsL : List (List UInt8) := [[58, 45], [33, 61], [60, 61], [62, 61], [40], [41], [44], [46], [61], [60], [62], [43], [45], [42]]
/-- the token that a rest begins with: its kind (0: none), its length -/
def tokL (wk : List UInt8 → Int) (l : List UInt8) : Int × Nat :=
  if 0 < runL l ∧ l.head? ≠ some 95 then (wk (l.take (runL l)), runL l) else match signsL.find? (·.isPrefixOf l) with
    | some s => (5, s.length)
    | none => (0, 0)
def lexF (wk : List UInt8 → Int) : Nat → Nat → List UInt8 → List GTok × Option Nat
  | 0, _, _ => ([], none)
  | f + 1, a, l => if l.drop (skipG false l) = [] then ([], none) else
      if (tokL wk (l.drop (skipG false l))).1 = 0 then ([], some (a + skipG false l)) else
        (⟨(tokL wk (l.drop (skipG false l))).1, (l.drop (skipG false l)).take (tokL wk (l.drop (skipG false l))).2, a + skipG false l⟩ ::
          (lexF wk f (a + skipG false l + (tokL wk (l.drop (skipG false l))).2) ((l.drop (skipG false l)).drop (tokL wk (l.drop (skipG false l))).2)).1,
          (lexF wk f (a + skipG false l + (tokL wk (l.drop (skipG false l))).2) ((l.drop (skipG false l)).drop (tokL wk (l.drop (skipG false l))).2)).2)
/-- the tokens of the rest l that begins at a, and the place without one -/
def lexA (wk : List UInt8 → Int) (a : Nat) (l : List UInt8) : List GTok × Option Nat := lexF wk l.length a l

variable {wk : List UInt8 → Int}

theorem skipG_le : ∀ (l : List UInt8) (b : Bool), skipG b l ≤ l.length
  | [], b => by simp [skipG]
  | c :: r, true => by
    unfold skipG
    have h1 := skipG_le r false; have h2 := skipG_le r true
    simp only [List.length_cons]; split <;> omega
  | c :: r, false => by
    unfold skipG
    have h1 := skipG_le r false; have h2 := skipG_le r true
    simp only [List.length_cons]; split
    · omega
    · split <;> omega
theorem runL_le (l : List UInt8) : runL l ≤ l.length := by
  unfold runL
  exact List.Sublist.length_le (List.takeWhile_sublist insB)
theorem sign_mem {l s : List UInt8} (h : signsL.find? (·.isPrefixOf l) = some s) : s ∈ signsL ∧ s <+: l :=
  ⟨List.mem_of_find?_eq_some h, List.isPrefixOf_iff_prefix.1 (by have := List.find?_some h; simpa using this)⟩
theorem sign_pos {s : List UInt8} (h : s ∈ signsL) : 1 ≤ s.length ∧ s.length ≤ 2 := by
  revert s; decide
theorem tokL_len (l : List UInt8) (h : (tokL wk l).1 ≠ 0) : 1 ≤ (tokL wk l).2 ∧ (tokL wk l).2 ≤ l.length := by
  revert h
  unfold tokL
  split
  · rename_i h; intro _; exact ⟨by show 1 ≤ runL l; omega, runL_le l⟩
  · split
    · rename_i s hs
      obtain ⟨h1, h2⟩ := sign_mem hs
      intro _
      exact ⟨(sign_pos h1).1, h2.length_le⟩
    · intro h; simp at h
theorem lexF_fuel : ∀ (f g a : Nat) (l : List UInt8), l.length ≤ f → l.length ≤ g → lexF wk f a l = lexF wk g a l
  | 0, g, a, l, hf, hg => by
    obtain rfl : l = [] := List.eq_nil_of_length_eq_zero (by omega)
    cases g with
    | zero => rfl
    | succ g => simp [lexF]
  | f + 1, 0, a, l, hf, hg => by
    obtain rfl : l = [] := List.eq_nil_of_length_eq_zero (by omega)
    simp [lexF]
  | f + 1, g + 1, a, l, hf, hg => by
    unfold lexF
    split
    · rfl
    · split
      · rfl
      · rename_i h1 h2
        have h3 := tokL_len _ h2
        have h4 : ((l.drop (skipG false l)).drop (tokL wk (l.drop (skipG false l))).2).length ≤ l.length - 1 := by
          simp only [List.length_drop] at h3 ⊢; omega
        rw [lexF_fuel f g _ _ (by omega) (by omega)]
theorem lexA_nil (a : Nat) (l : List UInt8) (h : l.drop (skipG false l) = []) : lexA wk a l = ([], none) := by
  unfold lexA
  cases l with
  | nil => rfl
  | cons c r => simp only [List.length_cons]; unfold lexF; rw [if_pos h]
theorem lexA_bad (a : Nat) (l : List UInt8) (h : l.drop (skipG false l) ≠ []) (h0 : (tokL wk (l.drop (skipG false l))).1 = 0) : lexA wk a l = ([], some (a + skipG false l)) := by
  unfold lexA
  cases l with
  | nil => simp at h
  | cons c r => simp only [List.length_cons]; unfold lexF; rw [if_neg h, if_pos h0]
theorem lexA_tok (a : Nat) (l : List UInt8) (h : l.drop (skipG false l) ≠ []) (h0 : (tokL wk (l.drop (skipG false l))).1 ≠ 0) :
    lexA wk a l = (⟨(tokL wk (l.drop (skipG false l))).1, (l.drop (skipG false l)).take (tokL wk (l.drop (skipG false l))).2, a + skipG false l⟩ ::
      (lexA wk (a + skipG false l + (tokL wk (l.drop (skipG false l))).2) ((l.drop (skipG false l)).drop (tokL wk (l.drop (skipG false l))).2)).1,
      (lexA wk (a + skipG false l + (tokL wk (l.drop (skipG false l))).2) ((l.drop (skipG false l)).drop (tokL wk (l.drop (skipG false l))).2)).2) := by
  have h3 := tokL_len _ h0
  unfold lexA
  cases l with
  | nil => simp at h
  | cons c r =>
    rw [show (c :: r).length = r.length + 1 from rfl]
    conv => lhs; unfold lexF
    rw [if_neg h, if_neg h0]
    have h4 : (((c :: r).drop (skipG false (c :: r))).drop (tokL wk ((c :: r).drop (skipG false (c :: r)))).2).length ≤ r.length := by
      simp only [List.length_drop, List.length_cons] at h3 ⊢; omega
    rw [lexF_fuel r.length _ _ _ h4 (Nat.le_refl _)]

/-! ### a note, as it is skipped in one piece -/
theorem skip_note : ∀ l : List UInt8, skipG true l = (l.takeWhile (· != 10)).length + skipG false (l.drop (l.takeWhile (· != 10)).length)
  | [] => by simp [skipG]
  | c :: r => by
    by_cases h : c = 10
    · subst h; simp [skipG, blankB]
    · have h1 := skip_note r
      rw [skipG, if_neg h, h1]
      simp [h]; omega
/-! ### a gap holds no token -/
theorem skip_take : ∀ (l : List UInt8) (b : Bool), skipG b (l.take (skipG b l)) = skipG b l
  | [], b => by simp [skipG]
  | c :: r, true => by
    have h1 := skip_take r false; have h2 := skip_take r true
    by_cases h : c = 10
    · have e : ∀ x, skipG true (c :: x) = skipG false x + 1 := fun x => by simp [skipG, h]; omega
      rw [e, List.take_succ_cons, e, h1]
    · have e : ∀ x, skipG true (c :: x) = skipG true x + 1 := fun x => by simp [skipG, h]; omega
      rw [e, List.take_succ_cons, e, h2]
  | c :: r, false => by
    have h1 := skip_take r false; have h2 := skip_take r true
    by_cases h : blankB c = true
    · have e : ∀ x, skipG false (c :: x) = skipG false x + 1 := fun x => by simp [skipG, h]; omega
      rw [e, List.take_succ_cons, e, h1]
    · by_cases h3 : c = 37
      · have h4 : blankB 37 = false := by decide
        have e : ∀ x, skipG false (c :: x) = skipG true x + 1 := fun x => by simp [skipG, h3, h4]; omega
        rw [e, List.take_succ_cons, e, h2]
      · have e : skipG false (c :: r) = 0 := by simp [skipG, h, h3]
        rw [e]; simp [skipG]
theorem lex_gap (a : Nat) (l : List UInt8) : lexA wk a (l.take (skipG false l)) = ([], none) := by
  apply lexA_nil
  rw [skip_take]
  apply List.drop_eq_nil_of_le
  rw [List.length_take]; exact Nat.min_le_left _ _
/-! ### where tokens stand -/
theorem lex_places : ∀ (n a : Nat) (l : List UInt8), l.length ≤ n → ∀ q ∈ (lexA wk a l).1, a ≤ q.a ∧ q.a + q.t.length ≤ a + l.length ∧ (l.drop (q.a - a)).take q.t.length = q.t
  | 0, a, l, hn, q, hq => by
    obtain rfl : l = [] := List.eq_nil_of_length_eq_zero (by omega)
    simp [lexA, lexF] at hq
  | n + 1, a, l, hn, q, hq => by
    by_cases h : l.drop (skipG false l) = []
    · rw [lexA_nil _ _ h] at hq; simp at hq
    by_cases h0 : (tokL wk (l.drop (skipG false l))).1 = 0
    · rw [lexA_bad _ _ h h0] at hq; simp at hq
    have h3 := tokL_len _ h0
    rw [lexA_tok _ _ h h0] at hq
    simp only [List.length_drop] at h3
    have h6 := skipG_le l false
    rcases List.mem_cons.1 hq with rfl | hq
    · refine ⟨by simp, ?_, ?_⟩
      · simp only [List.length_take, List.length_drop]; omega
      · simp only [List.length_take, List.length_drop, Nat.add_sub_cancel_left]
        rw [Nat.min_eq_left (by omega)]
    · obtain ⟨q1, q2, q3⟩ := lex_places n _ _ (by simp only [List.length_drop]; omega) q hq
      simp only [List.length_drop] at q2
      refine ⟨by omega, by omega, ?_⟩
      rw [List.drop_drop, List.drop_drop] at q3
      rw [← q3]
      congr 2
      · omega
theorem lex_len : ∀ (n a : Nat) (l : List UInt8), l.length ≤ n → ((lexA wk a l).1.map fun q => q.t.length).sum ≤ l.length ∧ (lexA wk a l).1.length ≤ l.length
  | 0, a, l, hn => by
    obtain rfl : l = [] := List.eq_nil_of_length_eq_zero (by omega)
    simp [lexA, lexF]
  | n + 1, a, l, hn => by
    by_cases h : l.drop (skipG false l) = []
    · rw [lexA_nil _ _ h]; simp
    by_cases h0 : (tokL wk (l.drop (skipG false l))).1 = 0
    · rw [lexA_bad _ _ h h0]; simp
    have h3 := tokL_len _ h0
    simp only [List.length_drop] at h3
    have h6 := skipG_le l false
    obtain ⟨q1, q2⟩ := lex_len n (a + skipG false l + (tokL wk (l.drop (skipG false l))).2) ((l.drop (skipG false l)).drop (tokL wk (l.drop (skipG false l))).2) (by simp only [List.length_drop]; omega)
    rw [lexA_tok _ _ h h0]
    simp only [List.length_drop] at q1 q2
    simp only [List.map_cons, List.sum_cons, List.length_cons, List.length_take, List.length_drop]
    omega
/-! ### what a token's text tells -/
def TextOf (wk : List UInt8 → Int) (q : Int) (t : List UInt8) : Prop := q ≠ 0 ∧ ((q = wk t ∧ t ≠ [] ∧ (∀ c ∈ t, insB c = true) ∧ t.head? ≠ some 95) ∨ (q = 5 ∧ t ∈ signsL))
theorem takeWhile_all {p : UInt8 → Bool} : ∀ (l : List UInt8) (c : UInt8), c ∈ l.takeWhile p → p c = true
  | [], c, h => by simp at h
  | d :: r, c, h => by
    rw [List.takeWhile_cons] at h
    split at h
    · rcases List.mem_cons.1 h with rfl | h
      · assumption
      · exact takeWhile_all r c h
    · simp at h
theorem take_run (l : List UInt8) : l.take (runL l) = l.takeWhile insB := by
  unfold runL
  exact (List.prefix_iff_eq_take.1 (List.takeWhile_prefix insB)).symm
theorem tok_text (l : List UInt8) (h : (tokL wk l).1 ≠ 0) : TextOf wk (tokL wk l).1 (l.take (tokL wk l).2) := by
  refine ⟨h, ?_⟩
  revert h
  unfold tokL
  split
  · rename_i h
    intro _
    refine .inl ⟨rfl, ?_, ?_, ?_⟩
    · intro he
      have := congrArg List.length he
      have h2 := runL_le l
      simp only [List.length_take, List.length_nil] at this; omega
    · intro c hc
      simp only [take_run] at hc
      exact takeWhile_all _ _ hc
    · cases l with
      | nil => simp [runL] at h
      | cons c r =>
        have h1 := h.1
        have h2 := h.2
        obtain ⟨k, hk⟩ : ∃ k, runL (c :: r) = k + 1 := ⟨runL (c :: r) - 1, by omega⟩
        simp only [hk, List.take_succ_cons]
        simpa using h2
  · split
    · rename_i s hs
      obtain ⟨h1, h2⟩ := sign_mem hs
      intro _
      refine .inr ⟨rfl, ?_⟩
      show l.take s.length ∈ signsL
      rw [← List.prefix_iff_eq_take.1 h2]; exact h1
    · intro h; simp at h
/-- behind a blank or at the end -/
def Cut (r : List UInt8) : Prop := r = [] ∨ ∃ r', r = 32 :: r'
theorem takeWhile_cut {t r : List UInt8} (h : ∀ c ∈ t, insB c = true) (hr : Cut r) : (t ++ r).takeWhile insB = t := by
  induction t with
  | nil =>
    rcases hr with rfl | ⟨r', rfl⟩
    · rfl
    · rfl
  | cons c t ih =>
    rw [List.cons_append, List.takeWhile_cons, h c (List.mem_cons_self ..)]
    simp only [if_true]
    rw [ih fun d hd => h d (List.mem_cons_of_mem _ hd)]
theorem ins_skip {c : UInt8} (h : insB c = true) : blankB c = false ∧ c ≠ 37 := by
  refine ⟨?_, ?_⟩
  · unfold blankB
    have : ∀ d : UInt8, d = 9 ∨ d = 10 ∨ d = 32 ∨ d = 13 → insB d = false := by rintro d (rfl | rfl | rfl | rfl) <;> decide
    by_cases h9 : c = 9 ∨ c = 10 ∨ c = 32 ∨ c = 13
    · rw [this c h9] at h; cases h
    · simp only [not_or] at h9; simp [h9]
  · rintro rfl; revert h; decide
theorem text_skip {q : Int} {t : List UInt8} (h : TextOf wk q t) (r : List UInt8) : t ≠ [] ∧ skipG false (t ++ r) = 0 := by
  rcases h.2 with ⟨-, h1, h2, -⟩ | ⟨-, h1⟩
  · refine ⟨h1, ?_⟩
    cases t with
    | nil => exact absurd rfl h1
    | cons c t =>
      obtain ⟨h3, h4⟩ := ins_skip (h2 c (List.mem_cons_self ..))
      simp [skipG, h3, h4]
  · refine ⟨by rintro rfl; revert h1; decide, ?_⟩
    simp only [signsL, List.mem_cons, List.not_mem_nil, or_false] at h1
    rcases h1 with rfl | rfl | rfl | rfl | rfl | rfl | rfl | rfl | rfl | rfl | rfl | rfl | rfl | rfl <;> simp [skipG, blankB]
theorem text_tok {q : Int} {t : List UInt8} (h : TextOf wk q t) {r : List UInt8} (hr : Cut r) : tokL wk (t ++ r) = (q, t.length) := by
  rcases h.2 with ⟨h0, h1, h2, h3⟩ | ⟨h0, h1⟩
  · have e := takeWhile_cut h2 hr
    have e1 : runL (t ++ r) = t.length := by unfold runL; rw [e]
    have e2 : (t ++ r).head? = t.head? := by cases t with
      | nil => exact absurd rfl h1
      | cons c t => rfl
    unfold tokL
    rw [e1, e2, if_pos ⟨List.length_pos_iff.2 h1, h3⟩]
    simp [h0]
  · subst h0
    simp only [signsL, List.mem_cons, List.not_mem_nil, or_false] at h1
    rcases hr with rfl | ⟨r', rfl⟩ <;>
    rcases h1 with rfl | rfl | rfl | rfl | rfl | rfl | rfl | rfl | rfl | rfl | rfl | rfl | rfl | rfl <;> simp [tokL, runL, insB, signsL, List.find?, List.isPrefixOf]
/-! ### tokens, joined -/
def joinS : List (List UInt8) → List UInt8
  | [] => []
  | [t] => t
  | t :: r => t ++ 32 :: joinS r
theorem joinS_cons {t : List UInt8} {r : List (List UInt8)} (h : r ≠ []) : joinS (t :: r) = t ++ 32 :: joinS r := by
  cases r with
  | nil => exact absurd rfl h
  | cons u r => rfl
theorem joinS_cut (t : List UInt8) (r : List (List UInt8)) : ∃ s, joinS (t :: r) = t ++ s ∧ Cut s ∧ (r = [] → s = []) ∧ (r ≠ [] → s = 32 :: joinS r) := by
  cases r with
  | nil => exact ⟨[], by simp [joinS], .inl rfl, fun _ => rfl, fun h => absurd rfl h⟩
  | cons u r => exact ⟨32 :: joinS (u :: r), rfl, .inr ⟨_, rfl⟩, fun h => (by cases h), fun _ => rfl⟩
/-- the same tokens, but for their places -/
def Same (l m : List GTok) : Prop := l.map (fun q => (q.k, q.t)) = m.map (fun q => (q.k, q.t))
theorem skip_blank (r : List UInt8) : skipG false (32 :: r) = 1 + skipG false r := by simp [skipG, blankB]
theorem lexA_blank (a : Nat) (r : List UInt8) : lexA wk a (32 :: r) = lexA wk (a + 1) r := by
  have e : (32 :: r).drop (skipG false (32 :: r)) = r.drop (skipG false r) := by rw [skip_blank, Nat.add_comm]; rfl
  have e2 : a + skipG false (32 :: r) = a + 1 + skipG false r := by rw [skip_blank]; omega
  by_cases h : r.drop (skipG false r) = []
  · rw [lexA_nil _ _ h, lexA_nil _ _ (by rw [e]; exact h)]
  by_cases h0 : (tokL wk (r.drop (skipG false r))).1 = 0
  · rw [lexA_bad _ _ h h0, lexA_bad _ _ (by rw [e]; exact h) (by rw [e]; exact h0), e2]
  · rw [lexA_tok _ _ h h0, lexA_tok _ _ (by rw [e]; exact h) (by rw [e]; exact h0), e, e2]
theorem lex_back : ∀ (l : List GTok) (a : Nat), (∀ q ∈ l, TextOf wk q.k q.t) → (lexA wk a (joinS (l.map GTok.t))).2 = none ∧ Same (lexA wk a (joinS (l.map GTok.t))).1 l
  | [], a, h => by simp [joinS, lexA, lexF, Same]
  | q :: l, a, h => by
    obtain ⟨s, hs, hc, h1, h2⟩ := joinS_cut q.t (l.map GTok.t)
    have ht := h q (List.mem_cons_self ..)
    obtain ⟨hne, hsk⟩ := text_skip ht s
    have htk := text_tok ht hc
    rw [List.map_cons, hs]
    have e : (q.t ++ s).drop (skipG false (q.t ++ s)) = q.t ++ s := by rw [hsk]; rfl
    have hn : (q.t ++ s).drop (skipG false (q.t ++ s)) ≠ [] := by rw [e]; simp [hne]
    have h0 : (tokL wk ((q.t ++ s).drop (skipG false (q.t ++ s)))).1 ≠ 0 := by rw [e, htk]; exact ht.1
    rw [lexA_tok _ _ hn h0, e, htk]
    simp only [List.take_left', List.drop_left']
    have hrec : (lexA wk (a + skipG false (q.t ++ s) + q.t.length) s).2 = none ∧ Same (lexA wk (a + skipG false (q.t ++ s) + q.t.length) s).1 l := by
      by_cases hl : l = []
      · subst hl
        rw [h1 rfl]
        simp [lexA, lexF, Same]
      · rw [h2 (by simpa using hl), lexA_blank]
        exact lex_back l _ fun p hp => h p (List.mem_cons_of_mem _ hp)
    refine ⟨hrec.1, ?_⟩
    unfold Same
    simp only [List.map_cons]
    rw [hrec.2]
theorem lex_texts : ∀ (n a : Nat) (l : List UInt8), l.length ≤ n → ∀ q ∈ (lexA wk a l).1, TextOf wk q.k q.t
  | 0, a, l, hn, q, hq => by
    obtain rfl : l = [] := List.eq_nil_of_length_eq_zero (by omega)
    simp [lexA, lexF] at hq
  | n + 1, a, l, hn, q, hq => by
    by_cases h : l.drop (skipG false l) = []
    · rw [lexA_nil _ _ h] at hq; simp at hq
    by_cases h0 : (tokL wk (l.drop (skipG false l))).1 = 0
    · rw [lexA_bad _ _ h h0] at hq; simp at hq
    have h3 := tokL_len _ h0
    rw [lexA_tok _ _ h h0] at hq
    simp only [List.length_drop] at h3
    rcases List.mem_cons.1 hq with rfl | hq
    · exact tok_text _ h0
    · exact lex_texts n _ _ (by simp only [List.length_drop]; omega) q hq
theorem joinS_len : ∀ ts : List (List UInt8), (joinS ts).length ≤ (ts.map List.length).sum + ts.length
  | [] => by simp [joinS]
  | [t] => by simp [joinS]
  | t :: u :: r => by
    have := joinS_len (u :: r)
    rw [joinS_cons (by simp)]
    simp only [List.length_append, List.length_cons, List.map_cons, List.sum_cons] at this ⊢
    omega
/-! ### going on behind what is skipped -/
theorem skip_idem : ∀ (l : List UInt8) (b : Bool), skipG false (l.drop (skipG b l)) = 0
  | [], b => by simp [skipG]
  | c :: r, true => by
    have h1 := skip_idem r false; have h2 := skip_idem r true
    by_cases h : c = 10
    · have e : skipG true (c :: r) = skipG false r + 1 := by simp [skipG, h]; omega
      rw [e, List.drop_succ_cons, h1]
    · have e : skipG true (c :: r) = skipG true r + 1 := by simp [skipG, h]; omega
      rw [e, List.drop_succ_cons, h2]
  | c :: r, false => by
    have h1 := skip_idem r false; have h2 := skip_idem r true
    by_cases h : blankB c = true
    · have e : skipG false (c :: r) = skipG false r + 1 := by simp [skipG, h]; omega
      rw [e, List.drop_succ_cons, h1]
    · by_cases h3 : c = 37
      · have h4 : blankB 37 = false := by decide
        have e : skipG false (c :: r) = skipG true r + 1 := by simp [skipG, h3, h4]; omega
        rw [e, List.drop_succ_cons, h2]
      · have e : skipG false (c :: r) = 0 := by simp [skipG, h, h3]
        rw [e]; exact e
theorem lexA_adv {l : List UInt8} {k : Nat} (hk : skipG false l = k + skipG false (l.drop k)) (a : Nat) : lexA wk a l = lexA wk (a + k) (l.drop k) := by
  have e : l.drop (skipG false l) = (l.drop k).drop (skipG false (l.drop k)) := by rw [List.drop_drop, ← hk]
  have e2 : a + skipG false l = a + k + skipG false (l.drop k) := by omega
  by_cases h : l.drop (skipG false l) = []
  · rw [lexA_nil a l h, lexA_nil (a + k) (l.drop k) (by rw [← e]; exact h)]
  by_cases h0 : (tokL wk (l.drop (skipG false l))).1 = 0
  · rw [lexA_bad a l h h0, lexA_bad (a + k) (l.drop k) (by rw [← e]; exact h) (by rw [← e]; exact h0), e2]
  · rw [lexA_tok a l h h0, lexA_tok (a + k) (l.drop k) (by rw [← e]; exact h) (by rw [← e]; exact h0), e2, e]
theorem lexA_skip (l : List UInt8) (a : Nat) : lexA wk a l = lexA wk (a + skipG false l) (l.drop (skipG false l)) := lexA_adv (by rw [skip_idem]; rfl) a
/-- at a token's place -/
theorem lexA_at {l : List UInt8} (hl : l ≠ []) (hs : skipG false l = 0) (a : Nat) :
    lexA wk a l = if (tokL wk l).1 = 0 then ([], some a) else
      (⟨(tokL wk l).1, l.take (tokL wk l).2, a⟩ :: (lexA wk (a + (tokL wk l).2) (l.drop (tokL wk l).2)).1, (lexA wk (a + (tokL wk l).2) (l.drop (tokL wk l).2)).2) := by
  have e : l.drop (skipG false l) = l := by rw [hs]; rfl
  split
  · rename_i h; rw [lexA_bad _ _ (by rw [e]; exact hl) (by rw [e]; exact h), hs]; rfl
  · rename_i h; rw [lexA_tok _ _ (by rw [e]; exact hl) (by rw [e]; exact h), e, hs]; rfl
theorem skip_one {c : UInt8} {r : List UInt8} (h : blankB c = true) : skipG false (c :: r) = 1 + skipG false r := by simp [skipG, h]
theorem skip_per (r : List UInt8) : skipG false (37 :: r) = ((37 :: r).takeWhile (· != 10)).length + skipG false ((37 :: r).drop ((37 :: r).takeWhile (· != 10)).length) := by
  have h4 : blankB 37 = false := by decide
  rw [show skipG false (37 :: r) = 1 + skipG true r by simp [skipG, h4], skip_note r]
  simp; omega
theorem skip_zero {c : UInt8} {r : List UInt8} (h : blankB c = false) (h2 : c ≠ 37) : skipG false (c :: r) = 0 := by simp [skipG, h, h2]
end Go.Proofs.YtiffmiabhapfnaaGreatDoor

/- The library contracts of the shelf at this program, in plain words (written by the kit's own tool; its comments struck). -/
namespace Go.Proofs
open Go.Shelf
def Tryz.lays137_ren : Go.Shelf.Ren := ⟨fun | 137 => 96 | 217 => 111 | 266 => 124 | n => n, fun | 9 => 9 | 5 => 5 | 3 => 3 | n => n, fun | n => n⟩
theorem Tryz.lays137 : Go.Proofs.Lays.n137 Tryz.prog Tryz.lays137_ren := {
  mixed := by kernel_rfl
  f137 := Tryz.func96.trans (congrArg some (by kernel_rfl))
  f217 := Tryz.func111.trans (congrArg some (by kernel_rfl))
  f266 := Tryz.func124.trans (congrArg some (by kernel_rfl))
  t3 := Tryz.underlying3
  a3 := Tryz.isAgg3
  z3 := Tryz.sizeOf3
  v3 := Tryz.zeroValue3
  t5 := Tryz.underlying5
  a5 := Tryz.isAgg5
  z5 := Tryz.sizeOf5
  v5 := Tryz.zeroValue5
  t9 := Tryz.underlying9
  a9 := Tryz.isAgg9
  z9 := Tryz.sizeOf9
  v9 := Tryz.zeroValue9 }
open Go.RowKit in
theorem Tryz.strings_IndexByte (s : ByteArray) (c : Int) (w : World) :
    Calls Tryz.prog 96 #[.string s, .int .u8 c] w fun e w' => e = .returned (.int .i64 (Lib.indexByte s.data.toList c.toNat.toUInt8)) ∧ w' = w := Any.strings_IndexByte Tryz.lays137 s c w
def Tryz.laysM171_ren : Go.Shelf.Ren := ⟨fun | 171 => 117 | 243 => 128 | 246 => 138 | 283 => 144 | 284 => 145 | 285 => 146 | 286 => 147 | 129 => 151 | 317 => 150 | 318 => 152 | 319 => 153 | 320 => 154 | 337 => 155 | 338 => 156 | n => n, fun | 3 => 3 | 9 => 9 | 2 => 2 | 4 => 4 | 171 => 201 | 0 => 0 | 53 => 194 | 37 => 183 | 5 => 5 | 173 => 204 | 212 => 212 | 51 => 191 | 20 => 20 | 213 => 213 | 46 => 39 | 232 => 216 | 233 => 217 | n => n, fun | 17 => 5 | 18 => 6 | 19 => 7 | n => n⟩
theorem Tryz.laysM171 : Go.Proofs.LaysM.n171 Tryz.prog Tryz.laysM171_ren := {
  mixed := by kernel_rfl
  f129 := Tryz.func151.trans (congrArg some (by kernel_rfl))
  f171 := Tryz.func117.trans (congrArg some (by kernel_rfl))
  f243 := Tryz.func128.trans (congrArg some (by kernel_rfl))
  f246 := Tryz.func138.trans (congrArg some (by kernel_rfl))
  f283 := Tryz.func144.trans (congrArg some (by kernel_rfl))
  f284 := Tryz.func145.trans (congrArg some (by kernel_rfl))
  f285 := Tryz.func146.trans (congrArg some (by kernel_rfl))
  f286 := Tryz.func147.trans (congrArg some (by kernel_rfl))
  f317 := Tryz.func150.trans (congrArg some (by kernel_rfl))
  f318 := Tryz.func152.trans (congrArg some (by kernel_rfl))
  f319 := Tryz.func153.trans (congrArg some (by kernel_rfl))
  f320 := Tryz.func154.trans (congrArg some (by kernel_rfl))
  f337 := Tryz.func155.trans (congrArg some (by kernel_rfl))
  f338 := Tryz.func156.trans (congrArg some (by kernel_rfl))
  t0 := Tryz.underlying0
  a0 := Tryz.isAgg0
  z0 := Tryz.sizeOf0
  v0 := Tryz.zeroValue0
  t2 := Tryz.underlying2
  a2 := Tryz.isAgg2
  z2 := Tryz.sizeOf2
  v2 := Tryz.zeroValue2
  t3 := Tryz.underlying3
  a3 := Tryz.isAgg3
  z3 := Tryz.sizeOf3
  v3 := Tryz.zeroValue3
  t4 := Tryz.underlying4
  a4 := Tryz.isAgg4
  z4 := Tryz.sizeOf4
  v4 := Tryz.zeroValue4
  t5 := Tryz.underlying5
  a5 := Tryz.isAgg5
  z5 := Tryz.sizeOf5
  v5 := Tryz.zeroValue5
  t9 := Tryz.underlying9
  a9 := Tryz.isAgg9
  z9 := Tryz.sizeOf9
  v9 := Tryz.zeroValue9
  t20 := Tryz.underlying20
  a20 := Tryz.isAgg20
  z20 := Tryz.sizeOf20
  v20 := Tryz.zeroValue20
  t37 := Tryz.underlying183
  a37 := Tryz.isAgg183
  z37 := Tryz.sizeOf183
  v37 := Tryz.zeroValue183
  t46 := Tryz.underlying39
  a46 := Tryz.isAgg39
  z46 := Tryz.sizeOf39
  v46 := Tryz.zeroValue39
  t51 := Tryz.underlying191
  a51 := Tryz.isAgg191
  z51 := Tryz.sizeOf191
  v51 := Tryz.zeroValue191
  t53 := Tryz.underlying194
  a53 := Tryz.isAgg194
  z53 := Tryz.sizeOf194
  v53 := Tryz.zeroValue194
  t171 := Tryz.underlying201
  a171 := Tryz.isAgg201
  z171 := Tryz.sizeOf201
  v171 := Tryz.zeroValue201
  t173 := Tryz.underlying204
  a173 := Tryz.isAgg204
  z173 := Tryz.sizeOf204
  v173 := Tryz.zeroValue204
  t212 := Tryz.underlying212
  a212 := Tryz.isAgg212
  z212 := Tryz.sizeOf212
  v212 := Tryz.zeroValue212
  t213 := Tryz.underlying213
  a213 := Tryz.isAgg213
  z213 := Tryz.sizeOf213
  t232 := Tryz.underlying216
  a232 := Tryz.isAgg216
  z232 := Tryz.sizeOf216
  v232 := Tryz.zeroValue216
  t233 := Tryz.underlying217
  a233 := Tryz.isAgg217
  z233 := Tryz.sizeOf217
  v233 := Tryz.zeroValue217
  g17 := by kernel_rfl
  g18 := by kernel_rfl
  g19 := by kernel_rfl
  i0 := by kernel_rfl
  i2 := by kernel_rfl
  i3 := by kernel_rfl
  i4 := by kernel_rfl
  i5 := by kernel_rfl
  i9 := by kernel_rfl
  i20 := by kernel_rfl
  i37 := by kernel_rfl
  i46 := by kernel_rfl
  i51 := by kernel_rfl
  i53 := by kernel_rfl
  i171 := by kernel_rfl
  i173 := by kernel_rfl
  i212 := by kernel_rfl
  i232 := by kernel_rfl
  i233 := by kernel_rfl
  m17 := by kernel_rfl
  m18 := by kernel_rfl
  m19 := by kernel_rfl }
open Go.RowKit Go.Sort Go.Lib in
theorem Tryz.strconv_Itoa (n : Int) (h0 : -9223372036854775808 ≤ n) (h1 : n ≤ 9223372036854775807) (w : World) (htab : Lib.TabIs Tryz.prog w "internal/strconv.uint64pow10" .u64 Lib.pow10Tab) :
    Calls Tryz.prog 117 #[.int .i64 n] w fun e w' => e = .returned (.string ⟨(Lib.itoa n).toArray⟩) ∧ ∃ k os, w' = grow (w.drewN k) os := Any.strconv_Itoa Tryz.laysM171 n h0 h1 w htab
def Tryz.laysC172_ren : Go.Shelf.Ren := ⟨fun | 172 => 116 | 244 => 126 | 245 => 127 | 247 => 133 | 279 => 134 | 280 => 135 | 281 => 136 | 282 => 137 | 287 => 141 | 316 => 142 | 171 => 117 | 205 => 143 | 321 => 148 | 322 => 149 | 243 => 128 | 246 => 138 | 283 => 144 | 284 => 145 | 285 => 146 | 286 => 147 | 129 => 151 | 317 => 150 | 318 => 152 | 319 => 153 | 320 => 154 | 337 => 155 | 338 => 156 | n => n, fun | 9 => 9 | 3 => 3 | 75 => 80 | 76 => 171 | 4 => 4 | 5 => 5 | 167 => 182 | 37 => 183 | 0 => 0 | 85 => 184 | 2 => 2 | 168 => 186 | 53 => 194 | 175 => 195 | 46 => 39 | 210 => 199 | 127 => 207 | 145 => 210 | 143 => 208 | 21 => 21 | 171 => 201 | 173 => 204 | 212 => 212 | 51 => 191 | 20 => 20 | 213 => 213 | 232 => 216 | 233 => 217 | 80 => 218 | n => n, fun | 15 => 3 | 16 => 4 | 17 => 5 | 18 => 6 | 19 => 7 | n => n⟩
theorem Tryz.laysC172 : Go.Proofs.LaysC.n172 Tryz.prog Tryz.laysC172_ren := {
  mixed := by kernel_rfl
  f129 := Tryz.func151.trans (congrArg some (by kernel_rfl))
  f171 := Tryz.func117.trans (congrArg some (by kernel_rfl))
  f172 := Tryz.func116.trans (congrArg some (by kernel_rfl))
  f205 := Tryz.func143.trans (congrArg some (by kernel_rfl))
  f243 := Tryz.func128.trans (congrArg some (by kernel_rfl))
  f244 := Tryz.func126.trans (congrArg some (by kernel_rfl))
  f245 := Tryz.func127.trans (congrArg some (by kernel_rfl))
  f246 := Tryz.func138.trans (congrArg some (by kernel_rfl))
  f247 := Tryz.func133.trans (congrArg some (by kernel_rfl))
  f279 := Tryz.func134.trans (congrArg some (by kernel_rfl))
  f280 := Tryz.func135.trans (congrArg some (by kernel_rfl))
  f281 := Tryz.func136.trans (congrArg some (by kernel_rfl))
  f282 := Tryz.func137.trans (congrArg some (by kernel_rfl))
  f283 := Tryz.func144.trans (congrArg some (by kernel_rfl))
  f284 := Tryz.func145.trans (congrArg some (by kernel_rfl))
  f285 := Tryz.func146.trans (congrArg some (by kernel_rfl))
  f286 := Tryz.func147.trans (congrArg some (by kernel_rfl))
  f287 := Tryz.func141.trans (congrArg some (by kernel_rfl))
  f316 := Tryz.func142.trans (congrArg some (by kernel_rfl))
  f317 := Tryz.func150.trans (congrArg some (by kernel_rfl))
  f318 := Tryz.func152.trans (congrArg some (by kernel_rfl))
  f319 := Tryz.func153.trans (congrArg some (by kernel_rfl))
  f320 := Tryz.func154.trans (congrArg some (by kernel_rfl))
  f321 := Tryz.func148.trans (congrArg some (by kernel_rfl))
  f322 := Tryz.func149.trans (congrArg some (by kernel_rfl))
  f337 := Tryz.func155.trans (congrArg some (by kernel_rfl))
  f338 := Tryz.func156.trans (congrArg some (by kernel_rfl))
  t0 := Tryz.underlying0
  a0 := Tryz.isAgg0
  z0 := Tryz.sizeOf0
  v0 := Tryz.zeroValue0
  t2 := Tryz.underlying2
  a2 := Tryz.isAgg2
  z2 := Tryz.sizeOf2
  v2 := Tryz.zeroValue2
  t3 := Tryz.underlying3
  a3 := Tryz.isAgg3
  z3 := Tryz.sizeOf3
  v3 := Tryz.zeroValue3
  t4 := Tryz.underlying4
  a4 := Tryz.isAgg4
  z4 := Tryz.sizeOf4
  v4 := Tryz.zeroValue4
  t5 := Tryz.underlying5
  a5 := Tryz.isAgg5
  z5 := Tryz.sizeOf5
  v5 := Tryz.zeroValue5
  t9 := Tryz.underlying9
  a9 := Tryz.isAgg9
  z9 := Tryz.sizeOf9
  v9 := Tryz.zeroValue9
  t20 := Tryz.underlying20
  a20 := Tryz.isAgg20
  z20 := Tryz.sizeOf20
  v20 := Tryz.zeroValue20
  t21 := Tryz.underlying21
  a21 := Tryz.isAgg21
  z21 := Tryz.sizeOf21
  v21 := Tryz.zeroValue21
  t37 := Tryz.underlying183
  a37 := Tryz.isAgg183
  z37 := Tryz.sizeOf183
  v37 := Tryz.zeroValue183
  t46 := Tryz.underlying39
  a46 := Tryz.isAgg39
  z46 := Tryz.sizeOf39
  v46 := Tryz.zeroValue39
  t51 := Tryz.underlying191
  a51 := Tryz.isAgg191
  z51 := Tryz.sizeOf191
  v51 := Tryz.zeroValue191
  t53 := Tryz.underlying194
  a53 := Tryz.isAgg194
  z53 := Tryz.sizeOf194
  v53 := Tryz.zeroValue194
  t75 := Tryz.underlying80
  a75 := Tryz.isAgg80
  z75 := Tryz.sizeOf80
  v75 := Tryz.zeroValue80
  t76 := Tryz.underlying171
  a76 := Tryz.isAgg171
  z76 := Tryz.sizeOf171
  v76 := Tryz.zeroValue171
  t85 := Tryz.underlying184
  a85 := Tryz.isAgg184
  z85 := Tryz.sizeOf184
  v85 := Tryz.zeroValue184
  t127 := Tryz.underlying207
  a127 := Tryz.isAgg207
  z127 := Tryz.sizeOf207
  v127 := Tryz.zeroValue207
  t143 := Tryz.underlying208
  a143 := Tryz.isAgg208
  z143 := Tryz.sizeOf208
  v143 := Tryz.zeroValue208
  t145 := Tryz.underlying210
  a145 := Tryz.isAgg210
  z145 := Tryz.sizeOf210
  v145 := Tryz.zeroValue210
  t167 := Tryz.underlying182
  a167 := Tryz.isAgg182
  z167 := Tryz.sizeOf182
  v167 := Tryz.zeroValue182
  t168 := Tryz.underlying186
  a168 := Tryz.isAgg186
  z168 := Tryz.sizeOf186
  v168 := Tryz.zeroValue186
  t171 := Tryz.underlying201
  a171 := Tryz.isAgg201
  z171 := Tryz.sizeOf201
  v171 := Tryz.zeroValue201
  t173 := Tryz.underlying204
  a173 := Tryz.isAgg204
  z173 := Tryz.sizeOf204
  v173 := Tryz.zeroValue204
  t175 := Tryz.underlying195
  a175 := Tryz.isAgg195
  z175 := Tryz.sizeOf195
  v175 := Tryz.zeroValue195
  t210 := Tryz.underlying199
  a210 := Tryz.isAgg199
  z210 := Tryz.sizeOf199
  v210 := Tryz.zeroValue199
  t212 := Tryz.underlying212
  a212 := Tryz.isAgg212
  z212 := Tryz.sizeOf212
  v212 := Tryz.zeroValue212
  t213 := Tryz.underlying213
  a213 := Tryz.isAgg213
  z213 := Tryz.sizeOf213
  t232 := Tryz.underlying216
  a232 := Tryz.isAgg216
  z232 := Tryz.sizeOf216
  v232 := Tryz.zeroValue216
  t233 := Tryz.underlying217
  a233 := Tryz.isAgg217
  z233 := Tryz.sizeOf217
  v233 := Tryz.zeroValue217
  g15 := by kernel_rfl
  g16 := by kernel_rfl
  g17 := by kernel_rfl
  g18 := by kernel_rfl
  g19 := by kernel_rfl
  t80 := Tryz.underlying218
  a80 := Tryz.isAgg218
  z80 := Tryz.sizeOf218
  v80 := Tryz.zeroValue218
  i0 := by kernel_rfl
  i2 := by kernel_rfl
  i3 := by kernel_rfl
  i4 := by kernel_rfl
  i5 := by kernel_rfl
  i9 := by kernel_rfl
  i20 := by kernel_rfl
  i21 := by kernel_rfl
  i37 := by kernel_rfl
  i46 := by kernel_rfl
  i51 := by kernel_rfl
  i53 := by kernel_rfl
  i75 := by kernel_rfl
  i76 := by kernel_rfl
  i80 := by kernel_rfl
  i85 := by kernel_rfl
  i127 := by kernel_rfl
  i143 := by kernel_rfl
  i145 := by kernel_rfl
  i167 := by kernel_rfl
  i168 := by kernel_rfl
  i171 := by kernel_rfl
  i173 := by kernel_rfl
  i175 := by kernel_rfl
  i210 := by kernel_rfl
  i212 := by kernel_rfl
  i232 := by kernel_rfl
  i233 := by kernel_rfl
  m15 := by kernel_rfl
  m16 := by kernel_rfl
  m17 := by kernel_rfl
  m18 := by kernel_rfl
  m19 := by kernel_rfl
  c0 := by kernel_rfl
  c2 := by kernel_rfl
  c3 := by kernel_rfl
  c4 := by kernel_rfl
  c5 := by kernel_rfl
  c9 := by kernel_rfl
  c20 := by kernel_rfl
  c21 := by kernel_rfl
  c37 := by kernel_rfl
  c46 := by kernel_rfl
  c51 := by kernel_rfl
  c53 := by kernel_rfl
  c75 := by kernel_rfl
  c76 := by kernel_rfl
  c80 := by kernel_rfl
  c85 := by kernel_rfl
  c127 := by kernel_rfl
  c143 := by kernel_rfl
  c145 := by kernel_rfl
  c167 := by kernel_rfl
  c168 := by kernel_rfl
  c171 := by kernel_rfl
  c173 := by kernel_rfl
  c175 := by kernel_rfl
  c210 := by kernel_rfl
  c212 := by kernel_rfl
  c213 := by kernel_rfl
  c232 := by kernel_rfl
  c233 := by kernel_rfl }
open Go.RowKit in
theorem Tryz.strconv_Atoi_ok (s : ByteArray) (hmax : s.size ≤ 9223372036854775806) (v : Int) (h : Lib.atoiAll s.data.toList = .ok v) (w : World) :
    Calls Tryz.prog 116 #[.string s] w fun e w' => e = .returned (.tuple #[.int .i64 v, .nilIface]) ∧ (w' = w ∨ ∃ t, w' = Lib.bytesWorld w 5 t) := Any.strconv_Atoi_ok Tryz.laysC172 s hmax v h w
def Tryz.lays99_ren : Go.Shelf.Ren := ⟨fun | 99 => 100 | 206 => 118 | n => n, fun | 9 => 9 | 4 => 4 | 3 => 3 | n => n, fun | n => n⟩
theorem Tryz.lays99 : Go.Proofs.Lays.n99 Tryz.prog Tryz.lays99_ren := {
  mixed := by kernel_rfl
  f99 := Tryz.func100.trans (congrArg some (by kernel_rfl))
  f206 := Tryz.func118.trans (congrArg some (by kernel_rfl))
  t3 := Tryz.underlying3
  a3 := Tryz.isAgg3
  z3 := Tryz.sizeOf3
  v3 := Tryz.zeroValue3
  t4 := Tryz.underlying4
  a4 := Tryz.isAgg4
  z4 := Tryz.sizeOf4
  v4 := Tryz.zeroValue4
  t9 := Tryz.underlying9
  a9 := Tryz.isAgg9
  z9 := Tryz.sizeOf9
  v9 := Tryz.zeroValue9 }
open Go.RowKit Go.Lib in
theorem Tryz.strings_HasPrefix (s p : ByteArray) (w : World) :
    Calls Tryz.prog 100 #[.string s, .string p] w fun e w' => e = .returned (.bool (Lib.hasPrefix s.data.toList p.data.toList)) ∧ w' = w := Any.strings_HasPrefix Tryz.lays99 s p w
end Go.Proofs

/- strconv.Itoa, over the table that a row lists. -/
namespace Go.Proofs.YtiffmiabhapfnaaGreatDoor
open Go.RowKit

def RetV (v : Value) (w : World) (e : Ending) (w' : World) : Prop := e = .returned v ∧ Below w.heap.size w w'
def TabW (w : World) : Prop := ∀ W, Below w.heap.size w W → Lib.TabIs Tryz.prog W "internal/strconv.uint64pow10" .u64 Lib.pow10Tab
theorem TabW.of {w : World} (h : Lib.TabIs Tryz.prog w "internal/strconv.uint64pow10" .u64 Lib.pow10Tab) : TabW w := Lib.tabBelow_of_tabIs h
theorem TabW.on {w W : World} (h : TabW w) (hb : Below w.heap.size w W) : TabW W := fun _ hb' => h _ (hb.trans (hb'.mono hb.size))

theorem itoa_any (n : Int) (hn : fits n) (w : World) (h : TabW w) : Calls Tryz.prog 117 #[.int .i64 n] w (fun e w' => ∃ s : ByteArray, Hid (s = ⟨(Lib.itoa n).toArray⟩) ∧ s.size ≤ 21 ∧ e = .returned (.string s) ∧ Below w.heap.size w w') := by
  have hn' : -9223372036854775808 ≤ n ∧ n ≤ 9223372036854775807 := by
    unfold fits at hn; simp [Lit.wf, IntKind.min, IntKind.max, IntKind.signed, IntKind.bits] at hn; omega
  refine (Tryz.strconv_Itoa n hn'.1 hn'.2 w (h w (Below.refl _ _))).mono ?_
  rintro e w' ⟨rfl, k, os, rfl⟩
  exact ⟨_, rfl, by have := Lib.itoa_length_le n hn'.1 hn'.2; simpa [ByteArray.size] using this, rfl, Lib.below_grow _ _ (Nat.le_refl _) _ _⟩
end Go.Proofs.YtiffmiabhapfnaaGreatDoor

/- corollaryref01.Digits: the decimal numeral. -/
namespace Go.Proofs.YtiffmiabhapfnaaGreatDoor
open Go.RowKit

def RetStr (l : List UInt8) (w : World) (e : Ending) (w' : World) : Prop := ∃ s : ByteArray, Hid (s = ⟨l.toArray⟩) ∧ s.size ≤ 21 ∧ e = .returned (.string s) ∧ w' = w
theorem fits_iff (n : Int) : fits n ↔ -9223372036854775808 ≤ n ∧ n ≤ 9223372036854775807 := by
  unfold fits; simp [Lit.wf, IntKind.min, IntKind.max, IntKind.signed, IntKind.bits]

end Go.Proofs.YtiffmiabhapfnaaGreatDoor

/- value.Name and value.Right, and the document's. -/
namespace Go.Proofs.YtiffmiabhapfnaaGreatDoor
open Go.RowKit

def RetSameB (b : Bool) (w : World) (e : Ending) (w' : World) : Prop := e = .returned (.bool b) ∧ w' = w
/-- a name's byte -/
def nameB (n : Nat) : Bool := (decide (97 ≤ n) && decide (n ≤ 122)) || (decide (48 ≤ n) && decide (n ≤ 57)) || decide (n = 95)

set_option maxRecDepth 100000 in
theorem strange_any (r : Nat) (w : World) : Calls Tryz.prog 121 #[.int .i32 r] w (RetBool (!nameB r) w) := by
  by_cases h1 : 97 ≤ r <;> by_cases h2 : r ≤ 122 <;> by_cases h3 : 48 ≤ r <;> by_cases h4 : r ≤ 57 <;> by_cases h5 : r = 95 <;> (try (exfalso; omega))
  all_goals
    have z1 : (97 : Int) ≤ (r : Int) ↔ 97 ≤ r := by omega
    have z2 : (r : Int) ≤ 122 ↔ r ≤ 122 := by omega
    have z3 : (48 : Int) ≤ (r : Int) ↔ 48 ≤ r := by omega
    have z4 : (r : Int) ≤ 57 ↔ r ≤ 57 := by omega
    have z5 : ((r : Int) == 95) = decide (r = 95) := by rw [Bool.eq_iff_iff]; simp; omega
    go_enter Tryz.func121, Tryz.ntmps121
    go_wp2
    go_ret
    exact ⟨by simp [nameB, h1, h2, h3, h4, h5], Below.refl _ _⟩

def lowB (n : Nat) : Bool := decide (97 ≤ n) && decide (n ≤ 122)
set_option maxRecDepth 100000 in
theorem letter_any (r : Nat) (w : World) : Calls Tryz.prog 122 #[.int .u8 r] w (RetBool (lowB r) w) := by
  by_cases h1 : 97 ≤ r <;> by_cases h2 : r ≤ 122 <;> (try (exfalso; omega))
  all_goals
    have z1 : (97 : Int) ≤ (r : Int) ↔ 97 ≤ r := by omega
    have z2 : (r : Int) ≤ 122 ↔ r ≤ 122 := by omega
    go_enter Tryz.func122, Tryz.ntmps122
    go_wp2
    go_ret
    exact ⟨by simp [lowB, h1, h2], Below.refl _ _⟩

def byteAt (s : ByteArray) (i : Nat) : Nat := (s.get! i).toNat
theorem byteAt_eq {s : ByteArray} {i : Nat} (h : i < s.size) : (s[i]'h).toNat = byteAt s i := by
  obtain ⟨d⟩ := s
  show (d[i]'h).toNat = (d[i]!).toNat
  rw [getElem!_pos d i h]
def allN (s : ByteArray) : Bool := decide (∀ i, i < s.size → nameB (byteAt s i) = true)
theorem allN_false {s : ByteArray} {i : Nat} (hi : i < s.size) (h : nameB (byteAt s i) = false) : allN s = false := by
  simp only [allN, decide_eq_false_iff_not]
  intro h'; rw [h' i hi] at h; cases h
/-- what is decoded at a place: the byte, or a rune that is no name's -/
theorem decode_name (s : ByteArray) (i : Nat) : (nameB (Utf8.decode s i).1 = nameB (byteAt s i)) ∧ (nameB (byteAt s i) = true → (Utf8.decode s i).2 = 1) := by
  have hb : ∀ n, 128 ≤ n → nameB n = false := by
    intro n hn
    simp only [nameB, Bool.or_eq_false_iff, Bool.and_eq_false_iff, decide_eq_false_iff_not]
    omega
  by_cases h : byteAt s i < 128
  · have : Utf8.decode s i = (byteAt s i, 1) := by
      unfold Utf8.decode
      simp only [Nat.add_zero]
      exact if_pos h
    rw [this]; exact ⟨rfl, fun _ => rfl⟩
  · have h1 : 128 ≤ (Utf8.decode s i).1 := by
      unfold Utf8.decode
      simp only [Nat.add_zero]
      rw [if_neg (show ¬ (s.get! i).toNat < 128 from h)]
      repeat' split
      all_goals first | (simp only [ge_iff_le, Bool.and_eq_true, decide_eq_true_eq] at *; omega) | (simp [Utf8.runeError])
    rw [hb _ h1, hb _ (by omega)]
    exact ⟨rfl, fun h => by cases h⟩

def IdxPost (s : ByteArray) (w : World) (e : Ending) (w' : World) : Prop := ∃ k : Int, e = .returned (.int .i64 k) ∧ decide (0 ≤ k) = !allN s ∧ Below w.heap.size w w'

set_option maxRecDepth 100000 in
set_option maxHeartbeats 400000 in
theorem indexFunc_any (s : ByteArray) (w : World) : Calls Tryz.prog 139 #[.string s, .func (.func 121) #[] #[], .bool true] w (IdxPost s w) := by
  go_enter Tryz.func139, Tryz.ntmps139
  go_wp2
  go_loopg [] s.size (fun gf wx => ∃ pos : Nat, wx.heap[w.heap.size]? = some (.stringIter s pos) ∧ Below w.heap.size w wx ∧ Hid (∀ i, i < pos → nameB (byteAt s i) = true) ∧ pos + gf = s.size)
  case atStart => exact ⟨0, World.iter_heap w s 0, (Below.refl _ w).alloc (Nat.le_refl _) _, fun i h => by omega, by omega⟩
  case round =>
    obtain ⟨pos, hit, hbw, hpre, hfu⟩ := hrel
    by_cases hps : pos < s.size
    · have hnx : ∀ ty, (Instr.next (.pointer (some ⟨w.heap.size, 0, none⟩)) true ty).run Tryz.prog wr = _ := fun ty => Lib.run_next_any_at wr w.heap.size s pos ty hit hps
      obtain ⟨hd1, hd2⟩ := decode_name s pos
      have hit2 := Lib.iterAt_heap wr w.heap.size s pos (pos + (Utf8.decode s pos).2) hit
      have hbw2 := Lib.below_iterAt hbw (k := w.heap.size) (Nat.le_refl _) s (pos + (Utf8.decode s pos).2)
      have cS := strange_any (Utf8.decode s pos).1 (wr.iterAt w.heap.size s (pos + (Utf8.decode s pos).2))
      rw [hd1] at cS
      generalize (Utf8.decode s pos).1 = R at *
      cases hn : nameB (byteAt s pos) with
      | true =>
        rw [hd2 hn] at *
        rw [hn] at cS
        have Hn := Lib.hid hn
        have cS := Lib.hid cS
        have hit2 := Lib.hid hit2
        have hbw2 := Lib.hid hbw2
        clear hn hd1 hd2 hit
        go_wp2_with fail
        refine cS.out.mono ?_
        rintro e w1 ⟨rfl, hb⟩
        go_wp2_with fail
        go_roundg (gk - 1)
        case measure => omega
        case rel => exact ⟨pos + 1, (hb.block _ ((Array.getElem?_eq_some_iff.1 hit2.out).1)).trans hit2.out, below_next hbw2.out hb, fun i hi => by
            by_cases h : i < pos
            · exact hpre.out i h
            · rw [show i = pos by omega]; exact Hn.out, by omega⟩
      | false =>
        rw [hn] at cS
        have Hn := Lib.hid (allN_false hps hn)
        have cS := Lib.hid cS
        have hbw2 := Lib.hid hbw2
        clear hn hd1 hd2 hit hit2
        go_wp2_with fail
        refine cS.out.mono ?_
        rintro e w1 ⟨rfl, hb⟩
        go_wp2_with fail
        go_ret
        exact ⟨_, rfl, by rw [Hn.out]; simp, below_next hbw2.out hb⟩
    · have hnx : ∀ ty, (Instr.next (.pointer (some ⟨w.heap.size, 0, none⟩)) true ty).run Tryz.prog wr = _ := fun ty => Lib.run_next_end_at wr w.heap.size s pos ty hit hps
      go_wp2_with fail
      go_ret
      exact ⟨_, rfl, by
        have : allN s = true := by
          simp only [allN, decide_eq_true_eq]
          exact fun i hi => hpre.out i (by omega)
        rw [this]; rfl, hbw⟩

def ContPost (s : ByteArray) (w : World) (e : Ending) (w' : World) : Prop := e = .returned (.bool (!allN s)) ∧ Below w.heap.size w w'
set_option maxRecDepth 100000 in
theorem containsFunc_any (s : ByteArray) (w : World) : Calls Tryz.prog 123 #[.string s, .func (.func 121) #[] #[]] w (ContPost s w) := by
  have hi : Calls Tryz.prog 129 #[.string s, .func (.func 121) #[] #[]] w (IdxPost s w) := by
    go_enter Tryz.func129, Tryz.ntmps129
    go_wp2_with fail
    refine (indexFunc_any s w).mono ?_
    rintro e w1 ⟨k, rfl, hk, hb⟩
    go_wp2_with fail
    go_ret
    exact ⟨k, rfl, hk, hb⟩
  go_enter Tryz.func123, Tryz.ntmps123
  go_wp2_with fail
  refine hi.mono ?_
  rintro e w1 ⟨k, rfl, hk, hb⟩
  have Hk := Lib.hid hk
  clear hk
  go_wp2_with fail
  go_ret
  exact ⟨by rw [← Hk.out]; rfl, hb⟩

/-- is a text a name -/
def nameOk (s : ByteArray) : Bool := decide (1 ≤ s.size) && decide (s.size ≤ 32) && lowB (byteAt s 0) && allN s

set_option maxRecDepth 100000 in
set_option maxHeartbeats 400000 in
theorem name_any (s : ByteArray) (w : World) : Calls Tryz.prog 107 #[.string s] w (RetBool (nameOk s) w) := by
  by_cases h0 : s.size = 0
  · have hl0 : s.toList = [] := by
      rw [ByteArray.toList_eq]
      exact List.eq_nil_of_length_eq_zero h0
    have he : s.toList.isEmpty = true := by rw [hl0]; rfl
    have HR : Hid (nameOk s = false) := by show nameOk s = false; simp [nameOk, h0]
    go_enter Tryz.func107, Tryz.ntmps107
    go_wp2_with fail
    go_ret
    exact ⟨by rw [HR.out]; rfl, Below.refl _ _⟩
  · have hl0 : s.toList ≠ [] := by
      rw [ByteArray.toList_eq]
      intro h
      exact h0 (congrArg List.length h)
    have he : s.toList.isEmpty = false := by simpa using hl0
    by_cases h32 : s.size ≤ 32
    · have z1 : (s.size : Int) ≤ 32 ↔ s.size ≤ 32 := by omega
      have hlt : 0 < s.size := by omega
      cases hlow : lowB (byteAt s 0) with
      | true =>
        have HR : Hid (nameOk s = allN s) := by show nameOk s = allN s; simp [nameOk, h32, hlow]; omega
        have cl := letter_any (byteAt s 0) w
        rw [hlow, ← byteAt_eq hlt] at cl
        have cl := Lib.hid cl
        clear hlow
        go_enter Tryz.func107, Tryz.ntmps107
        go_wp2_with fail
        refine cl.out.mono ?_
        rintro e w1 ⟨rfl, hb⟩
        go_wp2_with fail
        refine (containsFunc_any s w1).mono ?_
        rintro e w2 ⟨rfl, hb2⟩
        go_wp2_with fail
        go_ret
        exact ⟨by rw [HR.out, ← Bool.not_not (allN s)]; rfl, below_next hb hb2⟩
      | false =>
        have HR : Hid (nameOk s = false) := by show nameOk s = false; simp [nameOk, hlow]
        have cl := letter_any (byteAt s 0) w
        rw [hlow, ← byteAt_eq hlt] at cl
        have cl := Lib.hid cl
        clear hlow
        go_enter Tryz.func107, Tryz.ntmps107
        go_wp2_with fail
        refine cl.out.mono ?_
        rintro e w1 ⟨rfl, hb⟩
        go_wp2_with fail
        go_ret
        exact ⟨by rw [HR.out]; rfl, hb⟩
    · have z1 : ¬ (s.size : Int) ≤ 32 := by omega
      have HR : Hid (nameOk s = false) := by show nameOk s = false; simp [nameOk, h32]
      go_enter Tryz.func107, Tryz.ntmps107
      go_wp2_with fail
      go_ret
      exact ⟨by rw [HR.out]; rfl, Below.refl _ _⟩

/-- is a value right -/
def rightB (v : GV) : Bool := if v.k = 1 then decide (v.s.size = 0) && decide (-2147483647 ≤ v.n) && decide (v.n ≤ 2147483647) else if v.k = 2 then decide (v.n = 0) && nameOk v.s else false

set_option maxRecDepth 100000 in
theorem bounded_any (n : Int) (w : World) : Calls Tryz.prog 106 #[.int .i64 n] w (RetBool (decide (-2147483647 ≤ n) && decide (n ≤ 2147483647)) w) := by
  by_cases h1 : -2147483647 ≤ n <;> by_cases h2 : n ≤ 2147483647 <;> (try (exfalso; omega))
  all_goals
    go_enter Tryz.func106, Tryz.ntmps106
    go_wp2
    go_ret
    exact ⟨by simp [h1, h2], Below.refl _ _⟩
set_option maxRecDepth 100000 in
set_option maxHeartbeats 400000 in
theorem right_any (v : GV) (w : World) : Calls Tryz.prog 86 #[v.v] w (RetBool (rightB v) w) := by
  by_cases h1 : v.k = 1
  · have z1 : (v.k == 1) = true := by simp [h1]
    have hb := Lib.hid (bounded_any v.n)
    have Hk := Lib.hid h1
    clear h1
    have ze : v.s.toList.isEmpty = decide (v.s.size = 0) := by
      rw [ByteArray.toList_eq, Bool.eq_iff_iff]
      simp only [List.isEmpty_iff, decide_eq_true_eq]
      exact ⟨fun h => congrArg List.length h, fun h => List.eq_nil_of_length_eq_zero h⟩
    by_cases hs : v.s.size = 0
    · have HR : Hid (rightB v = (decide (-2147483647 ≤ v.n) && decide (v.n ≤ 2147483647))) := by
        show rightB v = _
        simp [rightB, Hk.out, hs]
      go_enter Tryz.func86, Tryz.ntmps86
      go_wp2_with fail
      refine (hb.out _).mono ?_
      rintro e w1 ⟨rfl, hb⟩
      go_wp2_with fail
      go_ret
      exact ⟨by rw [HR.out]; rfl, below_next (belowA (Below.refl _ _) _) hb⟩
    · have HR : Hid (rightB v = false) := by show rightB v = false; simp [rightB, Hk.out, hs]
      go_enter Tryz.func86, Tryz.ntmps86
      go_wp2_with fail
      go_ret
      exact ⟨by rw [HR.out]; rfl, belowA (Below.refl _ _) _⟩
  · have z1 : (v.k == 1) = false := by simp [h1]
    have Hk := Lib.hid h1
    clear h1
    by_cases h2 : v.k = 2
    · have z2 : (v.k == 2) = true := by simp [h2]
      have Hk2 := Lib.hid h2
      clear h2
      by_cases h3 : v.n = 0
      · have z3 : (v.n == 0) = true := by simp [h3]
        have HR : Hid (rightB v = nameOk v.s) := by show rightB v = _; simp [rightB, Hk2.out, h3]
        clear h3
        go_enter Tryz.func86, Tryz.ntmps86
        go_wp2_with fail
        refine (name_any v.s _).mono ?_
        rintro e w1 ⟨rfl, hb⟩
        go_wp2_with fail
        go_ret
        exact ⟨by rw [HR.out]; rfl, below_next (belowA (Below.refl _ _) _) hb⟩
      · have z3 : (v.n == 0) = false := by simp [h3]
        have HR : Hid (rightB v = false) := by show rightB v = _; simp [rightB, Hk2.out, h3]
        clear h3
        go_enter Tryz.func86, Tryz.ntmps86
        go_wp2_with fail
        go_ret
        exact ⟨by rw [HR.out]; rfl, belowA (Below.refl _ _) _⟩
    · have z2 : (v.k == 2) = false := by simp [h2]
      have HR : Hid (rightB v = false) := by show rightB v = false; simp [rightB, Hk.out, h2]
      clear h2
      go_enter Tryz.func86, Tryz.ntmps86
      go_wp2_with fail
      go_ret
      exact ⟨by rw [HR.out]; rfl, belowA (Below.refl _ _) _⟩
theorem nameOk_all {s : ByteArray} {i : Nat} (hi : i < s.size) (h : nameB (byteAt s i) = false) : nameOk s = false := by simp [nameOk, allN_false hi h]
/-- what the document asks of one byte -/
def refB (i b : Nat) : Bool := lowB b || (!decide (i = 0) && nameB b)
theorem refB_false {s : ByteArray} {i : Nat} (hi : i < s.size) (h : refB i (byteAt s i) = false) : nameOk s = false := by
  simp only [refB, Bool.or_eq_false_iff, Bool.and_eq_false_iff, Bool.not_eq_false', decide_eq_true_eq] at h
  rcases h.2 with h0 | h0
  · rw [h0] at h; simp [nameOk, h.1]
  · exact nameOk_all hi h0
theorem lowB_name {b : Nat} (h : lowB b = true) : nameB b = true := by
  simp only [lowB] at h; simp [nameB, h]
theorem refB_true {s : ByteArray} (h : ∀ j, j < s.size → refB j (byteAt s j) = true) : nameOk s = (decide (1 ≤ s.size) && decide (s.size ≤ 32)) := by
  have ha : allN s = true := by
    simp only [allN, decide_eq_true_eq]
    intro j hj
    have := h j hj
    simp only [refB, Bool.or_eq_true, Bool.and_eq_true] at this
    rcases this with h1 | h1
    · exact lowB_name h1
    · exact h1.2
  by_cases h0 : 1 ≤ s.size
  · have := h 0 (by omega)
    simp [refB] at this
    simp [nameOk, ha, this]
  · simp [nameOk, h0]

theorem refB_int (k b : Nat) : refB k b = ((decide (97 ≤ (b : Int)) && decide ((b : Int) ≤ 122)) || (!decide (k = 0) && ((decide (48 ≤ (b : Int)) && decide ((b : Int) ≤ 57)) || decide ((b : Int) = 95)))) := by
  rw [Bool.eq_iff_iff]; simp [refB, lowB, nameB]; omega

set_option linter.unusedSimpArgs false in
set_option maxRecDepth 100000 in
set_option maxHeartbeats 2000000 in
theorem refNameQ_any (s : ByteArray) (hsz : s.size ≤ 140737488351232) (w : World) : Calls Tryz.prog 119 #[.string s] w (RetSameB (nameOk s) w) := by
  go_enter Tryz.func119, Tryz.ntmps119
  go_wp2
  go_loop [3, 4, 5] (fun i _ _ => ∃ k : Nat, k ≤ s.size ∧ i = .int .i64 k ∧ Hid (∀ j, j < k → refB j (byteAt s j) = true)) (fun i _ _ => s.size - (intOf i).toNat)
  case atStart => exact ⟨0, by omega, rfl, fun j h => by omega⟩
  case round =>
    obtain ⟨k, hk, rfl, hpre⟩ := hrel
    by_cases hlt : k < s.size
    · have i0 : (0 : Int) ≤ (k : Int) := by omega
      have i1 : (k : Int) < (s.size : Int) := by omega
      have Hb := Lib.hid (byteAt_eq hlt).symm
      have HN : Hid (refB k (s[k]'hlt).toNat = true → ∀ j, j < k + 1 → refB j (byteAt s j) = true) := by
        intro h j hj
        by_cases hjk : j < k
        · exact hpre.out j hjk
        · have e : j = k := by omega
          subst e
          rw [Hb.out]; exact h
      have HF : Hid (refB k (s[k]'hlt).toNat = false → nameOk s = false) := by
        intro h; exact refB_false hlt (by rw [Hb.out]; exact h)
      have HE := Lib.hid (refB_int k (s[k]'hlt).toNat)
      clear hpre
      have z0 : ((k : Int) == 0) = decide (k = 0) := by rw [Bool.eq_iff_iff]; simp
      by_cases h1 : (97 : Int) ≤ ((s[k]'hlt).toNat : Int) <;> by_cases h2 : ((s[k]'hlt).toNat : Int) ≤ 122 <;> by_cases h3 : (48 : Int) ≤ ((s[k]'hlt).toNat : Int) <;> by_cases h4 : ((s[k]'hlt).toNat : Int) ≤ 57 <;> by_cases h5 : ((s[k]'hlt).toNat : Int) = 95 <;> cases hk0 : decide (k = 0) <;> (try (exfalso; omega))
      all_goals
        have z5 : (((s[k]'hlt).toNat : Int) != 95) = !decide (((s[k]'hlt).toNat : Int) = 95) := by rw [Bool.eq_iff_iff]; simp
        have h0 := HE.out
        rw [hk0] at z0 h0
        clear HE hk0
        simp only [h1, h2, h3, h4, h5, decide_true, decide_false, Bool.and_true, Bool.true_and, Bool.and_false, Bool.false_and, Bool.or_true, Bool.true_or, Bool.or_false, Bool.false_or, Bool.not_true, Bool.not_false] at z5 h0
        have HR := Lib.hid h0
        clear h0
        go_wp2_with fail
      all_goals first
        | (go_ret; exact ⟨by rw [HF.out HR.out]; rfl, rfl⟩)
        | exact ⟨⟨k + 1, by omega, by go_num, HN.out HR.out⟩, by simp [intOf]; omega⟩
    · have HR : Hid (nameOk s = (decide (1 ≤ s.size) && decide (s.size ≤ 32))) := refB_true (fun j hj => hpre.out j (by omega))
      have i1 : ¬ (k : Int) < (s.size : Int) := by omega
      by_cases h1 : (1 : Int) ≤ (s.size : Int) <;> by_cases h2 : (s.size : Int) ≤ 32 <;> (try (exfalso; omega))
      all_goals
        go_wp2_with fail
        go_ret
        exact ⟨by rw [HR.out]; simp; omega, rfl⟩

theorem refName_any (s : ByteArray) (hsz : s.size ≤ 140737488351232) (w : World) : Calls Tryz.prog 119 #[.string s] w (RetBool (nameOk s) w) :=
  (refNameQ_any s hsz w).mono fun _ _ ⟨he, hw⟩ => ⟨he, by rw [hw]; exact Below.refl _ _⟩

set_option linter.unusedSimpArgs false in
set_option maxRecDepth 100000 in
set_option maxHeartbeats 1000000 in
theorem refRight_any (v : GV) (hv : v.ok) (w : World) : Calls Tryz.prog 108 #[v.v] w (RetBool (rightB v) w) := by
  have hsz : v.s.size ≤ 140737488351232 := hv.2.2
  by_cases h1 : v.k = 1
  · have z1 : (v.k == 1) = true := by simp [h1]
    have Hk := Lib.hid h1
    clear h1
    have HE : Hid (rightB v = (((v.s.size : Int) == 0) && decide (-2147483647 ≤ v.n) && decide (v.n ≤ 2147483647))) := by
      show rightB v = _
      rw [Bool.eq_iff_iff]; simp [rightB, Hk.out]
    cases zs : ((v.s.size : Int) == 0) <;> by_cases h3 : -2147483647 ≤ v.n <;> by_cases h4 : v.n ≤ 2147483647 <;> (try (exfalso; omega))
    all_goals
      have h0 := HE.out
      clear HE
      simp only [zs, h3, h4, decide_true, decide_false, Bool.and_true, Bool.and_false, Bool.false_and] at h0
      have HR := Lib.hid h0
      clear h0
      go_enter Tryz.func108, Tryz.ntmps108
      go_wp2_with fail
      go_ret
      exact ⟨by rw [HR.out]; rfl, belowA (Below.refl _ _) _⟩
  · have z1 : (v.k == 1) = false := by simp [h1]
    have Hk := Lib.hid h1
    clear h1
    by_cases h2 : v.k = 2
    · have z2 : (v.k == 2) = true := by simp [h2]
      have Hk2 := Lib.hid h2
      clear h2
      by_cases h3 : v.n = 0
      · have z3 : (v.n == 0) = true := by simp [h3]
        have HR : Hid (rightB v = nameOk v.s) := by show rightB v = _; simp [rightB, Hk2.out, h3]
        clear h3
        go_enter Tryz.func108, Tryz.ntmps108
        go_wp2_with fail
        refine (refName_any v.s hsz _).mono ?_
        rintro e w1 ⟨rfl, hb⟩
        go_wp2_with fail
        go_ret
        exact ⟨by rw [HR.out]; rfl, below_next (belowA (Below.refl _ _) _) hb⟩
      · have z3 : (v.n == 0) = false := by simp [h3]
        have HR : Hid (rightB v = false) := by show rightB v = _; simp [rightB, Hk2.out, h3]
        clear h3
        go_enter Tryz.func108, Tryz.ntmps108
        go_wp2_with fail
        go_ret
        exact ⟨by rw [HR.out]; rfl, belowA (Below.refl _ _) _⟩
    · have z2 : (v.k == 2) = false := by simp [h2]
      have HR : Hid (rightB v = false) := by show rightB v = false; simp [rightB, Hk.out, h2]
      clear h2
      go_enter Tryz.func108, Tryz.ntmps108
      go_wp2_with fail
      go_ret
      exact ⟨by rw [HR.out]; rfl, belowA (Below.refl _ _) _⟩
end Go.Proofs.YtiffmiabhapfnaaGreatDoor

/- A number's text, read back: the program's way (strconv.Atoi and Itoa) and the document's. Plain: nothing of any program. -/
namespace Go.Proofs.YtiffmiabhapfnaaGreatDoor

open Go.Lib
theorem decFrom_append : ∀ (l m : List UInt8) (a : Nat), decFrom a (l ++ m) = (decFrom a l).bind (fun n => decFrom n m)
  | [], m, a => by simp [decFrom]
  | b :: l, m, a => by
    simp only [List.cons_append, decFrom]
    cases digitVal b with
    | none => rfl
    | some d => exact decFrom_append l m _
theorem digit_u8 {d : Nat} (h : d < 10) : digitVal (UInt8.ofNat (48 + d)) = some d := by
  have : (UInt8.ofNat (48 + d)).toNat = 48 + d := by simp; omega
  unfold digitVal
  rw [if_pos (by omega)]
  congr 1; omega
theorem dec_digits : ∀ n : Nat, decFrom 0 (decDigits n) = some n := by
  intro n
  induction n using Nat.strongRecOn with
  | _ n ih =>
    rw [decDigits]
    split
    · rename_i h
      simp only [decFrom, digit_u8 h]; simp
    · rename_i h
      rw [decFrom_append, ih (n / 10) (by omega)]
      simp only [Option.bind_some, decFrom, digit_u8 (Nat.mod_lt n (by omega))]
      congr 1; omega
theorem digits_ne (n : Nat) : decDigits n ≠ [] := by
  rw [decDigits]; split <;> simp
theorem digits_first : ∀ n : Nat, 1 ≤ n → ∃ c r, decDigits n = c :: r ∧ 49 ≤ c.toNat ∧ c.toNat ≤ 57 := by
  intro n
  induction n using Nat.strongRecOn with
  | _ n ih =>
    intro h1
    rw [decDigits]
    split
    · rename_i h
      have : (UInt8.ofNat (48 + n)).toNat = 48 + n := by simp; omega
      exact ⟨_, [], rfl, by omega, by omega⟩
    · rename_i h
      obtain ⟨c, r, e, h2, h3⟩ := ih (n / 10) (by omega) (by omega)
      exact ⟨c, _, by rw [e]; rfl, h2, h3⟩
theorem digits_zero : decDigits 0 = [48] := by rw [decDigits]; rfl
theorem digits_len : ∀ (k n : Nat), n < 10 ^ (k + 1) → (decDigits n).length ≤ k + 1 := by
  intro k
  induction k with
  | zero => intro n h; rw [decDigits, dif_pos (by simpa using h)]; simp
  | succ k ih =>
    intro n h
    rw [decDigits]
    split
    · simp
    · have := ih (n / 10) (by rw [Nat.pow_succ] at h; omega)
      simp; omega
theorem digitVal_some {c : UInt8} {d : Nat} (h : digitVal c = some d) : d < 10 ∧ c = UInt8.ofNat (48 + d) := by
  unfold digitVal at h
  split at h
  · rename_i hc
    injection h with h
    refine ⟨by omega, ?_⟩
    apply UInt8.toNat_inj.1
    have : (UInt8.ofNat (48 + d)).toNat = 48 + d := by simp; omega
    rw [this]; omega
  · cases h
/-- digits without a nought ahead are the numeral of their number -/
theorem digits_back : ∀ (k : Nat) (t : List UInt8) (n : Nat), t.length = k → t ≠ [] → (∀ c r, t = c :: r → c = 48 → r = []) → decFrom 0 t = some n → decDigits n = t := by
  intro k
  induction k with
  | zero => intro t n hl hn; exact absurd (List.eq_nil_of_length_eq_zero hl) hn
  | succ k ih =>
    intro t n hl hn h0 hd
    obtain ⟨t', c, rfl⟩ : ∃ t' c, t = t' ++ [c] := by
      rcases List.eq_nil_or_concat t with h | ⟨l, b, h⟩
      · exact absurd h hn
      · exact ⟨l, b, by simpa using h⟩
    rw [decFrom_append] at hd
    cases hn' : decFrom 0 t' with
    | none => rw [hn'] at hd; cases hd
    | some m =>
      rw [hn'] at hd
      simp only [Option.bind_some, decFrom] at hd
      cases hc : digitVal c with
      | none => rw [hc] at hd; cases hd
      | some d =>
        rw [hc] at hd
        injection hd with hd
        obtain ⟨hd10, rfl⟩ := digitVal_some hc
        cases ht : t' with
        | nil =>
          subst ht
          simp only [decFrom] at hn'
          injection hn' with hn'
          subst hn'
          rw [decDigits, dif_pos (by omega)]
          rw [← hd]; simp
        | cons a r =>
          have h0' : ∀ c r, t' = c :: r → c = 48 → r = [] := by
            intro c' r' e e48
            have := h0 c' (r' ++ [UInt8.ofNat (48 + d)]) (by rw [e]; rfl) e48
            simp at this
          have hm := ih t' m (by simpa using hl) (by rw [ht]; simp) h0' hn'
          have hm1 : 1 ≤ m := by
            rcases Nat.eq_zero_or_pos m with h | h
            · subst h
              rw [digits_zero] at hm
              have := h0 48 [UInt8.ofNat (48 + d)] (by rw [← hm]; rfl) rfl
              simp at this
            · exact h
          rw [← ht, ← hm]
          rw [decDigits, dif_neg (by omega)]
          rw [show n / 10 = m by omega, show n % 10 = d by omega]

def magOf (t : List UInt8) : Option Nat := match decFrom 0 t with
    | some n => if 2147483647 < n then none else some n
    | none => none
/-- the document's reading of digits behind the sign -/
def refMag (t : List UInt8) (neg : Bool) : Option Nat :=
  if t.length = 0 ∨ 10 < t.length ∨ (t.head? = some 48 ∧ (1 < t.length ∨ neg = true)) then none
  else magOf t
def refNum (l : List UInt8) : Option Int :=
  if l.head? = some 45 then (refMag l.tail true).map fun (n : Nat) => -(n : Int) else (refMag l false).map fun (n : Nat) => (n : Int)
def bnd31 (n : Int) : Bool := decide (-2147483647 ≤ n) && decide (n ≤ 2147483647)
/-- the program's reading -/
def ownNum (l : List UInt8) : Option Int :=
  match atoiAll l with
  | .ok n => if itoa n = l ∧ bnd31 n = true then some n else none
  | _ => none

theorem refMag_some {t : List UInt8} {neg : Bool} {n : Nat} (h : refMag t neg = some n) : decDigits n = t ∧ n ≤ 2147483647 ∧ (neg = true → 1 ≤ n) := by
  unfold refMag at h
  split at h
  · cases h
  · rename_i hc
    simp only [not_or] at hc
    obtain ⟨h1, h2, h3⟩ := hc
    unfold magOf at h
    cases hd : decFrom 0 t with
    | none => rw [hd] at h; cases h
    | some m =>
      rw [hd] at h
      simp only at h
      split at h
      · cases h
      · injection h with h
        subst h
        have hb := digits_back t.length t m rfl (by intro e; subst e; simp at h1) (by
          intro c r e e48
          subst e; subst e48
          by_cases hr : r = []
          · exact hr
          · exact absurd ⟨rfl, .inl (by cases r with | nil => exact absurd rfl hr | cons => simp)⟩ h3) hd
        refine ⟨hb, by omega, fun hn => ?_⟩
        rcases Nat.eq_zero_or_pos m with h | h
        · subst h
          rw [digits_zero] at hb
          exact absurd ⟨by rw [← hb]; rfl, .inr hn⟩ h3
        · exact h
theorem refMag_digits {n : Nat} {neg : Bool} (h : n ≤ 2147483647) (h1 : neg = true → 1 ≤ n) : refMag (decDigits n) neg = some n := by
  unfold refMag
  have hl := digits_len 9 n (by omega)
  have hn : (decDigits n).length ≠ 0 := fun e => digits_ne n (List.eq_nil_of_length_eq_zero e)
  rw [if_neg]
  · unfold magOf
    rw [dec_digits]
    simp only
    rw [if_neg (by omega)]
  · simp only [not_or, not_and]
    refine ⟨hn, by omega, fun h48 => ?_⟩
    rcases Nat.eq_zero_or_pos n with e | e
    · subst e
      rw [digits_zero]
      simp
      cases neg
      · rfl
      · exact absurd (h1 rfl) (by omega)
    · obtain ⟨c, r, e', h2, h3⟩ := digits_first n e
      rw [e'] at h48
      simp at h48
      subst h48
      simp at h2
theorem itoa_pos (n : Nat) : itoa (n : Int) = decDigits n := itoa_nonneg n
theorem atoi_digits (n : Nat) (h : n ≤ 2147483647) : atoiAll (decDigits n) = .ok (n : Int) := by
  rw [atoiAll_short _ (by have := digits_len 9 n (by omega); omega)]
  have hd := dec_digits n
  have hne := digits_ne n
  have hne' : (decDigits n).isEmpty = false := by
    cases h : decDigits n with
    | nil => exact absurd h hne
    | cons => rfl
  have hN : decNat (decDigits n) = some n := by unfold decNat; rw [hne']; exact hd
  have hA : atoi (decDigits n) = some (n : Int) := by
    have hc : ∃ c r, decDigits n = c :: r ∧ 48 ≤ c.toNat := by
      rcases Nat.eq_zero_or_pos n with e | e
      · subst e; exact ⟨48, [], digits_zero, by decide⟩
      · obtain ⟨c, r, e', h2, h3⟩ := digits_first n e
        exact ⟨c, r, e', by omega⟩
    obtain ⟨c, r, e, hc⟩ := hc
    rw [e] at hN ⊢
    unfold atoi
    have e1 : (c == 45) = false := by
      rw [Bool.eq_false_iff]; intro h; rw [beq_iff_eq] at h; subst h; simp at hc
    have e2 : (c == 43) = false := by
      rw [Bool.eq_false_iff]; intro h; rw [beq_iff_eq] at h; subst h; simp at hc
    simp only [e1, e2, Bool.false_eq_true, if_false, hN, Option.map_some]
  rw [hA]; rfl
theorem atoi_neg (n : Nat) (h : n ≤ 2147483647) : atoiAll (45 :: decDigits n) = .ok (-(n : Int)) := by
  rw [atoiAll_short _ (by have := digits_len 9 n (by omega); simp; omega)]
  have hd := dec_digits n
  have hne := digits_ne n
  have hne' : (decDigits n).isEmpty = false := by
    cases h : decDigits n with
    | nil => exact absurd h hne
    | cons => rfl
  have hN : decNat (decDigits n) = some n := by unfold decNat; rw [hne']; exact hd
  unfold atoi
  simp [hN, NumEnd.ofOption]

theorem refNum_itoa {n : Int} (h1 : -2147483647 ≤ n) (h2 : n ≤ 2147483647) : refNum (itoa n) = some n ∧ atoiAll (itoa n) = .ok n := by
  by_cases hn : n < 0
  · obtain ⟨m, rfl⟩ : ∃ m : Nat, n = -(m : Int) := ⟨n.natAbs, by omega⟩
    rw [itoa_neg m (by omega)]
    refine ⟨?_, atoi_neg m (by omega)⟩
    unfold refNum
    simp only [List.head?_cons, if_true, List.tail_cons, refMag_digits (n := m) (neg := true) (by omega) (fun _ => by omega), Option.map_some]
  · obtain ⟨m, rfl⟩ : ∃ m : Nat, n = (m : Int) := ⟨n.toNat, by omega⟩
    rw [itoa_pos]
    refine ⟨?_, atoi_digits m (by omega)⟩
    unfold refNum
    have hh : (decDigits m).head? ≠ some 45 := by
      rcases Nat.eq_zero_or_pos m with e | e
      · subst e; rw [digits_zero]; decide
      · obtain ⟨c, r, e', h3, h4⟩ := digits_first m e
        rw [e']; simp; intro e; subst e; simp at h3
    rw [if_neg hh, refMag_digits (n := m) (neg := false) (by omega) (fun h => by cases h)]
    rfl
theorem refNum_some {l : List UInt8} {n : Int} (h : refNum l = some n) : l = itoa n ∧ -2147483647 ≤ n ∧ n ≤ 2147483647 := by
  unfold refNum at h
  split at h
  · rename_i h45
    obtain ⟨m, hm, rfl⟩ := Option.map_eq_some_iff.1 h
    obtain ⟨e, hle, h1⟩ := refMag_some hm
    have h1 := h1 rfl
    rw [itoa_neg m h1, e]
    refine ⟨?_, by omega, by omega⟩
    cases l with
    | nil => cases h45
    | cons c r => simp at h45; subst h45; rfl
  · obtain ⟨m, hm, rfl⟩ := Option.map_eq_some_iff.1 h
    obtain ⟨e, hle, h1⟩ := refMag_some hm
    rw [itoa_pos, e]
    exact ⟨rfl, by omega, by omega⟩
theorem own_eq_ref (l : List UInt8) : ownNum l = refNum l := by
  cases hr : refNum l with
  | some n =>
    obtain ⟨e, h1, h2⟩ := refNum_some hr
    have ha := (refNum_itoa h1 h2).2
    rw [← e] at ha
    unfold ownNum
    rw [ha]
    simp only
    rw [if_pos ⟨e.symm, by simp [bnd31, h1, h2]⟩]
  | none =>
    unfold ownNum
    cases ha : atoiAll l
    · rename_i n
      simp only
      rw [if_neg]
      rintro ⟨e, hb⟩
      simp [bnd31] at hb
      have := (refNum_itoa hb.1 hb.2).1
      rw [e, hr] at this
      cases this
    · rfl
    · rfl
theorem own_itoa {n : Int} (h1 : -2147483647 ≤ n) (h2 : n ≤ 2147483647) : ownNum (itoa n) = some n := by rw [own_eq_ref]; exact (refNum_itoa h1 h2).1
end Go.Proofs.YtiffmiabhapfnaaGreatDoor

/- value.Parse and the document's: at every text. -/
namespace Go.Proofs.YtiffmiabhapfnaaGreatDoor
open Go.RowKit
def gv0 : GV := ⟨0, 0, ⟨#[]⟩⟩
theorem toList_mk (l : List UInt8) : (⟨l.toArray⟩ : ByteArray).toList = l := by rw [ByteArray.toList_eq]
theorem bytes_back (s : ByteArray) : (⟨s.toList.toArray⟩ : ByteArray) = s := by
  rw [ByteArray.toList_eq]

/-- the value of a text -/
def parseO (s : ByteArray) : Option GV := if nameOk s then some ⟨2, 0, s⟩ else (refNum s.toList).map fun n => ⟨1, n, ⟨#[]⟩⟩
def parseG (s : ByteArray) : GV := (parseO s).getD gv0
theorem parse_name {s : ByteArray} (h : nameOk s = true) : parseO s = some ⟨2, 0, s⟩ := by simp [parseO, h]
theorem parse_num {s : ByteArray} (h : nameOk s = false) : parseO s = (refNum s.toList).map fun n => ⟨1, n, ⟨#[]⟩⟩ := by simp [parseO, h]
theorem parse_none {s : ByteArray} (h : nameOk s = false) (h2 : refNum s.toList = none) : parseO s = none := by rw [parse_num h, h2]; rfl
theorem parse_some {s : ByteArray} {n : Int} (h : nameOk s = false) (h2 : refNum s.toList = some n) : parseO s = some ⟨1, n, ⟨#[]⟩⟩ := by rw [parse_num h, h2]; rfl

theorem ba_get {s : ByteArray} {k : Nat} (h : k < s.size) : s.toList[k]? = some (s[k]'h) := by
  rw [ByteArray.toList_eq, List.getElem?_eq_getElem (h := show k < s.data.toList.length from by simpa using h)]
  rfl
theorem ba_len (s : ByteArray) : s.toList.length = s.size := by rw [ByteArray.toList_eq]; rfl
theorem ba_head {s : ByteArray} (h : 0 < s.size) : s.toList.head? = some (s[0]'h) := by
  rw [List.head?_eq_getElem?]; exact ba_get h
theorem ba_tail (s : ByteArray) : (s.extract 1 s.size).toList = s.toList.tail := by
  rw [ByteArray.toList_eq, ByteArray.toList_eq, ByteArray.data_extract, Array.toList_extract]
  show List.take (s.size - 1) (s.data.toList.drop 1) = _
  rw [List.drop_one, List.take_of_length_le]
  rw [List.length_tail]; exact Nat.le_refl _

/-- the piece of the document's Parse behind the sign: the loop over the digits -/
theorem digit_none {t : ByteArray} {k : Nat} (hk : k < t.size) (h : ¬ (48 ≤ (t[k]'hk).toNat ∧ (t[k]'hk).toNat ≤ 57)) : Lib.decFrom 0 t.toList = none := by
  cases hd : Lib.decFrom 0 t.toList with
  | none => rfl
  | some n =>
    obtain ⟨d, hd'⟩ := Lib.digit_of_decFrom _ _ _ hd k _ (ba_get hk)
    unfold Lib.digitVal at hd'
    rw [if_neg h] at hd'
    cases hd'

def sgn (neg : Bool) : Int := if neg then -1 else 1
theorem refNum_mag (l : List UInt8) : refNum l = (refMag (if l.head? = some 45 then l.tail else l) (decide (l.head? = some 45))).map fun (n : Nat) => sgn (decide (l.head? = some 45)) * (n : Int) := by
  unfold refNum
  by_cases h : l.head? = some 45
  · simp only [h, if_true, decide_true, sgn]
    congr 1; funext n; omega
  · simp only [h, if_false, decide_false, sgn]
    congr 1; funext n; simp

set_option maxRecDepth 100000 in
set_option maxHeartbeats 2000000 in
theorem refParse_any (s : ByteArray) (hs : s.size ≤ 140737488351232) (w : World) : Calls Tryz.prog 120 #[.string s] w (RetV (.tuple #[(parseG s).v, .bool (parseO s).isSome]) w) := by
  have hn := fun w => refNameQ_any s hs w
  cases hN : nameOk s with
  | true =>
    rw [hN] at hn
    have hn := Lib.hid hn
    rw [show parseG s = ⟨2, 0, s⟩ by simp [parseG, parse_name hN], show (parseO s).isSome = true by simp [parse_name hN]]
    clear hN
    go_enter Tryz.func120, Tryz.ntmps120
    go_wp2_with fail
    refine (hn.out _).mono ?_
    rintro e w1 ⟨rfl, rfl⟩
    go_wp2_with fail
    exact bodyPost_ret (v := .tuple #[(⟨2, 0, s⟩ : GV).v, .bool true]) (by simp [results, Tryz.results120, go_sem]) rfl ⟨rfl, belowA (Below.refl _ _) _⟩
  | false =>
    rw [hN] at hn
    have hn := Lib.hid hn
    obtain ⟨sg, t, neg, hsg, ht, htl, hr, hneg⟩ : ∃ (sg : Int) (t : ByteArray) (neg : Bool), Hid (sg = sgn neg) ∧ t.size ≤ 140737488351232 ∧ Hid (t = (if neg then s.extract 1 s.size else s)) ∧ Hid (refNum s.toList = (refMag t.toList neg).map fun (n : Nat) => sg * (n : Int)) ∧ Hid (neg = decide (s.toList.head? = some 45)) := by
      refine ⟨_, _, decide (s.toList.head? = some 45), rfl, ?_, rfl, ?_, rfl⟩
      · split
        · have : (s.extract 1 s.size).size ≤ s.size := by rw [ByteArray.size_extract]; omega
          omega
        · exact hs
      · show _ = _
        rw [refNum_mag]
        by_cases h : s.toList.head? = some 45
        · simp only [h, if_true, decide_true, ba_tail]
        · simp only [h, if_false, decide_false, Bool.false_eq_true]
    have hno : refMag t.toList neg = none → parseG s = gv0 ∧ (parseO s).isSome = false := by
      intro h
      have := parse_none hN (by rw [hr.out, h]; rfl)
      simp [parseG, this]
    have hyes : ∀ n : Nat, refMag t.toList neg = some n → parseG s = ⟨1, sg * n, ⟨#[]⟩⟩ ∧ (parseO s).isSome = true := by
      intro n h
      have := parse_some hN (n := sg * n) (by rw [hr.out, h]; rfl)
      simp [parseG, this]
    have Hno := Lib.hid hno
    have Hyes := Lib.hid hyes
    generalize parseG s = pg at Hno Hyes ⊢
    generalize (parseO s).isSome = po at Hno Hyes ⊢
    clear hs hno hyes hN hr
    go_enter Tryz.func120, Tryz.ntmps120
    go_wp2_with fail
    refine (hn.out _).mono ?_
    rintro e w1 ⟨rfl, rfl⟩
    go_upto_region 4 with fail
    go_cut [20] (fun x W => x = .bool neg ∧ W = w.alloc (.cells #[.int .i64 0, .int .i64 0, .string ⟨#[]⟩] 24))
    case first =>
      by_cases h0 : 0 < s.size
      · have i0 : (0 : Int) < (s.size : Int) := by omega
        have hb : (((s[0]'h0).toNat : Int) == 45) = neg := by
          rw [hneg.out, ba_head h0, Bool.eq_iff_iff]
          simp [← UInt8.toNat_inj]; omega
        go_wp2_with fail
        go_meet
        exact ⟨by simp, rfl⟩
      · have hb : neg = false := by
          rw [hneg.out]
          have : s.toList = [] := List.eq_nil_of_length_eq_zero (by rw [ba_len]; omega)
          rw [this]; rfl
        subst hb
        have i0 : ¬ (0 : Int) < (s.size : Int) := by omega
        go_wp2_with fail
        go_meet
        exact ⟨by simp, rfl⟩
    case rest =>
    obtain ⟨rfl, rfl⟩ := hcut
    go_upto_if 20 with fail
    go_cut [4, 5] (fun x y W => x = .string t ∧ y = .int .i64 sg ∧ W = w.alloc (.cells #[.int .i64 0, .int .i64 0, .string ⟨#[]⟩] 24))
    case first =>
      cases neg with
      | true =>
        have h0 : 1 ≤ s.size := by
          rcases Nat.eq_zero_or_pos s.size with h | h
          · have : s.toList = [] := List.eq_nil_of_length_eq_zero (by rw [ba_len]; exact h)
            have := hneg.out
            simp [*] at this
          · exact h
        have e1 : t = s.extract 1 s.size := by have := htl.out; simpa using this
        have e2 : sg = -1 := by have := hsg.out; simpa [sgn] using this
        subst e1 e2
        go_wp2_with fail
        go_meet
        exact ⟨by simp, rfl, rfl⟩
      | false =>
        have e1 : t = s := by have := htl.out; simpa using this
        have e2 : sg = 1 := by have := hsg.out; simpa [sgn] using this
        subst e1 e2
        go_wp2_with fail
        go_meet
        exact ⟨by simp, rfl, rfl⟩
    case rest =>
    obtain ⟨rfl, rfl, rfl⟩ := hcut
    clear htl hneg hn
    obtain ⟨bad, hbad⟩ : ∃ bad, Hid (bad = decide (t.toList.length = 0 ∨ 10 < t.toList.length ∨ (t.toList.head? = some 48 ∧ (1 < t.toList.length ∨ neg = true)))) := ⟨_, rfl⟩
    go_upto_region 6 with fail
    go_cut [44] (fun x W => x = .bool bad ∧ W = w.alloc (.cells #[.int .i64 0, .int .i64 0, .string ⟨#[]⟩] 24))
    case first =>
      have hB := hbad.out
      rw [ba_len] at hB
      by_cases h0 : t.size = 0
      · have hb : bad = true := by rw [hB]; simp [h0]
        have z0 : ((t.size : Int) == 0) = true := by simp [h0]
        subst hb
        clear hB h0
        go_wp2_with fail
        go_meet
        exact ⟨by simp, rfl⟩
      · have z0 : ((t.size : Int) == 0) = false := by simp [h0]
        by_cases h1 : 10 < t.size
        · have hb : bad = true := by rw [hB]; simp [h1]
          have i0 : (10 : Int) < (t.size : Int) := by omega
          subst hb
          clear hB h0 h1
          go_wp2_with fail
          go_meet
          exact ⟨by simp, rfl⟩
        · have i0 : ¬ (10 : Int) < (t.size : Int) := by omega
          have hp : 0 < t.size := by omega
          have hhd := ba_head hp
          by_cases h2 : t[0]'hp = 48
          · have z1 : (((t[0]'hp).toNat : Int) == 48) = true := by rw [h2]; rfl
            rw [hhd, h2] at hB
            by_cases h3 : 1 < t.size
            · have hb : bad = true := by rw [hB]; simp [h3]
              have i1 : (1 : Int) < (t.size : Int) := by omega
              subst hb
              clear hB h0 h1 h2 hhd h3
              go_wp2_with fail
              go_meet
              exact ⟨by simp, rfl⟩
            · have i1 : ¬ (1 : Int) < (t.size : Int) := by omega
              have hb : bad = neg := by rw [hB]; simp [h0, h1, h3]
              have e2 := hsg.out
              clear hB h0 h1 h2 hhd h3
              cases neg with
              | true =>
                have e2 : sg = -1 := by simpa [sgn] using e2
                subst hb e2
                go_wp2_with fail
                go_meet
                exact ⟨by simp [sgn] <;> omega, rfl⟩
              | false =>
                have e2 : sg = 1 := by simpa [sgn] using e2
                subst hb e2
                go_wp2_with fail
                go_meet
                exact ⟨by simp [sgn] <;> omega, rfl⟩
          · have z1 : (((t[0]'hp).toNat : Int) == 48) = false := by
              rw [Bool.eq_false_iff]; intro h; rw [beq_iff_eq] at h
              exact h2 (UInt8.toNat_inj.1 (by have : (48 : UInt8).toNat = 48 := rfl; omega))
            have hb : bad = false := by rw [hB, hhd]; simp [h0, h1, h2]
            subst hb
            clear hB h0 h1 h2 hhd
            go_wp2_with fail
            go_meet
            exact ⟨by simp, rfl⟩
    case rest =>
    obtain ⟨rfl, rfl⟩ := hcut
    have hmag : Hid (refMag t.toList neg = if bad = true then none else magOf t.toList) := by
      rw [hbad.out]; show refMag _ _ = _; unfold refMag; simp only [decide_eq_true_eq]
    have hle : bad = false → t.size ≤ 10 := by
      intro h
      have := hbad.out
      rw [h, ba_len] at this
      have := (decide_eq_false_iff_not.1 this.symm)
      omega
    have HsE := Lib.hid (show sg = 1 ∨ sg = -1 by rw [hsg.out]; unfold sgn; split <;> simp)
    clear hbad hsg
    cases bad with
    | true =>
      obtain ⟨rfl, rfl⟩ := Hno.out (by rw [hmag.out]; rfl)
      clear hmag Hno Hyes hle
      go_wp2_with fail
      exact bodyPost_ret (v := .tuple #[gv0.v, .bool false]) (by simp [results, Tryz.results120, go_sem, gv0]) rfl ⟨rfl, belowA (Below.refl _ _) _⟩
    | false =>
    have hle := hle rfl
    have hmag : Hid (refMag t.toList neg = magOf t.toList) := hmag.out
    generalize refMag t.toList neg = rm at hmag Hno Hyes
    go_wp2_with fail
    go_loop [6, 7] (fun x i => ∃ k a : Nat, k ≤ t.size ∧ a < 10000000000 ∧ x = .int .i64 a ∧ i = .int .i64 k ∧ Hid (Lib.decFrom 0 (t.toList.take k) = some a)) (fun _ i => t.size - (intOf i).toNat)
    case atStart => exact ⟨0, 0, by omega, by omega, rfl, rfl, rfl⟩
    case round =>
      obtain ⟨k, a, hk, ha, rfl, rfl, hm⟩ := hrel
      by_cases hlt : k < t.size
      · have i0 : (0 : Int) ≤ (k : Int) := by omega
        have i1 : (k : Int) < (t.size : Int) := by omega
        have ha9 : a < 1000000000 := by
          have h1 := Lib.decFrom_lt _ _ _ hm.out
          rw [List.length_take, ba_len, Nat.min_eq_left (by omega)] at h1
          have h2 : 10 ^ k ≤ 10 ^ 9 := Nat.pow_le_pow_right (by omega) (by omega)
          have h3 : (10 : Nat) ^ 9 = 1000000000 := by decide
          omega
        clear ha
        by_cases h1 : 48 ≤ (t[k]'hlt).toNat
        · by_cases h2 : (t[k]'hlt).toNat ≤ 57
          · have hst := Lib.hid (Lib.decFrom_take t.toList k 0 a (t[k]'hlt) ((t[k]'hlt).toNat - 48) hm.out (ba_get hlt) (by unfold Lib.digitVal; rw [if_pos ⟨h1, h2⟩]))
            clear hm
            go_wp2_with fail
            refine ⟨⟨k + 1, 10 * a + ((t[k]'hlt).toNat - 48), by omega, by omega, ?_, by go_num, ?_⟩, by simp [intOf]; omega⟩
            · congr 1; omega
            · show _ = _
              rw [hst.out]; congr 1; omega
          · obtain ⟨rfl, rfl⟩ := Hno.out (by rw [hmag.out]; unfold magOf; rw [digit_none hlt (fun h => h2 h.2)])
            have i2 : (57 : Int) < ((t[k]'hlt).toNat : Int) := by omega
            clear hmag Hno Hyes hm hle
            go_wp2_with fail
            exact bodyPost_ret (v := .tuple #[gv0.v, .bool false]) (by simp [results, Tryz.results120, go_sem, gv0]) rfl ⟨rfl, belowA (Below.refl _ _) _⟩
        · obtain ⟨rfl, rfl⟩ := Hno.out (by rw [hmag.out]; unfold magOf; rw [digit_none hlt (fun h => h1 h.1)])
          have i2 : ((t[k]'hlt).toNat : Int) < 48 := by omega
          clear hmag Hno Hyes hm hle
          go_wp2_with fail
          exact bodyPost_ret (v := .tuple #[gv0.v, .bool false]) (by simp [results, Tryz.results120, go_sem, gv0]) rfl ⟨rfl, belowA (Below.refl _ _) _⟩
      · have i1 : ¬ (k : Int) < (t.size : Int) := by omega
        have hd : Lib.decFrom 0 t.toList = some a := by
          rw [← hm.out, List.take_of_length_le (by rw [ba_len]; omega)]
        have hmg : rm = if 2147483647 < a then none else some a := by rw [hmag.out]; unfold magOf; rw [hd]
        clear hm hmag hd
        by_cases h1 : 2147483647 < a
        · rw [if_pos h1] at hmg
          obtain ⟨rfl, rfl⟩ := Hno.out hmg
          have i2 : (2147483647 : Int) < (a : Int) := by omega
          clear Hno Hyes hmg hle
          go_wp2_with fail
          exact bodyPost_ret (v := .tuple #[gv0.v, .bool false]) (by simp [results, Tryz.results120, go_sem, gv0]) rfl ⟨rfl, belowA (Below.refl _ _) _⟩
        · rw [if_neg h1] at hmg
          obtain ⟨rfl, rfl⟩ := Hyes.out a hmg
          have i2 : ¬ (2147483647 : Int) < (a : Int) := by omega
          clear Hno Hyes hmg hle
          rcases HsE.out with rfl | rfl
          · go_wp2_with fail
            exact bodyPost_ret (v := .tuple #[(⟨1, (a : Int), ⟨#[]⟩⟩ : GV).v, .bool true]) (by simp [results, Tryz.results120, go_sem]) rfl ⟨rfl, belowA (Below.refl _ _) _⟩
          · go_wp2_with fail
            exact bodyPost_ret (v := .tuple #[(⟨1, -(a : Int), ⟨#[]⟩⟩ : GV).v, .bool true]) (by simp [results, Tryz.results120, go_sem]) rfl ⟨rfl, belowA (Below.refl _ _) _⟩

/-! ### strconv.Atoi at every text -/
def ErrIs (W : World) (g : Nat) : Prop := ∃ tp p, W.cell? ⟨g, 0, none⟩ = some (.iface tp p)
def ErrW (W : World) : Prop := ErrIs W 3 ∧ ErrIs W 4
theorem ErrW.on {W W' : World} (h : ErrW W) (hb : Below W.heap.size W W') : ErrW W' := by
  obtain ⟨⟨t1, p1, h1⟩, ⟨t2, p2, h2⟩⟩ := h
  exact ⟨⟨t1, p1, below_cell hb h1⟩, ⟨t2, p2, below_cell hb h2⟩⟩
def AtoiPost (s : ByteArray) (w : World) (e : Ending) (w' : World) : Prop :=
  ∃ n : Int, ∃ ev : Value, fits n ∧ e = .returned (.tuple #[.int .i64 n, ev]) ∧ Below w.heap.size w w' ∧
    ((Lib.atoiAll s.toList = .ok n ∧ ev = .nilIface) ∨ ((∀ m, Lib.atoiAll s.toList ≠ .ok m) ∧ ∃ T p, ev = .iface T p))
theorem fits_of {n : Int} (h1 : -9223372036854775808 ≤ n) (h2 : n ≤ 9223372036854775807) : fits n := (fits_iff n).2 ⟨h1, h2⟩
theorem atoi_any (s : ByteArray) (hs : s.size ≤ 140737488351232) (w : World) (h : ErrW w) : Calls Tryz.prog 116 #[.string s] w (AtoiPost s w) := by
  obtain ⟨⟨t1, p1, h1⟩, ⟨t2, p2, h2⟩⟩ := h
  have el : s.data.toList = s.toList := (ByteArray.toList_eq s).symm
  cases ha : Lib.atoiAll s.toList
  · rename_i v
    refine (Tryz.strconv_Atoi_ok s (by omega) v (by rw [el]; exact ha) w).mono ?_
    rintro e w' ⟨rfl, hw⟩
    have hb := Lib.atoiAll_bounds ha
    refine ⟨v, .nilIface, fits_of hb.1 hb.2, rfl, ?_, .inl ⟨ha, rfl⟩⟩
    rcases hw with rfl | ⟨t, rfl⟩
    · exact Below.refl _ _
    · exact Lib.bytesWorld_below _ _ _
  · refine (Any.strconv_Atoi_syntax Tryz.laysC172 s (by omega) (by rw [el]; exact ha) _ w h1 (.inr ⟨_, _, rfl⟩)).mono ?_
    rintro e w' ⟨N, rfl, -, -, hb⟩
    exact ⟨0, _, by unfold fits; decide, rfl, hb, .inr ⟨(fun m e => by rw [ha] at e; cases e), _, _, rfl⟩⟩
  · refine (Any.strconv_Atoi_range Tryz.laysC172 s (by omega) (by rw [el]; exact ha) _ w h2 (.inr ⟨_, _, rfl⟩)).mono ?_
    rintro e w' ⟨N, rfl, -, -, hb⟩
    exact ⟨_, _, by unfold Lib.atoiSat; split <;> (unfold fits; decide), rfl, hb, .inr ⟨(fun m e => by rw [ha] at e; cases e), _, _, rfl⟩⟩

end Go.Proofs.YtiffmiabhapfnaaGreatDoor

/- lex: bytes, run, skip: what each computes. -/
namespace Go.Proofs.YtiffmiabhapfnaaGreatDoor
open Go.RowKit

/-! ### bytes of a string -/
theorem ba_ext (s : ByteArray) (a b : Nat) : (s.extract a b).toList = (s.toList.take b).drop a := by
  rw [ByteArray.toList_eq, ByteArray.toList_eq, ByteArray.data_extract, Array.toList_extract]
  show List.take (b - a) (s.data.toList.drop a) = _
  rw [List.drop_take]
theorem ba_drop (s : ByteArray) (a : Nat) : (s.extract a s.size).toList = s.toList.drop a := by
  rw [ba_ext, List.take_of_length_le (by rw [ba_len]; exact Nat.le_refl _)]
theorem ba_take (s : ByteArray) (b : Nat) : (s.extract 0 b).toList = s.toList.take b := by rw [ba_ext]; rfl
theorem ba_eq {s : ByteArray} {l : List UInt8} (h : s.toList = l) : s = ⟨l.toArray⟩ := by rw [← h]; exact (bytes_back s).symm

def greatB (n : Nat) : Bool := decide (65 ≤ n) && decide (n ≤ 90)
def figB (n : Nat) : Bool := decide (48 ≤ n) && decide (n ≤ 57)
theorem insB_eq (c : UInt8) : insB c = (lowB c.toNat || greatB c.toNat || figB c.toNat || decide (c.toNat = 95)) := rfl
set_option maxRecDepth 100000 in
theorem small_any (r : Nat) (w : World) : Calls Tryz.prog 113 #[.int .u8 r] w (RetSameB (lowB r) w) := by
  by_cases h1 : (97 : Int) ≤ r <;> by_cases h2 : (r : Int) ≤ 122 <;> (try (exfalso; omega))
  all_goals
    go_enter Tryz.func113, Tryz.ntmps113
    go_wp2
    go_ret
    exact ⟨by simp [lowB]; omega, rfl⟩
set_option maxRecDepth 100000 in
theorem great_any (r : Nat) (w : World) : Calls Tryz.prog 114 #[.int .u8 r] w (RetSameB (greatB r) w) := by
  by_cases h1 : (65 : Int) ≤ r <;> by_cases h2 : (r : Int) ≤ 90 <;> (try (exfalso; omega))
  all_goals
    go_enter Tryz.func114, Tryz.ntmps114
    go_wp2
    go_ret
    exact ⟨by simp [greatB]; omega, rfl⟩
set_option maxRecDepth 100000 in
theorem figure_any (r : Nat) (w : World) : Calls Tryz.prog 115 #[.int .u8 r] w (RetSameB (figB r) w) := by
  by_cases h1 : (48 : Int) ≤ r <;> by_cases h2 : (r : Int) ≤ 57 <;> (try (exfalso; omega))
  all_goals
    go_enter Tryz.func115, Tryz.ntmps115
    go_wp2
    go_ret
    exact ⟨by simp [figB]; omega, rfl⟩

/-! ### run -/
theorem ins_run : ∀ (l : List UInt8) (k : Nat) (c : UInt8), k ≤ runL l → l[k]? = some c → insB c = true → k + 1 ≤ runL l
  | [], k, c, h, hc, hi => by simp at hc
  | d :: r, 0, c, h, hc, hi => by
    simp at hc; subst hc
    simp [runL, hi]
  | d :: r, k + 1, c, h, hc, hi => by
    unfold runL at h ⊢
    rw [List.takeWhile_cons] at h ⊢
    cases hd : insB d with
    | false => rw [hd] at h; simp at h
    | true =>
      rw [hd] at h
      simp only [if_true, List.length_cons] at h ⊢
      have := ins_run r k c (by unfold runL; omega) (by simpa using hc) hi
      unfold runL at this; omega
theorem run_out : ∀ (l : List UInt8) (k : Nat) (c : UInt8), k ≤ runL l → l[k]? = some c → insB c = false → runL l = k
  | [], k, c, h, hc, hi => by simp at hc
  | d :: r, 0, c, h, hc, hi => by
    simp at hc; subst hc
    simp [runL, hi]
  | d :: r, k + 1, c, h, hc, hi => by
    unfold runL at h ⊢
    rw [List.takeWhile_cons] at h ⊢
    cases hd : insB d with
    | false => rw [hd] at h; simp at h
    | true =>
      rw [hd] at h
      simp only [if_true, List.length_cons] at h ⊢
      have := run_out r k c (by unfold runL; omega) (by simpa using hc) hi
      unfold runL at this; omega
def RetSame' (n : Int) (w : World) (e : Ending) (w' : World) : Prop := e = .returned (.int .i64 n) ∧ w' = w

set_option maxRecDepth 100000 in
set_option maxHeartbeats 2000000 in
theorem run_any (s : ByteArray) (hs : s.size ≤ 140737488351232) (w : World) : Calls Tryz.prog 98 #[.string s] w (RetSame' (runL s.toList) w) := by
  have Hle := Lib.hid (runL_le s.toList)
  have Hlen := Lib.hid (ba_len s)
  obtain ⟨R, HR⟩ : ∃ R, Hid (R = runL s.toList) := ⟨_, rfl⟩
  rw [← HR.out]
  have Hs := Lib.hid (fun r => small_any r w)
  have Hg := Lib.hid (fun r => great_any r w)
  have Hf := Lib.hid (fun r => figure_any r w)
  go_enter Tryz.func98, Tryz.ntmps98
  go_wp2
  go_loop [3] (fun i => ∃ k : Nat, k ≤ s.size ∧ i = .int .i64 k ∧ Hid (k ≤ runL s.toList)) (fun i => s.size - (intOf i).toNat)
  case atStart => exact ⟨0, by omega, rfl, Nat.zero_le _⟩
  case round =>
    obtain ⟨k, hk, rfl, HK⟩ := hrel
    by_cases hlt : k < s.size
    · have i0 : (0 : Int) ≤ (k : Int) := by omega
      have i1 : (k : Int) < (s.size : Int) := by omega
      have Hc := Lib.hid (ba_get hlt)
      have HN : Hid (insB (s[k]'hlt) = true → k + 1 ≤ runL s.toList) := fun h => ins_run _ _ _ HK.out Hc.out h
      have HF : Hid (insB (s[k]'hlt) = false → R = k) := fun h => by rw [HR.out]; exact run_out _ _ _ HK.out Hc.out h
      have HE := Lib.hid (insB_eq (s[k]'hlt))
      cases h1 : lowB (s[k]'hlt).toNat with
      | true =>
        have HI : Hid (insB (s[k]'hlt) = true) := by show _ = _; rw [HE.out]; simp [h1]
        go_wp2_with (go_at_call 113; refine (Hs.out _).mono ?_; rintro e w1 ⟨rfl, rfl⟩)
        go_round
        case rel => exact ⟨k + 1, by omega, by go_num, HN.out HI.out⟩
        case measure => simp [intOf]; omega
      | false =>
      cases h2 : greatB (s[k]'hlt).toNat with
      | true =>
        have HI : Hid (insB (s[k]'hlt) = true) := by show _ = _; rw [HE.out]; simp [h2]
        go_wp2_with (first | (go_at_call 113; refine (Hs.out _).mono ?_; rintro e w1 ⟨rfl, rfl⟩) | (go_at_call 114; refine (Hg.out _).mono ?_; rintro e w1 ⟨rfl, rfl⟩))
        go_round
        case rel => exact ⟨k + 1, by omega, by go_num, HN.out HI.out⟩
        case measure => simp [intOf]; omega
      | false =>
      cases h3 : figB (s[k]'hlt).toNat with
      | true =>
        have HI : Hid (insB (s[k]'hlt) = true) := by show _ = _; rw [HE.out]; simp [h3]
        go_wp2_with (first | (go_at_call 113; refine (Hs.out _).mono ?_; rintro e w1 ⟨rfl, rfl⟩) | (go_at_call 114; refine (Hg.out _).mono ?_; rintro e w1 ⟨rfl, rfl⟩) | (go_at_call 115; refine (Hf.out _).mono ?_; rintro e w1 ⟨rfl, rfl⟩))
        go_round
        case rel => exact ⟨k + 1, by omega, by go_num, HN.out HI.out⟩
        case measure => simp [intOf]; omega
      | false =>
      by_cases h4 : (s[k]'hlt).toNat = 95
      · have HI : Hid (insB (s[k]'hlt) = true) := by show _ = _; rw [HE.out]; simp [h4]
        have z5 : (((s[k]'hlt).toNat : Int) == 95) = true := by simp; omega
        clear h4
        go_wp2_with (first | (go_at_call 113; refine (Hs.out _).mono ?_; rintro e w1 ⟨rfl, rfl⟩) | (go_at_call 114; refine (Hg.out _).mono ?_; rintro e w1 ⟨rfl, rfl⟩) | (go_at_call 115; refine (Hf.out _).mono ?_; rintro e w1 ⟨rfl, rfl⟩))
        go_round
        case rel => exact ⟨k + 1, by omega, by go_num, HN.out HI.out⟩
        case measure => simp [intOf]; omega
      · have HI : Hid (insB (s[k]'hlt) = false) := by show _ = _; rw [HE.out]; simp [h1, h2, h3, h4]
        have z5 : (((s[k]'hlt).toNat : Int) == 95) = false := by simp; omega
        clear h4
        go_wp2_with (first | (go_at_call 113; refine (Hs.out _).mono ?_; rintro e w1 ⟨rfl, rfl⟩) | (go_at_call 114; refine (Hg.out _).mono ?_; rintro e w1 ⟨rfl, rfl⟩) | (go_at_call 115; refine (Hf.out _).mono ?_; rintro e w1 ⟨rfl, rfl⟩))
        go_ret
        exact ⟨by rw [HF.out HI.out]; rfl, rfl⟩
    · have i1 : ¬ (k : Int) < (s.size : Int) := by omega
      have HE : Hid (R = k) := by
        show _ = _
        have h1 := HK.out; have h2 := Hle.out; have h3 := Hlen.out; have h4 := HR.out
        omega
      go_wp2_with fail
      go_ret
      exact ⟨by rw [HE.out]; rfl, rfl⟩
end Go.Proofs.YtiffmiabhapfnaaGreatDoor

/- lex.skip, over strings.IndexByte and strings.Cut. -/
namespace Go.Proofs.YtiffmiabhapfnaaGreatDoor
open Go.RowKit

theorem idx_byte (c : UInt8) : ∀ l : List UInt8, Lib.indexByte l c = if c ∈ l then ((l.takeWhile (· != c)).length : Int) else -1
  | [] => by simp [Lib.indexByte]
  | d :: l => by
    have ih := idx_byte c l
    unfold Lib.indexByte
    by_cases h : d = c
    · subst h; simp
    · have h1 : (d == c) = false := by simpa using h
      have h2 : (d != c) = true := by simpa using h
      rw [h1, ih, List.takeWhile_cons, h2]
      by_cases hm : c ∈ l
      · have h3 : ¬ (((l.takeWhile (· != c)).length : Int) == -1) = true := by simp
        simp [hm, h3]
      · have h4 : ¬ c ∈ d :: l := by simp [hm, Ne.symm h]
        simp [hm, h4]
theorem idx_blank (c : UInt8) : decide (0 ≤ Lib.indexByte [9, 10, 13, 32] c) = blankB c := by
  rw [idx_byte]
  unfold blankB
  by_cases h : c = 9 ∨ c = 10 ∨ c = 13 ∨ c = 32
  · rcases h with rfl | rfl | rfl | rfl <;> simp
  · simp only [not_or] at h
    simp [h]
theorem take_ne (l : List UInt8) (h : (10 : UInt8) ∉ l) : l.takeWhile (· != 10) = l := by
  induction l with
  | nil => rfl
  | cons d l ih =>
    simp only [List.mem_cons, not_or] at h
    rw [List.takeWhile_cons]
    have : (d != 10) = true := by simpa using Ne.symm h.1
    rw [this, if_pos rfl, ih h.2]
theorem take_lt (l : List UInt8) (h : (10 : UInt8) ∈ l) : (l.takeWhile (· != 10)).length + 1 ≤ l.length := by
  induction l with
  | nil => cases h
  | cons d l ih =>
    rw [List.takeWhile_cons]
    by_cases hd : d = 10
    · subst hd; simp
    · have : (d != 10) = true := by simpa using hd
      rw [this, if_pos rfl]
      have := ih (by simpa [Ne.symm hd] using h)
      simp only [List.length_cons]; omega

set_option maxRecDepth 100000 in
set_option maxHeartbeats 1000000 in
theorem idx10_any (s : ByteArray) (hne : (([10] : List UInt8) == s.toList) = false) (w : World) : Calls Tryz.prog 125 #[.string s, .string ⟨#[10]⟩] w (RetSame' (Lib.indexByte s.toList 10) w) := by
  have HI : Hid (∀ w, Calls Tryz.prog 111 #[.string s, .int .u8 10] w (RetSame' (Lib.indexByte s.toList 10) w)) := by
    intro w
    have h := Any.stringslite_IndexByte { Tryz.lays137 with } s 10 w
    rw [← ByteArray.toList_eq] at h
    exact h
  generalize Lib.indexByte s.toList 10 = R at HI ⊢
  go_enter Tryz.func125, Tryz.ntmps125
  go_wp2_with (go_at_call 111; refine (HI.out _).mono ?_; rintro e w1 ⟨rfl, rfl⟩)
  go_ret
  exact ⟨rfl, rfl⟩

def CutPost (s : ByteArray) (w : World) (e : Ending) (w' : World) : Prop := ∃ (a : ByteArray) (b c : Value), e = .returned (.tuple #[.string a, b, c]) ∧ a.size = (s.toList.takeWhile (· != 10)).length ∧ Below w.heap.size w w'
set_option maxRecDepth 100000 in
set_option maxHeartbeats 1000000 in
theorem cutL_any (s : ByteArray) (hs : s.size ≤ 140737488351232) (hne : (([10] : List UInt8) == s.toList) = false) (w : World) : Calls Tryz.prog 112 #[.string s, .string ⟨#[10]⟩] w (CutPost s w) := by
  have HI := Lib.hid (idx10_any s hne)
  have Hlen := Lib.hid (ba_len s)
  by_cases hm : (10 : UInt8) ∈ s.toList
  · have hlt := take_lt _ hm
    have e1 : Lib.indexByte s.toList 10 = ((s.toList.takeWhile (· != 10)).length : Int) := by rw [idx_byte, if_pos hm]
    rw [e1] at HI
    obtain ⟨k, hk⟩ : ∃ k, Hid (k = (s.toList.takeWhile (· != 10)).length) := ⟨_, rfl⟩
    have hks : k + 1 ≤ s.size := by have := hk.out; have := Hlen.out; omega
    rw [← hk.out] at HI
    have c1 : (0 : Int) ≤ (k : Int) := by omega
    have c2 : (k : Int) ≤ (s.size : Int) := by omega
    have c3 : (0 : Int) ≤ (k : Int) + 1 := by omega
    have c4 : (k : Int) + 1 ≤ (s.size : Int) := by omega
    have c5 : IntKind.i64.wrap ((k : Int) + 1) = (k : Int) + 1 := by simp [IntKind.wrap, IntKind.signed, IntKind.bits]; omega
    clear hm hlt e1 hne
    go_enter Tryz.func112, Tryz.ntmps112
    go_wp2_with (go_at_call 125; refine (HI.out _).mono ?_; rintro e w1 ⟨rfl, rfl⟩)
    go_quiet (fail)
    go_wp2_with fail
    go_ret3
    refine ⟨_, _, _, rfl, ?_, below_drewN _ _ _⟩
    show ByteArray.size (s.extract 0 k) = _
    rw [← hk.out]
    simp; omega
  · have e1 : Lib.indexByte s.toList 10 = -1 := by rw [idx_byte, if_neg hm]
    rw [e1] at HI
    have hl : Hid (s.size = (s.toList.takeWhile (· != 10)).length) := by show _ = _; rw [take_ne _ hm, Hlen.out]
    clear hm e1 hne
    go_enter Tryz.func112, Tryz.ntmps112
    go_wp2_with (go_at_call 125; refine (HI.out _).mono ?_; rintro e w1 ⟨rfl, rfl⟩)
    go_ret3
    exact ⟨_, _, _, rfl, hl.out, Below.refl _ _⟩
set_option maxRecDepth 100000 in
set_option maxHeartbeats 1000000 in
theorem cut_any (s : ByteArray) (hs : s.size ≤ 140737488351232) (hne : (([10] : List UInt8) == s.toList) = false) (w : World) : Calls Tryz.prog 97 #[.string s, .string ⟨#[10]⟩] w (CutPost s w) := by
  have HI := Lib.hid (cutL_any s hs hne)
  clear hne
  go_enter Tryz.func97, Tryz.ntmps97
  go_wp2_with fail
  refine (HI.out _).mono ?_
  rintro e w1 ⟨a, b, c, rfl, ha, hb⟩
  have Ha := Lib.hid ha
  clear ha
  go_wp2_with fail
  go_ret3
  exact ⟨_, _, _, rfl, Ha.out, hb⟩

set_option maxRecDepth 100000 in
set_option maxHeartbeats 2000000 in
theorem skip_any (s : ByteArray) (hs : s.size ≤ 140737488351232) (a : Nat) (ha : a ≤ s.size) (w : World) : Calls Tryz.prog 77 #[.string s, .int .i64 a] w (RetInt ((a + skipG false (s.toList.drop a) : Nat) : Int) w) := by
  have Hlen := Lib.hid (ba_len s)
  have HB : Hid (∀ (c : UInt8) w, Calls Tryz.prog 96 #[.string ⟨#[9, 10, 13, 32]⟩, .int .u8 c.toNat] w (fun e w' => ∃ n : Int, e = .returned (.int .i64 n) ∧ decide (0 ≤ n) = blankB c ∧ w' = w)) := by
    intro c w
    refine (Tryz.strings_IndexByte ⟨#[9, 10, 13, 32]⟩ c.toNat w).mono ?_
    rintro e w1 ⟨rfl, rfl⟩
    refine ⟨_, rfl, ?_, rfl⟩
    have h := idx_blank c
    simpa using h
  obtain ⟨R, HR⟩ : ∃ R : Nat, Hid (R = a + skipG false (s.toList.drop a)) := ⟨_, rfl⟩
  rw [← HR.out]
  go_enter Tryz.func77, Tryz.ntmps77
  go_wp2
  go_loopw [1, 5, 6, 7, 8, 17, 23] (fun i _ _ _ _ _ _ wr => ∃ k : Nat, k ≤ s.size ∧ i = .int .i64 k ∧ Hid (R = k + skipG false (s.toList.drop k)) ∧ Below w.heap.size w wr) (fun i _ _ _ _ _ _ _ => s.size - (intOf i).toNat)
  case atStart => exact ⟨a, ha, rfl, HR, Below.refl _ _⟩
  case round =>
    obtain ⟨k, hk, rfl, HK, hbr⟩ := hrel
    have i0 : (0 : Int) ≤ (k : Int) := by omega
    by_cases hlt : k < s.size
    · have i1 : (k : Int) < (s.size : Int) := by omega
      have i2 : (k : Int) ≤ (s.size : Int) := by omega
      have HD : Hid (s.toList.drop k = (s[k]'hlt) :: s.toList.drop (k + 1)) := by
        show _ = _
        have h1 := ba_get hlt
        obtain ⟨h2, h3⟩ := List.getElem?_eq_some_iff.1 h1
        rw [List.drop_eq_getElem_cons h2, h3]
      have HC := Lib.hid (HB.out (s[k]'hlt) wr)
      cases hbl : blankB (s[k]'hlt) with
      | true =>
        have HK2 : Hid (R = k + 1 + skipG false (s.toList.drop (k + 1))) := by
          show _ = _; rw [HK.out, HD.out, skip_one hbl]; omega
        clear HK HR ha
        go_wp2_with fail
        refine HC.out.mono ?_
        rintro e w1 ⟨n, rfl, hn, rfl⟩
        rw [hbl] at hn
        go_wp2_with fail
        go_roundw
        case rel => exact ⟨k + 1, by omega, by go_num, HK2, hbr⟩
        case measure => simp [intOf]; omega
      | false =>
        by_cases hp : (s[k]'hlt) = 37
        · have z0 : (((s[k]'hlt).toNat : Int) == 37) = true := by rw [hp]; decide
          obtain ⟨m, Hm⟩ : ∃ m, Hid (m = ((s.toList.drop k).takeWhile (· != 10)).length) := ⟨_, rfl⟩
          have hk1 : 1 ≤ m := by
            rw [Hm.out, HD.out, hp]
            simp
          have HT : Hid (m ≤ s.size - k) := by
            show _ ≤ _
            rw [Hm.out]
            have h1 : ((s.toList.drop k).takeWhile (· != 10)).length ≤ (s.toList.drop k).length := List.Sublist.length_le (List.takeWhile_sublist _)
            rw [List.length_drop, Hlen.out] at h1; exact h1
          have HK2 : Hid (R = k + m + skipG false (s.toList.drop (k + m))) := by
            show _ = _
            rw [HK.out, Hm.out]
            conv => lhs; rw [HD.out, hp, skip_per]
            rw [← hp, ← HD.out, List.drop_drop]; omega
          have hne : (([10] : List UInt8) == (s.extract k s.size).toList) = false := by
            rw [ba_drop, HD.out, hp]
            simp
          have HCut := Lib.hid (cut_any (s.extract k s.size) (by simp; omega) hne)
          rw [hbl] at HC
          have ht := HT.out
          clear HK HR ha hne hp
          go_wp2_with fail
          refine HC.out.mono ?_
          rintro e w1 ⟨n, rfl, hn, rfl⟩
          go_wp2_with fail
          refine (HCut.out _).mono ?_
          rintro e w2 ⟨x, b, c, rfl, hx, hbx⟩
          have Hx : Hid (x.size = m) := by show _ = _; rw [hx, Hm.out, ba_drop]
          have hxx := Hx.out
          clear hx
          go_wp2_with fail
          go_roundw
          case rel => exact ⟨k + m, by omega, by go_num, HK2, below_next hbr hbx⟩
          case measure => simp [intOf]; omega
        · have z0 : (((s[k]'hlt).toNat : Int) == 37) = false := by
            simp only [beq_eq_false_iff_ne, ne_eq]
            intro h; apply hp
            have h2 : (s[k]'hlt).toNat = 37 := by omega
            exact UInt8.toNat_inj.1 (by rw [h2]; rfl)
          have HK2 : Hid (R = k) := by show _ = _; rw [HK.out, HD.out, skip_zero hbl hp]; rfl
          rw [hbl] at HC
          clear HK HR ha hp
          go_wp2_with fail
          refine HC.out.mono ?_
          rintro e w1 ⟨n, rfl, hn, rfl⟩
          go_wp2_with fail
          go_ret
          exact ⟨by rw [HK2.out]; rfl, hbr⟩
    · have i1 : ¬ (k : Int) < (s.size : Int) := by omega
      have HK2 : Hid (R = k) := by
        show _ = _
        rw [HK.out, List.drop_eq_nil_of_le (by rw [Hlen.out]; omega)]; rfl
      clear HK HR ha
      go_wp2_with fail
      go_ret
      exact ⟨by rw [HK2.out]; rfl, hbr⟩
end Go.Proofs.YtiffmiabhapfnaaGreatDoor

/- lex.word and lex.next. -/
namespace Go.Proofs.YtiffmiabhapfnaaGreatDoor
open Go.RowKit

def keysL : List (List UInt8) := [[114, 101, 108], [105, 110, 116], [115, 121, 109], [110, 111, 116], [99, 111, 117, 110, 116], [115, 117, 109], [109, 105, 110], [109, 97, 120]]
def headN (l : List UInt8) : Nat := (l.headD 0).toNat
/-- what a word is -/
def wordK (l : List UInt8) : Int := if l ∈ keysL then 1 else if nameOk ⟨l.toArray⟩ then 2 else if greatB (headN l) && decide (l.length ≤ 32) then 3 else if (refNum l).isSome then 4 else 0
def bytes (l : List UInt8) : ByteArray := ⟨l.toArray⟩
theorem mem_bytes (s : ByteArray) (L : List (List UInt8)) : decide (s ∈ L.map bytes) = decide (s.toList ∈ L) := by
  rw [Bool.eq_iff_iff]
  simp only [decide_eq_true_eq, List.mem_map]
  constructor
  · rintro ⟨l, hl, rfl⟩; unfold bytes; rw [toList_mk]; exact hl
  · intro h; exact ⟨_, h, bytes_back s⟩
/-- an array of texts, laid -/
def StrsW (g : Nat) (L : List (List UInt8)) (W : World) : Prop := ∃ t fr, W.heap[g]? = some (.cells (L.map fun l => Value.string (bytes l)).toArray t fr)
theorem StrsW.on {g : Nat} {L : List (List UInt8)} {w W : World} (h : StrsW g L w) (hb : Below w.heap.size w W) : StrsW g L W := by
  obtain ⟨t, fr, h⟩ := h
  exact ⟨t, fr, (hb.block g (Array.getElem?_eq_some_iff.1 h).1).trans h⟩
theorem StrsW.is {g : Nat} {L : List (List UInt8)} {w : World} (h : StrsW g L w) (hl : L.length ≤ 1000) (hb : ∀ l ∈ L, l.length ≤ 1000) : SliceIs Enc.str w w.heap.size (some ⟨g, 0, none⟩) L.length L.length (L.map bytes) := by
  obtain ⟨t, fr, h⟩ := h
  refine ⟨by simp, Nat.le_refl _, by simp [maxLen]; omega, by simp [reachN]; omega, .inr ⟨g, 0, rfl, (Array.getElem?_eq_some_iff.1 h).1, ?_⟩⟩
  intro i x hx
  rw [List.getElem?_map] at hx
  obtain ⟨l, hl', rfl⟩ := Option.map_eq_some_iff.1 hx
  refine ⟨[.string (bytes l)], ⟨rfl, ?_⟩, ?_⟩
  · have := hb l (List.mem_of_getElem? hl')
    have e : (bytes l).size = l.length := by rw [← ba_len]; unfold bytes; rw [toList_mk]
    rw [e]; simp [reachN]; omega
  · intro j v hj
    match j, hj with
    | 0, hj =>
      simp at hj; subst hj
      rw [cell_of_row _ _ _ _ _ _ h]
      show _ = _
      simp [Enc.str, hl']
    | j + 1, hj => simp at hj
structure LexW (W : World) : Prop where
  tab : TabW W
  err : ErrW W
  keys : StrsW 1 keysL W
  signs : StrsW 0 signsL W
theorem LexW.on {w W : World} (h : LexW w) (hb : Below w.heap.size w W) : LexW W := ⟨h.tab.on hb, h.err.on hb, h.keys.on hb, h.signs.on hb⟩

/-- the program's way to tell a number -/
def numB (l : List UInt8) : Bool := match Lib.atoiAll l with
  | .ok n => decide (n ≤ 2147483647) && decide (Lib.itoa n = l)
  | _ => false
theorem numB_ref (l : List UInt8) (h : l.head? ≠ some 45) : numB l = (refNum l).isSome := by
  rw [← own_eq_ref]
  unfold numB ownNum
  cases Lib.atoiAll l with
  | ok n =>
    by_cases h1 : Lib.itoa n = l
    · have h0 : 0 ≤ n := by
        by_cases hn : 0 ≤ n
        · exact hn
        · exfalso
          apply h
          rw [← h1]
          unfold Lib.itoa
          rw [if_pos (by omega)]; rfl
      by_cases h2 : n ≤ 2147483647
      · have h3 : bnd31 n = true := by simp [bnd31]; omega
        simp [h1, h2, h3]
      · have h3 : bnd31 n = false := by simp [bnd31]; omega
        simp [h1, h2, h3]
    · simp [h1]
  | _ => rfl

set_option maxRecDepth 100000 in
set_option maxHeartbeats 2000000 in
theorem word_any (s : ByteArray) (hs : s.size ≤ 140737488351232) (h1 : 1 ≤ s.size) (hh : s.toList.head? ≠ some 45) (w : World) (hW : LexW w) : Calls Tryz.prog 99 #[.string s] w (RetInt (wordK s.toList) w) := by
  have HW := Lib.hid hW
  have HC := Lib.hid (contains_any _ _ _ _ s w (hW.keys.is (by decide) (by decide)))
  have Hn := Lib.hid (fun w => name_any s w)
  have Hg := Lib.hid (fun w => great_any (s[0]'h1).toNat w)
  have e0 : headN s.toList = (s[0]'h1).toNat := by
    have := ba_head h1
    cases hl : s.toList with
    | nil => rw [hl] at this; cases this
    | cons c r => rw [hl] at this; simp at this; simp [headN, this]
  have e1 : nameOk ⟨s.toList.toArray⟩ = nameOk s := by rw [bytes_back]
  have e2 : s.toList.length = s.size := ba_len s
  have HQ : Hid (wordK s.toList = if decide (s ∈ keysL.map bytes) then (1 : Int) else if nameOk s then (2 : Int) else if greatB (s[0]'h1).toNat && decide (s.size ≤ 32) then (3 : Int) else if numB s.toList then (4 : Int) else (0 : Int)) := by
    show _ = _
    unfold wordK
    rw [e0, e1, e2, mem_bytes, numB_ref _ hh]
    simp
  have HA := Lib.hid (fun (W : World) (hb : Below w.heap.size w W) => atoi_any s hs W (hW.err.on hb))
  have HI := Lib.hid (fun (n : Int) (hn : fits n) (W : World) (hb : Below w.heap.size w W) => itoa_any n hn W (hW.tab.on hb))
  have h1n : (0 : Int) < (s.size : Int) := by omega
  rw [HQ.out]
  clear hh hW e0 e1 e2 HQ
  cases hk : decide (s ∈ keysL.map bytes) with
  | true =>
    rw [hk] at HC
    simp only [if_true]
    go_enter Tryz.func99, Tryz.ntmps99
    go_wp2_with fail
    refine HC.out.mono ?_
    rintro e w1 ⟨rfl, hb⟩
    go_wp2_with fail
    go_ret
    exact ⟨rfl, hb⟩
  | false =>
  rw [hk] at HC
  clear hk
  simp only [Bool.false_eq_true, if_false]
  cases hN : nameOk s with
  | true =>
    rw [hN] at Hn
    simp only [if_true]
    go_enter Tryz.func99, Tryz.ntmps99
    go_wp2_with fail
    refine HC.out.mono ?_
    rintro e w1 ⟨rfl, hb⟩
    go_wp2_with fail
    refine (Hn.out _).mono ?_
    rintro e w2 ⟨rfl, hb2⟩
    go_wp2_with fail
    go_ret
    exact ⟨rfl, below_next hb hb2⟩
  | false =>
  rw [hN] at Hn
  clear hN
  simp only [Bool.false_eq_true, if_false]
  have HAll : Hid (∀ (W : World) (hb : Below w.heap.size w W), Calls Tryz.prog 116 #[.string s] W (AtoiPost s W)) := HA.out
  clear HA
  cases hG : greatB (s[0]'h1).toNat with
  | true =>
    rw [hG] at Hg
    by_cases h32 : s.size ≤ 32
    · have z0 : (s.size : Int) ≤ 32 := by omega
      simp only [h32, decide_true, Bool.and_self, if_true]
      clear h32 hG
      go_enter Tryz.func99, Tryz.ntmps99
      go_wp2_with fail
      refine HC.out.mono ?_
      rintro e w1 ⟨rfl, hb⟩
      go_wp2_with fail
      refine (Hn.out _).mono ?_
      rintro e w2 ⟨rfl, hb2⟩
      go_wp2_with fail
      refine (Hg.out _).mono ?_
      rintro e w3 ⟨rfl, rfl⟩
      go_wp2_with fail
      go_ret
      exact ⟨rfl, below_next hb hb2⟩
    · have z0 : ¬ (s.size : Int) ≤ 32 := by omega
      simp only [h32, decide_false, Bool.and_false, Bool.false_eq_true, if_false]
      clear h32 hG
      obtain ⟨R, HR⟩ : ∃ R : Int, Hid (R = if numB s.toList then 4 else 0) := ⟨_, rfl⟩
      rw [← HR.out]
      go_enter Tryz.func99, Tryz.ntmps99
      go_wp2_with fail
      refine HC.out.mono ?_
      rintro e w1 ⟨rfl, hb⟩
      go_wp2_with fail
      refine (Hn.out _).mono ?_
      rintro e w2 ⟨rfl, hb2⟩
      replace hb := below_next hb hb2
      go_wp2_with fail
      refine (Hg.out _).mono ?_
      rintro e w3 ⟨rfl, rfl⟩
      go_wp2_with fail
      refine (HAll.out _ hb).mono ?_
      rintro e w4 ⟨n, ev, hfn, rfl, hb4, hor⟩
      replace hb := below_next hb hb4
      rcases hor with ⟨ha, rfl⟩ | ⟨ha, T, q, rfl⟩
      rotate_left
      · have HR2 : Hid (R = 0) := by
          show _ = _
          rw [HR.out]; unfold numB
          cases h : Lib.atoiAll s.toList with
          | ok m => exact absurd h (ha m)
          | _ => rfl
        clear ha HR
        go_wp2_with fail
        go_ret
        exact ⟨by rw [HR2.out]; rfl, hb⟩
      by_cases hn : n ≤ 2147483647
      · have HT := Lib.hid (HI.out n hfn _ hb)
        by_cases hi : Lib.itoa n = s.toList
        · have HR2 : Hid (R = 4) := by show _ = _; rw [HR.out]; simp [numB, ha, hn, hi]
          have Hi := Lib.hid hi
          clear ha HR hi HI
          go_wp2_with fail
          refine HT.out.mono ?_
          rintro e w5 ⟨t, ht, -, rfl, hb5⟩
          have z1 : (t.toList == s.toList) = true := by rw [ht.out, toList_mk, Hi.out]; simp
          go_wp2_with fail
          go_ret
          exact ⟨by rw [HR2.out]; rfl, below_next hb hb5⟩
        · have HR2 : Hid (R = 0) := by show _ = _; rw [HR.out]; simp [numB, ha, hi]
          have Hi := Lib.hid hi
          clear ha HR hi HI
          go_wp2_with fail
          refine HT.out.mono ?_
          rintro e w5 ⟨t, ht, -, rfl, hb5⟩
          have z1 : (t.toList == s.toList) = false := by rw [ht.out, toList_mk]; simpa using Hi.out
          go_wp2_with fail
          go_ret
          exact ⟨by rw [HR2.out]; rfl, below_next hb hb5⟩
      · have HR2 : Hid (R = 0) := by show _ = _; rw [HR.out]; simp [numB, ha, hn]
        clear ha HR HI
        go_wp2_with fail
        go_ret
        exact ⟨by rw [HR2.out]; rfl, hb⟩
  | false =>
    rw [hG] at Hg
    simp only [Bool.false_and, Bool.false_eq_true, if_false]
    clear hG
    obtain ⟨R, HR⟩ : ∃ R : Int, Hid (R = if numB s.toList then 4 else 0) := ⟨_, rfl⟩
    rw [← HR.out]
    go_enter Tryz.func99, Tryz.ntmps99
    go_wp2_with fail
    refine HC.out.mono ?_
    rintro e w1 ⟨rfl, hb⟩
    go_wp2_with fail
    refine (Hn.out _).mono ?_
    rintro e w2 ⟨rfl, hb2⟩
    replace hb := below_next hb hb2
    go_wp2_with fail
    refine (Hg.out _).mono ?_
    rintro e w3 ⟨rfl, rfl⟩
    go_wp2_with fail
    refine (HAll.out _ hb).mono ?_
    rintro e w4 ⟨n, ev, hfn, rfl, hb4, hor⟩
    replace hb := below_next hb hb4
    rcases hor with ⟨ha, rfl⟩ | ⟨ha, T, q, rfl⟩
    rotate_left
    · have HR2 : Hid (R = 0) := by
        show _ = _
        rw [HR.out]; unfold numB
        cases h : Lib.atoiAll s.toList with
        | ok m => exact absurd h (ha m)
        | _ => rfl
      clear ha HR
      go_wp2_with fail
      go_ret
      exact ⟨by rw [HR2.out]; rfl, hb⟩
    by_cases hn : n ≤ 2147483647
    · have HT := Lib.hid (HI.out n hfn _ hb)
      by_cases hi : Lib.itoa n = s.toList
      · have HR2 : Hid (R = 4) := by show _ = _; rw [HR.out]; simp [numB, ha, hn, hi]
        have Hi := Lib.hid hi
        clear ha HR hi HI
        go_wp2_with fail
        refine HT.out.mono ?_
        rintro e w5 ⟨t, ht, -, rfl, hb5⟩
        have z1 : (t.toList == s.toList) = true := by rw [ht.out, toList_mk, Hi.out]; simp
        go_wp2_with fail
        go_ret
        exact ⟨by rw [HR2.out]; rfl, below_next hb hb5⟩
      · have HR2 : Hid (R = 0) := by show _ = _; rw [HR.out]; simp [numB, ha, hi]
        have Hi := Lib.hid hi
        clear ha HR hi HI
        go_wp2_with fail
        refine HT.out.mono ?_
        rintro e w5 ⟨t, ht, -, rfl, hb5⟩
        have z1 : (t.toList == s.toList) = false := by rw [ht.out, toList_mk]; simpa using Hi.out
        go_wp2_with fail
        go_ret
        exact ⟨by rw [HR2.out]; rfl, below_next hb hb5⟩
    · have HR2 : Hid (R = 0) := by show _ = _; rw [HR.out]; simp [numB, ha, hn]
      clear ha HR HI
      go_wp2_with fail
      go_ret
      exact ⟨by rw [HR2.out]; rfl, hb⟩
end Go.Proofs.YtiffmiabhapfnaaGreatDoor
