/- My own texts TEvR, TFormed, SfLaw, SfWl, RefTerms, SdN, SdI, SdV, as far as this claim needs them. -/
import Derived.Test.YtfklheagafffmaaGreatDoorZs29
import Derived.Test.YtfklheagafffmaaGreatDoorZsb5
set_option linter.unusedVariables false
set_option linter.unusedSimpArgs false
set_option maxRecDepth 1000000
set_option maxHeartbeats 16000000
namespace Go.Proofs.YtfklheagafffmaaGreatDoor
open Go.RowKit
theorem ev1R_any (x : GRule) (a m : Hd) (g : Nat) (w : World) (hg : w.cell? ⟨g, 0, none⟩ = some (.func (.func 16) #[] #[])) (HC : Hid (∀ W, Below w.heap.size w W → Calls Tryz.prog 16 #[.agg #[.string x.head.rel, a.v, .int .i64 x.agg, .int .i64 x.col, m.v, .int .i64 x.pos]] W (RetBool (rightRule x) W))) :
    Calls Tryz.prog 110 #[.agg #[.string x.head.rel, a.v, .int .i64 x.agg, .int .i64 x.col, m.v, .int .i64 x.pos], .pointer (some ⟨g, 0, none⟩)] w (RetBool (!rightRule x) w) := by
  have hrb : (w.alloc (.cells #[.string x.head.rel, a.v, .int .i64 x.agg, .int .i64 x.col, m.v, .int .i64 x.pos] 27)).heap[w.heap.size]? = some (.cells #[.string x.head.rel, a.v, .int .i64 x.agg, .int .i64 x.col, m.v, .int .i64 x.pos] 27 (0, 0)) := heapNew rfl
  obtain ⟨b0, b1, b2, b3, b4, b5⟩ := facts6 hrb
  have cg : (w.alloc (.cells #[.string x.head.rel, a.v, .int .i64 x.agg, .int .i64 x.col, m.v, .int .i64 x.pos] 27)).cell? ⟨g, 0, none⟩ = some (.func (.func 16) #[] #[]) := cellA hg
  clear hrb hg
  generalize rightRule x = B at *
  go_enter Tryz.func110, Tryz.ntmps110
  go_wp2_with fail
  refine (HC.out _ (by first | exact Below.refl _ _ | exact belowA (Below.refl _ _) _)).mono ?_
  rintro e w1 ⟨rfl, hb⟩
  have Hb := Lib.hid hb
  clear hb
  go_wp2_with fail
  go_ret
  exact ⟨rfl, below_next (belowA (Below.refl _ _) _) Hb.out⟩
theorem evIR_any (d : Nat) (A : Option Addr) (n c : Nat) (l : List GRule) (g : Nat) (w : World) (hl : SliceIs (Enc.rule d) w w.heap.size A n c l) (hg : w.cell? ⟨g, 0, none⟩ = some (.func (.func 16) #[] #[]))
    (HC : Hid (∀ (x : GRule) (a m : Hd) W, RuleAt d W W.heap.size x a m → Below w.heap.size w W → Calls Tryz.prog 16 #[.agg #[.string x.head.rel, a.v, .int .i64 x.agg, .int .i64 x.col, m.v, .int .i64 x.pos]] W (RetBool (rightRule x) W))) :
    Calls Tryz.prog 129 #[.slice A n c, .func (.func 110) #[] #[.pointer (some ⟨g, 0, none⟩)]] w (fun e w' => ∃ k : Int, e = .returned (.int .i64 k) ∧ decide (0 ≤ k) = !(l.all rightRule) ∧ Below w.heap.size w w') := by
  have hn := hl.bound
  have HL := Lib.hid hl
  have hlen := Lib.hid hl.1
  have Hg := Lib.hid hg
  clear hl hg
  go_enter Tryz.func129, Tryz.ntmps129
  go_wp2_with fail
  go_loopw [5, 8] (fun _ i wr => ∃ k : Nat, k ≤ n ∧ i = .int .i64 k ∧ Hid ((l.take k).all rightRule = true) ∧ Below w.heap.size w wr) (fun _ i _ => n - (intOf i).toNat)
  case atStart => exact ⟨0, by omega, rfl, by simp [Hid], Below.refl _ _⟩
  case round =>
    obtain ⟨k, hk, rfl, hpre, hbr⟩ := hrel
    by_cases hlt : k < n
    · have HLr := (HL.out.below hbr)
      obtain ⟨b, o, x, a, m, rfl, hbb, hx, hat, z0, z1, z2, z3, z4, z5⟩ := HLr.rule_at hlt
      have hokx : RuleAt d wr wr.heap.size x a m := hat.mono' hbr.size (Kept.of fun _ _ => rfl)
      have C := Lib.hid (ev1R_any x a m g wr (below_cell hbr Hg.out) (fun W hW => HC.out x a m W (hokx.keep hW) (below_next hbr hW)))
      have i0 : (0 : Int) ≤ (k : Int) := by omega
      have i1 : (k : Int) < (n : Int) := by omega
      have HT : Hid ((l.take (k + 1)).all rightRule = rightRule x) := by
        show _ = _
        obtain ⟨g1, g2⟩ := List.getElem?_eq_some_iff.1 hx.out
        rw [List.take_succ_eq_append_getElem g1, g2, List.all_append, hpre.out]; simp
      have HF : Hid (rightRule x = false → l.all rightRule = false) := fun h => by
        rw [List.all_eq_false]
        exact ⟨x, List.mem_of_getElem? hx.out, by simp [h]⟩
      clear HLr hokx
      generalize rightRule x = B at *
      cases B with
      | true =>
        clear HF
        go_wp2_with fail
        refine C.out.mono ?_
        rintro e w1 ⟨rfl, hb⟩
        have Hb := Lib.hid hb
        clear hb
        go_wp2_with fail
        go_roundw
        case rel => exact ⟨k + 1, by omega, by go_num, HT, below_next hbr Hb.out⟩
        case measure => simp [intOf]; omega
      | false =>
        have HF' : Hid (l.all rightRule = false) := HF.out rfl
        clear HF
        go_wp2_with fail
        refine C.out.mono ?_
        rintro e w1 ⟨rfl, hb⟩
        have Hb := Lib.hid hb
        clear hb
        go_wp2_with fail
        go_ret
        exact ⟨_, rfl, by rw [HF'.out]; simp, below_next hbr Hb.out⟩
    · have i1 : ¬ (k : Int) < (n : Int) := by omega
      have HA : Hid (l.all rightRule = true) := by
        show _ = _
        have h := hpre.out
        rw [List.take_of_length_le (by have := hlen.out; omega)] at h
        exact h
      go_wp2_with fail
      go_ret
      exact ⟨_, rfl, by rw [HA.out]; rfl, hbr⟩
theorem everyR_any (d : Nat) (A : Option Addr) (n c : Nat) (l : List GRule) (w : World) (hl : SliceIs (Enc.rule d) w w.heap.size A n c l)
    (HC : Hid (∀ (x : GRule) (a m : Hd) W, RuleAt d W W.heap.size x a m → Below w.heap.size w W → Calls Tryz.prog 16 #[.agg #[.string x.head.rel, a.v, .int .i64 x.agg, .int .i64 x.col, m.v, .int .i64 x.pos]] W (RetBool (rightRule x) W))) :
    Calls Tryz.prog 79 #[.slice A n c, .func (.func 16) #[] #[]] w (RetBool (l.all rightRule) w) := by
  have hba : Below w.heap.size w (w.alloc (.cells #[.func (.func 16) #[] #[]] 60)) := belowA (Below.refl _ _) _
  have C := Lib.hid (evIR_any d A n c l w.heap.size (w.alloc (.cells #[.func (.func 16) #[] #[]] 60)) (hl.keep hba) ((cell_of_row _ _ 0 _ _ _ (heapNew rfl)).trans rfl) (fun x a m W h hW => HC.out x a m W h (below_next hba hW)))
  generalize l.all rightRule = B at *
  clear hl HC
  have CC : Hid (Calls Tryz.prog 109 #[.slice A n c, .func (.func 110) #[] #[.pointer (some ⟨w.heap.size, 0, none⟩)]] (w.alloc (.cells #[.func (.func 16) #[] #[]] 60)) (RetBool (!B) (w.alloc (.cells #[.func (.func 16) #[] #[]] 60)))) := by
    show Calls _ _ _ _ _
    generalize w.alloc (.cells #[.func (.func 16) #[] #[]] 60) = wb at *
    go_enter Tryz.func109, Tryz.ntmps109
    go_wp2_with fail
    refine C.out.mono ?_
    rintro e w1 ⟨k, rfl, hk, hb⟩
    have Hb := Lib.hid hb
    have Hk := Lib.hid hk
    clear hb hk
    go_wp2_with fail
    go_ret
    exact ⟨by rw [← Hk.out]; rfl, Hb.out⟩
  clear C
  go_enter Tryz.func79, Tryz.ntmps79
  go_wp2_with fail
  refine CC.out.mono ?_
  rintro e w1 ⟨rfl, hb⟩
  have Hb := Lib.hid hb
  clear hb CC
  go_wp2_with fail
  go_ret
  exact ⟨by cases B <;> rfl, below_next hba Hb.out⟩
end Go.Proofs.YtfklheagafffmaaGreatDoor

namespace Go.Proofs.YtfklheagafffmaaGreatDoor
open Go.RowKit
def formedB (x : GProg) : Bool := (decide (x.decls.length ≤ 32) && decide (x.rules.length ≤ 64)) && (x.decls.all declB && x.rules.all rightRule)
theorem formed_any (d : Nat) (x : GProg) (a b : Hd) (w : World) (h : ProgAt d w w.heap.size x a b) (hW : LexW w) : Calls Tryz.prog 48 #[.agg #[a.v, b.v]] w (RetBool (formedB x) w) := by
  obtain ⟨B, HB⟩ : ∃ B, Hid (B = formedB x) := ⟨_, rfl⟩
  rw [← HB.out]
  have hrb : (w.alloc (.cells #[a.v, b.v] 74)).heap[w.heap.size]? = some (.cells #[a.v, b.v] 74 (0, 0)) := heapNew rfl
  have hba : Below w.heap.size w (w.alloc (.cells #[a.v, b.v] 74)) := belowA (Below.refl _ _) _
  have hna := h.decls.bound
  have hnb := h.rules.bound
  have Hla := Lib.hid h.decls.1
  have Hlb := Lib.hid h.rules.1
  have HH := Lib.hid (h.keep hba)
  have HW := Lib.hid (hW.on hba)
  clear h hW
  obtain ⟨P1, HP1⟩ : ∃ E, Hid (E = x.decls.all declB) := ⟨_, rfl⟩
  obtain ⟨P2, HP2⟩ : ∃ E, Hid (E = x.rules.all rightRule) := ⟨_, rfl⟩
  have HE : Hid (B = ((decide (x.decls.length ≤ 32) && decide (x.rules.length ≤ 64)) && (P1 && P2))) := by show _ = _; rw [HB.out, HP1.out, HP2.out]; rfl
  have Hrow : Hid (∀ W, Below (w.alloc (.cells #[a.v, b.v] 74)).heap.size (w.alloc (.cells #[a.v, b.v] 74)) W → W.heap[w.heap.size]? = some (.cells #[a.v, b.v] 74 (0, 0))) := fun W h => (h.block _ (Array.getElem?_eq_some_iff.1 hrb).1).trans hrb
  obtain ⟨f0_0, f0_1⟩ := facts2 hrb
  have C1 : Hid (∀ W, Below (w.alloc (.cells #[a.v, b.v] 74)).heap.size (w.alloc (.cells #[a.v, b.v] 74)) W → Calls Tryz.prog 77 #[a.v, .func (.func 78) #[] #[]] W (RetBool P1 W)) := fun W h => by
    rw [HP1.out]
    exact everyD_any a.A a.n a.c x.decls W (HH.out.decls.keep h) (fun y a W' hy h' => declared_any y a W' hy ((HW.out.on h).on h'))
  have C2 : Hid (∀ W, Below (w.alloc (.cells #[a.v, b.v] 74)).heap.size (w.alloc (.cells #[a.v, b.v] 74)) W → Calls Tryz.prog 79 #[b.v, .func (.func 16) #[] #[]] W (RetBool P2 W)) := fun W h => by
    rw [HP2.out]
    exact everyR_any d b.A b.n b.c x.rules W (HH.out.rules.keep h) (fun y a m W' hy h' => rightRule_any d y a m W' hy ((HW.out.on h).on h'))
  clear hrb HB HP1 HP2 HH HW
  by_cases h1 : a.n ≤ 32
  rotate_left
  · have z1 : ¬ (a.n : Int) ≤ 32 := by omega
    have HE2 : Hid (B = false) := by show _ = _; rw [HE.out, decide_eq_false (by rw [Hla.out]; exact h1)]; rfl
    clear HE Hla Hlb h1 C1 C2
    go_enter Tryz.func48, Tryz.ntmps48
    go_wp2_with fail
    go_ret
    exact ⟨by rw [HE2.out]; rfl, hba⟩
  have z1 : (a.n : Int) ≤ 32 := by omega
  by_cases h2 : b.n ≤ 64
  rotate_left
  · have z2 : ¬ (b.n : Int) ≤ 64 := by omega
    have HE2 : Hid (B = false) := by show _ = _; rw [HE.out, decide_eq_false (show ¬ x.rules.length ≤ 64 by rw [Hlb.out]; exact h2)]; simp
    clear HE Hla Hlb h1 h2 C1 C2
    go_enter Tryz.func48, Tryz.ntmps48
    go_wp2_with fail
    go_ret
    exact ⟨by rw [HE2.out]; rfl, hba⟩
  have z2 : (b.n : Int) ≤ 64 := by omega
  have HE2 : Hid (B = (P1 && P2)) := by show _ = _; rw [HE.out, decide_eq_true (show x.decls.length ≤ 32 by rw [Hla.out]; exact h1), decide_eq_true (show x.rules.length ≤ 64 by rw [Hlb.out]; exact h2)]; rfl
  clear HE Hla Hlb h1 h2
  generalize hwb : (w.alloc (.cells #[a.v, b.v] 74)) = wb at *
  have Hbw0 := Lib.hid (Below.refl wb.heap.size wb)
  go_enter Tryz.func48, Tryz.ntmps48
  go_wp2_with fail
  try simp only [hwb]
  go_wp2_with fail
  refine (C1.out _ Hbw0.out).mono ?_
  rintro e1 w1 ⟨rfl, hq1⟩
  have Hbw1 := Lib.hid (below_next Hbw0.out hq1)
  obtain ⟨f1_0, f1_1⟩ := facts2 (Hrow.out _ Hbw1.out)
  clear hq1 f0_0 f0_1
  cases P1 with
  | false =>
    go_wp2_with fail
    go_ret
    exact ⟨by rw [HE2.out]; rfl, below_next hba Hbw1.out⟩
  | true =>
    go_wp2_with fail
    refine (C2.out _ Hbw1.out).mono ?_
    rintro e2 w2 ⟨rfl, hq2⟩
    have Hbw2 := Lib.hid (below_next Hbw1.out hq2)
    obtain ⟨f2_0, f2_1⟩ := facts2 (Hrow.out _ Hbw2.out)
    clear hq2 f1_0 f1_1
    cases P2 <;>
    · go_wp2_with fail
      go_ret
      exact ⟨by rw [HE2.out]; rfl, below_next hba Hbw2.out⟩
end Go.Proofs.YtfklheagafffmaaGreatDoor

namespace Go.Proofs.YtfklheagafffmaaGreatDoor
open Go.RowKit
theorem allB_congr {S T : List ByteArray} (h : ∀ v, v ∈ S ↔ v ∈ T) (l : List ByteArray) : allB S l = allB T l := by
  rw [Bool.eq_iff_iff, allB_iff, allB_iff]
  constructor
  · intro k v hv; exact (h v).1 (k v hv)
  · intro k v hv; exact (h v).2 (k v hv)
def turnR : List GLit → List ByteArray → List ByteArray
  | [], S => S
  | x :: l, S => turnR l (if setsB S x then S ++ varsL x else S)
theorem turnR_len (l : List GLit) : ∀ S, S.length ≤ (turnR l S).length := by
  induction l with
  | nil => intro S; exact Nat.le_refl _
  | cons x l ih =>
    intro S
    refine Nat.le_trans ?_ (ih _)
    split
    · simp
    · exact Nat.le_refl _
theorem sets_grows {S : List ByteArray} {x : GLit} (h : setsB S x = true) : S.length < (S ++ varsL x).length := by
  obtain ⟨a, ha, -⟩ := sets_new h
  have := List.length_pos_iff.2 (List.ne_nil_of_mem ha)
  simp; omega
theorem turnR_same {l : List GLit} : ∀ {S}, (turnR l S).length = S.length → turnR l S = S ∧ ∀ x ∈ l, setsB S x = false := by
  induction l with
  | nil => intro S _; exact ⟨rfl, fun _ h => by cases h⟩
  | cons x l ih =>
    intro S h
    unfold turnR at h ⊢
    cases hs : setsB S x with
    | true =>
      rw [hs] at h
      have h1 := turnR_len l (S ++ varsL x)
      have h2 := sets_grows hs
      simp only [if_true] at h
      omega
    | false =>
      rw [hs] at h
      simp only [Bool.false_eq_true, if_false] at h ⊢
      obtain ⟨h1, h2⟩ := ih h
      refine ⟨h1, fun y hy => ?_⟩
      rcases List.mem_cons.1 hy with rfl | hy
      · exact hs
      · exact h2 y hy
theorem turnR_steps {body l : List GLit} (hl : ∀ x ∈ l, x ∈ body) : ∀ {S T : List ByteArray}, BoundTo body (turnR l S) T → BoundTo body S T := by
  induction l with
  | nil => intro S T h; exact h
  | cons x l ih =>
    intro S T h
    unfold turnR at h
    have h1 := ih (fun y hy => hl y (List.mem_cons_of_mem _ hy)) h
    cases hs : setsB S x with
    | true => rw [hs] at h1; exact .step (hl x (List.mem_cons_self ..)) hs h1
    | false => rw [hs] at h1; exact h1
end Go.Proofs.YtfklheagafffmaaGreatDoor

namespace Go.Proofs.YtfklheagafffmaaGreatDoor
open Go.RowKit
theorem right_len {x : GRule} (h : rightRule x = true) : x.body.length ≤ 8 := by
  unfold rightRule at h
  simp only [Bool.and_eq_true, decide_eq_true_eq] at h
  exact h.2.2.1
end Go.Proofs.YtfklheagafffmaaGreatDoor

namespace Go.Proofs.YtfklheagafffmaaGreatDoor
open Go.RowKit
def RefTermsPost (L : List GTold) (base : Nat) (w : World) (r : Ending) (w' : World) : Prop :=
  ∃ A c, r = .returned (.slice A L.length c) ∧ w'.ownsRow base 49 4 (.slice A L.length c) L.length (L.flatMap GTold.cells) ∧ Below base w w' ∧ w.heap.size ≤ w'.heap.size ∧ KeepsT 49 w w'
theorem refTerms_any (base : Nat) : ∀ (d : Nat) (e : GExp) (A : Option Addr) (n c : Nat) (Al : Option Addr) (m cl : Nat) (L0 : List GTold) (w : World), SliceIs (Enc.exp d) w base A n c e.kids → base ≤ w.heap.size → L0.length = m → w.ownsRow base 49 4 (.slice Al m cl) m (L0.flatMap GTold.cells) →
    m + (leavesE e).length ≤ 100000 → Calls Tryz.prog 64 #[expV e A n c, .slice Al m cl] w (RefTermsPost (L0 ++ leavesE e) base w) := by
  intro d
  induction d using Nat.strongRecOn with
  | ind d ih =>
    intro e A n c Al m cl L0 w hk hbase hm hown hsz
    have IH := Lib.hid ih
    have hn := hk.bound
    have HK := Lib.hid hk
    have Hlen := Lib.hid hk.1
    have Hown := Lib.hid hown
    have Hm := Lib.hid hm
    obtain ⟨P, HP⟩ : ∃ P : Ending → World → Prop, Hid (P = RefTermsPost (L0 ++ leavesE e) base w) := ⟨_, rfl⟩
    rw [← HP.out]
    have hrb : (w.alloc (.cells #[.int .i64 e.op, .string e.t.x, .int .i64 e.t.v.k, .int .i64 e.t.v.n, .string e.t.v.s, .slice A n c] 52)).heap[w.heap.size]? = some (.cells #[.int .i64 e.op, .string e.t.x, .int .i64 e.t.v.k, .int .i64 e.t.v.n, .string e.t.v.s, .slice A n c] 52 (0, 0)) := heapNew rfl
    obtain ⟨b0, b1, b2, b3, b4, b5⟩ := facts6 hrb
    have hba : Below w.heap.size w (w.alloc (.cells #[.int .i64 e.op, .string e.t.x, .int .i64 e.t.v.k, .int .i64 e.t.v.n, .string e.t.v.s, .slice A n c] 52)) := belowA (Below.refl _ _) _
    have hza : (w.alloc (.cells #[.int .i64 e.op, .string e.t.x, .int .i64 e.t.v.k, .int .i64 e.t.v.n, .string e.t.v.s, .slice A n c] 52)).heap.size = w.heap.size + 1 := by simp
    have HownA := Lib.hid (own_below hown hba)
    have HbA : Hid (Below base w (w.alloc (.cells #[.int .i64 e.op, .string e.t.x, .int .i64 e.t.v.k, .int .i64 e.t.v.n, .string e.t.v.s, .slice A n c] 52))) := hba.mono hbase
    have HzA := Lib.hid hza
    have HkA : Hid (KeepsT 49 w (w.alloc (.cells #[.int .i64 e.op, .string e.t.x, .int .i64 e.t.v.k, .int .i64 e.t.v.n, .string e.t.v.s, .slice A n c] 52))) := KeepsT.of_below hba
    by_cases h0 : n = 0
    · subst h0
      have hL0 : leavesE e = [e.t] := leavesE_nil (List.eq_nil_of_length_eq_zero (by rw [Hlen.out]))
      rw [hL0] at hsz
      simp only [List.length_cons, List.length_nil] at hsz
      obtain ⟨A2, c2, w3, hrun, hown2, hb3, hk3⟩ := term5_push HownA.out e.t (by omega) (by omega)
      simp only [World.size_alloc] at hrun
      have HRun := Lib.hid hrun
      have hpost : P (.returned (.slice A2 (m + 1) c2)) w3 := by
        rw [HP.out, hL0]
        have hll : (L0 ++ [e.t]).length = m + 1 := by simp [hm]
        have h1 := hb3.size
        exact ⟨A2, c2, by rw [hll], by rw [hll]; exact hown2, HbA.out.trans hb3, by omega, (KeepsT.of_below hba).trans hk3⟩
      have HPo := Lib.hid hpost
      clear hrun hown2 hb3 hk3 hpost hk hown HownA ih hba hza hL0 HP hm
      go_enter Tryz.func64, Tryz.ntmps64
      go_wp2_with (at_builtin; refine wpList_append_run rfl _ _ _ rfl _ _ rfl rfl (HRun.out _) ?_)
      exact HPo.out
    · have hL1 : leavesE e = leavesL e.kids := leavesE_kids (by intro h; have := Hlen.out; rw [h] at this; simp at this; omega)
      have hq0 : ((n : Int) == 0) = false := by rw [beq_eq_false_iff_ne]; omega
      have HP2 : Hid (P = RefTermsPost (L0 ++ leavesL e.kids) base w) := by show _ = _; rw [HP.out, hL1]
      rw [hL1] at hsz
      have Hsz := Lib.hid hsz
      clear hk hown ih hba hza hL1 HP hm hsz hrb
      go_enter Tryz.func64, Tryz.ntmps64
      go_wp2_with fail
      have hgb : (w.alloc (.cells #[.int .i64 e.op, .string e.t.x, .int .i64 e.t.v.k, .int .i64 e.t.v.n, .string e.t.v.s, .slice A n c] 52)).heap[w.heap.size]? = some (.cells #[.int .i64 e.op, .string e.t.x, .int .i64 e.t.v.k, .int .i64 e.t.v.n, .string e.t.v.s, .slice A n c] 52 (0, 0)) := heapNew rfl
      go_loopw [1, 5] (fun v i wr => ∃ (k m' c' : Nat) (A' : Option Addr) (L : List GTold), k ≤ n ∧ i = .int .i64 k ∧ v = .slice A' m' c' ∧ Hid (L0 ++ leavesL (e.kids.take k) = L) ∧ Hid (L.length = m') ∧ Hid (wr.ownsRow base 49 4 (.slice A' m' c') m' (L.flatMap GTold.cells)) ∧ Hid (Below base w wr) ∧ w.heap.size + 1 ≤ wr.heap.size ∧
        Hid (KeepsT 49 w wr) ∧ Hid (wr.heap[w.heap.size]? = some (.cells (expC e A n c).toArray 52 (0, 0)))) (fun _ i _ => n - (intOf i).toNat)
      case atStart => exact ⟨0, m, cl, Al, L0, by omega, rfl, rfl, by show _ = _; simp [leavesL], Hm.out, HownA, HbA, by rw [HzA.out]; exact Nat.le_refl _, HkA, hgb⟩
      case round =>
        obtain ⟨k, m', c', A', L, hk, rfl, rfl, hL, HLm, HO, HB, hzr, HK2, Hbox⟩ := hrel
        have i0 : (0 : Int) ≤ (k : Int) := by omega
        have y5 : wr.cell? ⟨w.heap.size, 5, none⟩ = some (.slice A n c) := (cell_of_row _ _ 5 _ _ _ Hbox.out).trans rfl
        by_cases hlt : k < n
        · have i1 : (k : Int) < (n : Int) := by omega
          obtain ⟨b, o, q, A2, n2, c2, d', rfl, hb, hk', hd, x0, x1, x2, x3, x4, x5, -, f1, f2, hkk⟩ := (HK.out.mono' (w' := wr) (Nat.le_refl _) (Kept.of HB.out.block)).exp_at hlt
          have HT := Lib.hid (leavesL_take hk'.out)
          have hlen : m' + (leavesE q).length ≤ 100000 := by
            have h1 := Hsz.out
            have h2 := HLm.out
            have h3 := Hm.out
            rw [← hL.out, List.length_append] at h2
            have h4 := congrArg List.length (leavesL_full e.kids (k + 1))
            rw [HT.out] at h4
            simp only [List.length_append] at h4
            omega
          have HC := Lib.hid (IH.out d' (by omega) q A2 n2 c2 A' m' c' L wr hkk (by omega) HLm.out HO.out hlen)
          clear hk' hd hkk hlen
          go_wp2_with fail
          refine HC.out.mono ?_
          rintro r w2 ⟨A3, c3, rfl, ho3, hb3, hz3, hk3⟩
          have HL2 : Hid (L0 ++ leavesL (e.kids.take (k + 1)) = L ++ leavesE q) := by show _ = _; rw [HT.out, ← List.append_assoc, hL.out]
          have HB2 : Hid (Below base w w2) := HB.out.trans hb3
          obtain ⟨m3, Hm3⟩ : ∃ m3, Hid ((L ++ leavesE q).length = m3) := ⟨_, rfl⟩
          rw [Hm3.out] at ho3
          rw [Hm3.out]
          have HO3 := Lib.hid ho3
          have Hbox2 : Hid (w2.heap[w.heap.size]? = some (.cells (expC e (some ⟨b, o, none⟩) n c).toArray 52 (0, 0))) := hk3 _ _ _ _ Hbox.out (by decide)
          have HK3 : Hid (KeepsT 49 w w2) := HK2.out.trans hk3
          clear ho3 hb3 hk3 HC HT
          go_wp2_with fail
          go_roundw
          case rel => exact ⟨k + 1, m3, c3, A3, _, by omega, by go_num, rfl, HL2, Hm3, HO3, HB2, by omega, HK3, Hbox2⟩
          case measure => simp [intOf]; omega
        · have i1 : ¬ (k : Int) < (n : Int) := by omega
          have hPP : Hid (P (.returned (.slice A' m' c')) wr) := by
            show P _ _
            have e1 : L0 ++ leavesL e.kids = L := by rw [← hL.out, List.take_of_length_le (by have := Hlen.out; omega)]
            rw [HP2.out, e1]
            exact ⟨A', c', by rw [HLm.out], by rw [HLm.out]; exact HO.out, HB.out, by omega, HK2.out⟩
          clear HP2
          go_wp2_with fail
          exact hPP.out
end Go.Proofs.YtfklheagafffmaaGreatDoor

namespace Go.Proofs.YtfklheagafffmaaGreatDoor
open Go.RowKit
theorem ba_lenS (s : ByteArray) : s.toList.length = s.size := by rw [ByteArray.toList_eq]; rfl
theorem ba_emptyS (s : ByteArray) : s.toList.isEmpty = decide (s.size = 0) := by
  rw [Bool.eq_iff_iff, List.isEmpty_iff, decide_eq_true_eq, ← ba_lenS, List.length_eq_zero_iff]
theorem refNames_any (A : Option Addr) (n c : Nat) (l : List GTold) (w : World) (hl : SliceIs Enc.told w w.heap.size A n c l) (hsz : n ≤ 100000) :
    Calls Tryz.prog 37 #[.slice A n c] w (TextsPost (putL [] l) w) := by
  have hn := hl.bound
  have hlen := Lib.hid hl.1
  have Htold := Lib.hid (fun t h => told_ok hl t h)
  have HL := Lib.hid hl
  obtain ⟨P, HP⟩ : ∃ P : Ending → World → Prop, Hid (P = TextsPost (putL [] l) w) := ⟨_, rfl⟩
  rw [← HP.out]
  clear hl
  go_enter Tryz.func37, Tryz.ntmps37
  go_wp2_with fail
  go_loopw [3, 4] (fun v i wr => ∃ (k m c' : Nat) (A' : Option Addr) (L : List ByteArray), k ≤ n ∧ i = .int .i64 (k : Int) ∧ v = .slice A' m c' ∧ Hid (putL [] (l.take k) = L) ∧ m ≤ k ∧ Hid (L.length = m) ∧ Hid (wr.ownsRow w.heap.size 9 1 (.slice A' m c') m (L.flatMap strC)) ∧ Hid (Below w.heap.size w wr)) (fun _ i _ => n - (intOf i).toNat)
  case atStart => exact ⟨0, 0, 0, none, [], by omega, rfl, rfl, rfl, by omega, rfl, World.ownsRow_nil _ _ _ _, Below.refl _ _⟩
  case round =>
    obtain ⟨k, m, c', A', L, hk, rfl, rfl, hL, hmk, HLm, HO, HB⟩ := hrel
    have i0 : (0 : Int) ≤ (k : Int) := by omega
    by_cases hlt : k < n
    · have i1 : (k : Int) < (n : Int) := by omega
      obtain ⟨b, o, x, rfl, hbl, hx, x1, x2, x3, x4, hxs, _⟩ := (HL.out.keep HB.out).told_at hlt
      have HLs : Hid (∀ s ∈ L, s.size ≤ reachN) := fun s h => by
        rw [← hL.out] at h
        rcases putL_mem h with h | ⟨t, ht, e⟩
        · cases h
        · exact e ▸ (Htold.out t (List.mem_of_mem_take ht)).1
      have HE : Hid (putL [] (l.take (k + 1)) = put1 L x) := by
        show putL [] (l.take (k + 1)) = put1 L x
        rw [putL_take hx.out, hL.out]
      have Hxs := Lib.hid hxs
      have he0 := ba_emptyS x.x
      by_cases he : x.x.size = 0
      · have HT : Hid (putL [] (l.take (k + 1)) = L) := by rw [HE.out]; simp [put1, he0, he, Hid]
        have i2 : ¬ (0 : Int) < (x.x.size : Int) := by omega
        clear HE HLs he he0 hxs x2 x3 x4
        go_wp2_with fail
        go_roundw
        case rel => exact ⟨k + 1, m, c', A', L, by omega, by go_num, rfl, HT, by omega, HLm, HO, HB⟩
        case measure => simp [intOf]; omega
      · have i2 : (0 : Int) < (x.x.size : Int) := by omega
        rw [decide_eq_false he] at he0
        have hC := Lib.hid (has_any A' m c' L x.x wr (texts_is HO.out HLm.out (by omega) HLs.out))
        by_cases hm : x.x ∈ L
        · have HT : Hid (putL [] (l.take (k + 1)) = L) := by rw [HE.out]; simp [put1, he0, hm, Hid]
          rw [decide_eq_true hm] at hC
          clear hm HE HLs he he0 hxs x2 x3 x4
          go_wp2_with fail
          refine hC.out.mono ?_
          rintro e w1 ⟨rfl, hb1⟩
          have HO1 := Lib.hid (own_below HO.out hb1)
          have HB1 : Hid (Below w.heap.size w w1) := HB.out.trans (hb1.mono HB.out.size)
          clear hb1 hC
          go_wp2_with fail
          go_roundw
          case rel => exact ⟨k + 1, m, c', A', L, by omega, by go_num, rfl, HT, by omega, HLm, HO1, HB1⟩
          case measure => simp [intOf]; omega
        · have HT : Hid (putL [] (l.take (k + 1)) = L ++ [x.x]) := by rw [HE.out]; simp [put1, he0, hm, Hid]
          rw [decide_eq_false hm] at hC
          clear hm HE HLs he he0 hxs x2 x3 x4
          go_wp2_with fail
          refine hC.out.mono ?_
          rintro e w1 ⟨rfl, hb1⟩
          have hz1 := hb1.size
          have hzB := HB.out.size
          have HO1 := Lib.hid (own_below HO.out hb1)
          have x1b : w1.cell? ⟨b, o + k * 4, none⟩ = some (.string x.x) := (hb1.cell (p := ⟨b, o + k * 4, none⟩) (by show b < _; omega)).trans x1
          obtain ⟨A2, c2, w3, hrun, hown2, hb3, hk3⟩ := str_push HO1.out x.x (by omega) (by omega)
          have HRun := Lib.hid hrun
          have HO3 := Lib.hid hown2
          have HB3 : Hid (Below w.heap.size w w3) := (HB.out.trans (hb1.mono HB.out.size)).trans hb3
          have HLm2 : Hid ((L ++ [x.x]).length = m + 1) := by show _ = _; simp [HLm.out]
          clear hrun hown2 hk3 hb3 hC hb1 x1
          go_wp2_with (at_builtin; refine wpList_append_run rfl _ _ _ rfl _ _ rfl rfl (HRun.out _) ?_)
          go_roundw
          case rel => exact ⟨k + 1, m + 1, c2, A2, L ++ [x.x], by omega, by go_num, rfl, HT, by omega, HLm2, HO3, HB3⟩
          case measure => simp [intOf]; omega
    · have i1 : ¬ (k : Int) < (n : Int) := by omega
      have e : putL [] l = L := by rw [← hL.out, List.take_of_length_le (by have := hlen.out; omega)]
      have hPP : Hid (P (.returned (.slice A' m c')) wr) := by
        show P _ _
        rw [HP.out, e]
        exact ⟨A', c', by rw [HLm.out], by rw [HLm.out]; exact HO.out, HB.out⟩
      clear HP e
      go_wp2_with fail
      first | exact hPP.out | (go_ret; exact hPP.out)
end Go.Proofs.YtfklheagafffmaaGreatDoor

namespace Go.Proofs.YtfklheagafffmaaGreatDoor
open Go.RowKit
def CollR (L : List GTold) (w : World) (r : Ending) (w' : World) : Prop :=
  ∃ A c, r = .returned (.slice A L.length c) ∧ w'.ownsRow w.heap.size 49 4 (.slice A L.length c) L.length (L.flatMap GTold.cells) ∧ Below w.heap.size w w'
theorem rterm_info : (Tryz.prog.info? 49).map (fun i => (i.zero, i.size, i.bytes)) = some (some (.agg #[.string ⟨#[]⟩, .int .i64 0, .int .i64 0, .string ⟨#[]⟩]), 4, 48) := by kernel_rfl
theorem told_oneS (x : GTold) : ∀ u ∈ x.cells, u.oneCell' = true := by intro u hu; simp [GTold.cells] at hu; rcases hu with rfl | rfl | rfl | rfl <;> rfl
theorem rterms_app {W : World} {base : Nat} {A0 : Option Addr} {n0 c0 : Nat} {L0 : List GTold} {B : Nat} {A : Option Addr} {n c : Nat} {l : List GTold} (hown : W.ownsRow base 49 4 (.slice A0 n0 c0) n0 (L0.flatMap GTold.cells)) (hl : SliceIs Enc.told W B A n c l) (hn : n0 + n ≤ 100000) (hb : base ≤ W.heap.size) :
    ∃ A' c' W', (∀ ty, (Builtin.append_ #[30, 30] ty #[.slice A0 n0 c0, .slice A n c]).run Tryz.prog W = .ok (.slice A' (n0 + n) c') W') ∧ W'.ownsRow base 49 4 (.slice A' (n0 + n) c') (n0 + n) ((L0 ++ l).flatMap GTold.cells) ∧ Below base W W' := by
  obtain ⟨v', w', h1, h2, h3, h4⟩ := run_append_slice (P := Tryz.prog) (E := Enc.told) (B := B) (ty := 30) GTold.cells (fun _ => rfl) (fun h => h.1) told_oneS W (base := base) Tryz.underlying30 rterm_info rfl (by decide)
    hown hl (by simp [maxLen]; omega) (by omega) hb
  obtain ⟨A', c', rfl⟩ := own_form h2
  exact ⟨A', c', w', fun _ => h1, by rw [List.flatMap_append]; exact h2, h4⟩
theorem refInside_any (d : Nat) (x : GLit) (a p q : Hd) (w : World) (hx : LitAt d w w.heap.size x a p q) (hsz : (insideL x).length ≤ 1500) :
    Calls Tryz.prog 38 #[.agg (litC x a p q).toArray] w (CollR (insideL x) w) := by
  have hsz0 : x.atom.args.length + (leavesE x.l).length + (leavesE x.r).length ≤ 1500 := by unfold insideL at hsz; simp only [List.length_append] at hsz; omega
  obtain ⟨P, HP⟩ : ∃ P : Ending → World → Prop, Hid (P = CollR (insideL x) w) := ⟨_, rfl⟩
  rw [← HP.out]
  obtain ⟨V, hV⟩ : ∃ V, V = w.alloc (.cells (litC x a p q).toArray 54) := ⟨_, rfl⟩
  have HVe := Lib.hid hV.symm
  have hg : V.heap[w.heap.size]? = some (.cells (litC x a p q).toArray 54 (0, 0)) := by rw [hV]; exact heapNew rfl
  have hbV : Below w.heap.size w V := by rw [hV]; exact belowA (Below.refl _ _) _
  have hgl : w.heap.size < V.heap.size := (Array.getElem?_eq_some_iff.1 hg).1
  have Hk : Hid (∀ W, Below V.heap.size V W → W.cell? ⟨w.heap.size, 2, none⟩ = some (a.v) ∧ W.cell? ⟨w.heap.size, 4, none⟩ = some (.int .i64 x.l.op) ∧ W.cell? ⟨w.heap.size, 5, none⟩ = some (.string x.l.t.x) ∧ W.cell? ⟨w.heap.size, 6, none⟩ = some (.int .i64 x.l.t.v.k) ∧ W.cell? ⟨w.heap.size, 7, none⟩ = some (.int .i64 x.l.t.v.n) ∧ W.cell? ⟨w.heap.size, 8, none⟩ = some (.string x.l.t.v.s) ∧ W.cell? ⟨w.heap.size, 9, none⟩ = some (p.v) ∧ W.cell? ⟨w.heap.size, 10, none⟩ = some (.int .i64 x.r.op) ∧ W.cell? ⟨w.heap.size, 11, none⟩ = some (.string x.r.t.x) ∧ W.cell? ⟨w.heap.size, 12, none⟩ = some (.int .i64 x.r.t.v.k) ∧ W.cell? ⟨w.heap.size, 13, none⟩ = some (.int .i64 x.r.t.v.n) ∧ W.cell? ⟨w.heap.size, 14, none⟩ = some (.string x.r.t.v.s) ∧ W.cell? ⟨w.heap.size, 15, none⟩ = some (q.v)) := fun W h => by
    obtain ⟨h0, h1, h2, h3, h4, h5, h6, h7, h8, h9, h10, h11, h12, h13, h14, h15, h16⟩ := facts17 ((h.block w.heap.size hgl).trans hg)
    exact ⟨h2, h4, h5, h6, h7, h8, h9, h10, h11, h12, h13, h14, h15⟩
  have HX := Lib.hid (hx.keep hbV)
  have HbV := Lib.hid hbV
  have hb0 : Below V.heap.size V (V.drew.alloc (.cells #[] 49)) := belowA (Below.refl _ _).drew _
  have hal : x.atom.args.length = a.n := HX.out.args.1
  have hown0 : (V.drew.alloc (.cells #[] 49)).ownsRow V.heap.size 49 4 (.slice (some ⟨V.heap.size, 0, none⟩) 0 0) 0 (([] : List GTold).flatMap GTold.cells) := own_empty (Nat.le_refl _) (Go.heap_alloc_new V.drew _)
  obtain ⟨A1, c1, W1, hrun, hown1, hb1'⟩ := rterms_app hown0 (HX.out.args.below hb0) (by omega) hb0.size
  rw [Nat.zero_add] at hrun hown1
  rw [List.nil_append] at hown1
  have hb1 : Below V.heap.size V W1 := hb0.trans hb1'
  have HO1 := Lib.hid hown1
  have hz1 := hb1.size
  have HApp : Hid (∃ v' w', (Builtin.append_ #[30, 30] 30 #[.slice (some ⟨V.heap.size, 0, none⟩) 0 0, .slice a.A a.n a.c]).run Tryz.prog (V.drew.alloc (.cells #[] 49)) = .ok v' w' ∧ (v' = .slice A1 a.n c1 ∧ w' = W1)) := ⟨_, _, hrun _, rfl, rfl⟩
  clear hrun
  have hb : Below V.heap.size V V := Below.refl _ _
  obtain ⟨L1, HL1⟩ : ∃ L1, Hid (x.atom.args ++ leavesE x.l = L1) := ⟨_, rfl⟩
  have HL2 : Hid (L1 ++ leavesE x.r = insideL x) := by show _ = _; rw [← HL1.out]; simp [insideL]
  have HLn : Hid (L1.length = x.atom.args.length + (leavesE x.l).length) := by show _ = _; rw [← HL1.out]; simp
  have HT1 : Hid (∀ W A c, Below V.heap.size V W → W.ownsRow V.heap.size 49 4 (.slice A a.n c) a.n (x.atom.args.flatMap GTold.cells) → Calls Tryz.prog 64 #[expV x.l p.A p.n p.c, .slice A a.n c] W (RefTermsPost L1 V.heap.size W)) := fun W A c h1 h2 => by
    rw [← HL1.out]
    exact refTerms_any V.heap.size d x.l p.A p.n p.c A a.n c x.atom.args W (HX.out.lk.below h1) h1.size hal h2 (by omega)
  have HT2 : Hid (∀ W A c, Below V.heap.size V W → W.ownsRow V.heap.size 49 4 (.slice A L1.length c) L1.length (L1.flatMap GTold.cells) → Calls Tryz.prog 64 #[expV x.r q.A q.n q.c, .slice A L1.length c] W (RefTermsPost (insideL x) V.heap.size W)) := fun W A c h1 h2 => by
    rw [← HL2.out]
    exact refTerms_any V.heap.size d x.r q.A q.n q.c A L1.length c L1 W (HX.out.rk.below h1) h1.size rfl h2 (by rw [HLn.out]; omega)
  clear hg hV hbV hown0 hb1' hown1 hsz hx
  go_enter Tryz.func38, Tryz.ntmps38
  go_wp2_with (rw [HVe.out])
  go_region_held3 (fun w' => w'.cell? ⟨w.heap.size, 2, none⟩ = some (a.v) ∧ w'.cell? ⟨w.heap.size, 4, none⟩ = some (.int .i64 x.l.op) ∧ w'.cell? ⟨w.heap.size, 5, none⟩ = some (.string x.l.t.x) ∧ w'.cell? ⟨w.heap.size, 6, none⟩ = some (.int .i64 x.l.t.v.k) ∧ w'.cell? ⟨w.heap.size, 7, none⟩ = some (.int .i64 x.l.t.v.n) ∧ w'.cell? ⟨w.heap.size, 8, none⟩ = some (.string x.l.t.v.s) ∧ w'.cell? ⟨w.heap.size, 9, none⟩ = some (p.v) ∧ w'.cell? ⟨w.heap.size, 10, none⟩ = some (.int .i64 x.r.op) ∧ w'.cell? ⟨w.heap.size, 11, none⟩ = some (.string x.r.t.x) ∧ w'.cell? ⟨w.heap.size, 12, none⟩ = some (.int .i64 x.r.t.v.k) ∧ w'.cell? ⟨w.heap.size, 13, none⟩ = some (.int .i64 x.r.t.v.n) ∧ w'.cell? ⟨w.heap.size, 14, none⟩ = some (.string x.r.t.v.s) ∧ w'.cell? ⟨w.heap.size, 15, none⟩ = some (q.v))
    (first
      | (refine Hk.out _ ?_; (repeat (first | with_reducible exact Below.refl _ _ | with_reducible assumption | with_reducible refine Below.drew ?_ | with_reducible refine belowA ?_ _)); done)
      | go_keep)
    ((first
      | (refine step_append_ex (by rfl) (.tmp 7) (.tmp 10) _ (by rfl) _ _ (by rfl) (by rfl) _ HApp.out ?_
         rintro v1 w1 ⟨rfl, rfl⟩)
      | (go_at_call 64
         fail_if_success have := hb2
         refine (HT1.out w1 A1 c1 hb1 HO1.out).mono ?_
         rintro e w2 ⟨A2, c2, rfl, ho2, hq2, -, -⟩
         have hb2 : Below V.heap.size V w2 := hb1.trans hq2
         have HO2 := Lib.hid ho2
         clear ho2 hq2)
      | (go_at_call 64
         refine (HT2.out w2 A2 c2 hb2 HO2.out).mono ?_
         rintro e w3 ⟨A3, c3, rfl, ho3, hq3, -, -⟩
         have hb3 : Below V.heap.size V w3 := hb2.trans hq3
         have HPP : Hid (P (.returned (.slice A3 (insideL x).length c3)) w3) := by
           show P _ _
           rw [HP.out]
           exact ⟨A3, c3, rfl, own_down ho3 HbV.out.size, HbV.out.trans (hb3.mono HbV.out.size)⟩
         clear ho3 hq3)))
  all_goals
    go_wp2_with fail
    exact HPP.out
end Go.Proofs.YtfklheagafffmaaGreatDoor

namespace Go.Proofs.YtfklheagafffmaaGreatDoor
open Go.RowKit
theorem refIn_any (d : Nat) (x : GLit) (a p q : Hd) (w : World) (hx : LitAt d w w.heap.size x a p q) (hsz : (insideL x).length ≤ 1500) :
    Calls Tryz.prog 11 #[.agg (litC x a p q).toArray] w (TextsPost (varsL x) w) := by
  obtain ⟨P, HP⟩ : ∃ P : Ending → World → Prop, Hid (P = TextsPost (varsL x) w) := ⟨_, rfl⟩
  rw [← HP.out]
  obtain ⟨V, hV⟩ : ∃ V, V = w.alloc (.cells (litC x a p q).toArray 54) := ⟨_, rfl⟩
  have HVe := Lib.hid hV.symm
  have hg : V.heap[w.heap.size]? = some (.cells (litC x a p q).toArray 54 (0, 0)) := by rw [hV]; exact heapNew rfl
  have hbV : Below w.heap.size w V := by rw [hV]; exact belowA (Below.refl _ _) _
  have HRw := Lib.hid (row_cells hg)
  have K54 : Hid ((Tryz.prog.info? 54).map (·.size) = some (litC x a p q).length) := by show _ = some 17; kernel_rfl
  have HI := Lib.hid (refInside_any d x a p q V (hx.keep hbV) hsz)
  have Hok := Lib.hid (inside_ok hx)
  have HbV := Lib.hid hbV
  have HSz := Lib.hid hsz
  clear hx hV hg hbV hsz
  go_enter Tryz.func11, Tryz.ntmps11
  go_wp2_with (first
    | rw [HVe.out]
    | refine wpList_load_at w.heap.size 0 (litC x a p q) _ HRw.out Tryz.underlying54 rfl K54.out rfl rfl ?_)
  refine HI.out.mono ?_
  rintro e w1 ⟨A1, c1, rfl, ho1, hb1⟩
  have HN := Lib.hid (refNames_any A1 (insideL x).length c1 (insideL x) w1 (SliceIs.of_flat (E := Enc.told) GTold.cells (fun _ => rfl) ho1 rfl (by have := HSz.out; simp [reachN]; omega) (fun t ht => ⟨rfl, Hok.out t ht⟩)) (by have := HSz.out; omega))
  have HB1 : Hid (Below w.heap.size w w1) := HbV.out.trans (hb1.mono HbV.out.size)
  clear ho1 hb1 HI
  go_wp2_with fail
  refine HN.out.mono ?_
  rintro e w2 ⟨A2, c2, rfl, ho2, hb2⟩
  have HPP : Hid (P (.returned (.slice A2 (varsL x).length c2)) w2) := by
    show P _ _
    rw [HP.out]
    exact ⟨A2, c2, rfl, own_down ho2 HB1.out.size, HB1.out.trans (hb2.mono HB1.out.size)⟩
  have HPP : Hid (P (.returned (.slice A2 (putL [] (insideL x)).length c2)) w2) := HPP.out
  clear ho2 hb2 HN
  go_wp2_with fail
  exact HPP.out
theorem refOf_any (d : Nat) (e : GExp) (A : Option Addr) (n c : Nat) (w : World) (hk : SliceIs (Enc.exp d) w w.heap.size A n c e.kids) (hx : e.t.x.size ≤ reachN) (hv : e.t.v.ok) (hsz : (leavesE e).length ≤ 1500) :
    Calls Tryz.prog 57 #[expV e A n c] w (TextsPost (varsE e) w) := by
  obtain ⟨P, HP⟩ : ∃ P : Ending → World → Prop, Hid (P = TextsPost (varsE e) w) := ⟨_, rfl⟩
  rw [← HP.out]
  obtain ⟨V, hV⟩ : ∃ V, V = w.alloc (.cells (expC e A n c).toArray 52) := ⟨_, rfl⟩
  have HVe := Lib.hid hV.symm
  have hg : V.heap[w.heap.size]? = some (.cells (expC e A n c).toArray 52 (0, 0)) := by rw [hV]; exact heapNew rfl
  have hbV : Below w.heap.size w V := by rw [hV]; exact belowA (Below.refl _ _) _
  have Hok := Lib.hid (leaves_ok d e A n c w _ hk hx hv)
  obtain ⟨b0, b1, b2, b3, b4, b5⟩ := facts6 hg
  have HT := Lib.hid (refTerms_any V.heap.size d e A n c none 0 0 [] V (hk.keep hbV) (Nat.le_refl _) rfl (World.ownsRow_nil _ _ _ _) (by omega))
  rw [List.nil_append] at HT
  have HbV := Lib.hid hbV
  have HSz := Lib.hid hsz
  clear hk hx hv hV hg hbV hsz
  go_enter Tryz.func57, Tryz.ntmps57
  go_wp2_with (rw [HVe.out])
  refine HT.out.mono ?_
  rintro r w1 ⟨A1, c1, rfl, ho1, hb1, -, -⟩
  have HN := Lib.hid (refNames_any A1 (leavesE e).length c1 (leavesE e) w1 (SliceIs.of_flat (E := Enc.told) GTold.cells (fun _ => rfl) ho1 rfl (by have := HSz.out; simp [reachN]; omega) (fun t ht => ⟨rfl, Hok.out t ht⟩)) (by have := HSz.out; omega))
  have HB1 : Hid (Below w.heap.size w w1) := HbV.out.trans (hb1.mono HbV.out.size)
  clear ho1 hb1 HT
  go_wp2_with fail
  refine HN.out.mono ?_
  rintro r w2 ⟨A2, c2, rfl, ho2, hb2⟩
  have HPP : Hid (P (.returned (.slice A2 (putL [] (leavesE e)).length c2)) w2) := by
    show P _ _
    rw [HP.out]
    exact ⟨A2, c2, rfl, own_down ho2 HB1.out.size, HB1.out.trans (hb2.mono HB1.out.size)⟩
  clear ho2 hb2 HN
  go_wp2_with fail
  exact HPP.out
theorem refAll09_any (A : Option Addr) (n c : Nat) (S : List ByteArray) (B : Option Addr) (m d : Nat) (L : List ByteArray) (w : World) (hS : SliceIs Enc.str w w.heap.size A n c S) (hL : SliceIs Enc.str w w.heap.size B m d L) :
    Calls Tryz.prog 30 #[.slice A n c, .slice B m d] w (RetBool (allB S L) w) := by
  have hn := hL.bound
  have Hlen := Lib.hid hL.1
  have HS := Lib.hid hS
  have HL := Lib.hid hL
  clear hS hL
  go_enter Tryz.func30, Tryz.ntmps30
  go_wp2_with fail
  go_loopw [5] (fun i wr => ∃ k : Nat, k ≤ m ∧ i = .int .i64 (k : Int) ∧ Hid (∀ s ∈ L.take k, s ∈ S) ∧ Hid (Below w.heap.size w wr)) (fun i _ => m - (intOf i).toNat)
  case atStart => exact ⟨0, by omega, rfl, (fun s hs => by simp at hs), Below.refl _ _⟩
  case round =>
    obtain ⟨k, hk, rfl, Hp, HB⟩ := hrel
    have i0 : (0 : Int) ≤ (k : Int) := by omega
    by_cases hlt : k < m
    · have i1 : (k : Int) < (m : Int) := by omega
      obtain ⟨b, o, x, rfl, -, hx, x0, -⟩ := (HL.out.keep HB.out).str_at hlt
      have HC := Lib.hid (has_any A n c S x wr (HS.out.keep HB.out))
      by_cases hm : x ∈ S
      · rw [decide_eq_true hm] at HC
        have Hp2 : Hid (∀ s ∈ L.take (k + 1), s ∈ S) := fun s hs => by
          rw [List.take_add_one, hx.out] at hs
          rcases List.mem_append.1 hs with hs | hs
          · exact Hp.out s hs
          · simp at hs; subst hs; exact hm
        clear hm
        go_wp2_with fail
        refine HC.out.mono ?_
        rintro e w1 ⟨rfl, hb1⟩
        have HB1 : Hid (Below w.heap.size w w1) := HB.out.trans (hb1.mono HB.out.size)
        clear hb1 HC
        go_wp2_with fail
        go_roundw
        case rel => exact ⟨k + 1, by omega, by go_num, Hp2, HB1⟩
        case measure => simp [intOf]; omega
      · rw [decide_eq_false hm] at HC
        have Hf : Hid (allB S L = false) := by
          show _ = _
          rw [Bool.eq_false_iff]
          intro h
          exact hm (allB_iff.1 h x (List.mem_of_getElem? hx.out))
        clear hm
        go_wp2_with fail
        refine HC.out.mono ?_
        rintro e w1 ⟨rfl, hb1⟩
        have HB1 : Hid (Below w.heap.size w w1) := HB.out.trans (hb1.mono HB.out.size)
        clear hb1 HC
        go_wp2_with fail
        go_ret
        exact ⟨by (rw [Hf.out]) <;> rfl, HB1.out⟩
    · have i1 : ¬ (k : Int) < (m : Int) := by omega
      have Hf : Hid (allB S L = true) := by
        show _ = _
        rw [allB_iff]
        intro s hs
        exact Hp.out s (by rw [List.take_of_length_le (by have := Hlen.out; omega)]; exact hs)
      go_wp2_with fail
      go_ret
      exact ⟨by (rw [Hf.out]) <;> rfl, HB.out⟩
theorem refAlone_any (e : GExp) (A : Option Addr) (n c : Nat) (w : World) (hn : e.kids.length = n) : Calls Tryz.prog 56 #[expV e A n c] w (fun r w' => r = .returned (.string (aloneE e)) ∧ Below w.heap.size w w') := by
  subst hn
  have hb0 : ∀ o, Below w.heap.size w (w.alloc o) := fun o => belowA (Below.refl _ _) _
  have HB := Lib.hid hb0
  clear hb0
  by_cases h0 : e.op = 0
  · by_cases h1 : e.kids.length = 0
    · have Ha : Hid (aloneE e = e.t.x) := if_pos ⟨h0, h1⟩
      go_enter Tryz.func56, Tryz.ntmps56
      go_wp2_with fail
      go_ret
      exact ⟨by rw [Ha.out]; rfl, HB.out _⟩
    · have Ha : Hid (aloneE e = ⟨#[]⟩) := if_neg (fun h => h1 h.2)
      have i1 : ¬ (e.kids.length : Int) = 0 := by omega
      go_enter Tryz.func56, Tryz.ntmps56
      go_wp2_with fail
      go_ret
      exact ⟨by rw [Ha.out]; rfl, HB.out _⟩
  · have Ha : Hid (aloneE e = ⟨#[]⟩) := if_neg (fun h => h0 h.1)
    go_enter Tryz.func56, Tryz.ntmps56
    go_wp2_with fail
    go_ret
    exact ⟨by rw [Ha.out]; rfl, HB.out _⟩
end Go.Proofs.YtfklheagafffmaaGreatDoor
