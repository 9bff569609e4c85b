/- My own texts TVar, TRight, ExpSize, Drawn, ExpTerms, TSmall, PushR, as far as this claim needs them. -/
import Derived.Test.YtgphngjniplonaaGreatDoorZp9
import Derived.Test.YtgphngjniplonaaGreatDoorZpa3
set_option linter.unusedVariables false
set_option linter.unusedSimpArgs false
set_option maxRecDepth 1000000
set_option maxHeartbeats 16000000
namespace Go.Proofs.YtgphngjniplonaaGreatDoor
open Go.RowKit
theorem refSingle_any (s : ByteArray) (k : Int) (w : World) : Calls Tryz.prog 91 #[.string s, .int .i64 k] w (RetBool (singleB k s) w) := by
  have HL := Lib.hid (refAll_any s w)
  obtain ⟨B, HB⟩ : ∃ B, Hid (B = singleB k s) := ⟨_, rfl⟩
  rw [← HB.out]
  go_enter Tryz.func91, Tryz.ntmps91
  go_wp2_with fail
  refine HL.out.mono ?_
  rintro e w1 ⟨hb, ⟨h4, rfl⟩ | ⟨h4, ⟨p, hp, rfl⟩ | ⟨hn, A, c, rfl, hA⟩⟩⟩
  · have HE : Hid (B = false) := by show _ = _; rw [HB.out]; exact single_long h4
    have Hb := Lib.hid hb
    clear h4 hb HB
    go_wp2_with fail
    go_ret
    exact ⟨by rw [HE.out]; rfl, Hb.out⟩
  · have HE : Hid (B = false) := by show _ = _; rw [HB.out]; exact single_bad hp
    have Hb := Lib.hid hb
    clear h4 hb HB hp
    go_wp2_with fail
    go_ret
    exact ⟨by rw [HE.out]; rfl, Hb.out⟩
  · by_cases h1 : (lexS s.toList).1.length = 1
    · obtain ⟨q, hq⟩ := one_of h1
      have HE : Hid (B = (decide (q.k = k) && decide (q.t = s.toList))) := by show _ = _; rw [HB.out]; exact single_one h4 hq hn
      rw [hq] at hA
      obtain ⟨b, o, x, rfl, hbB, hx, x0, x1, x2, f0, f1, f2⟩ := hA.tok_at (i := 0) (by simp)
      obtain rfl : x = q := by have := hx.out; simp at this; exact this.symm
      have Hb := Lib.hid hb
      rw [h1]
      simp only [Nat.zero_mul, Nat.add_zero] at x0 x1 x2
      have e1 : (bytes x.t).toList = x.t := toList_mk _
      clear h4 hb HB h1 hq hn hA hx f0 f1 f2
      by_cases hk : x.k = k
      · have k0 : (x.k == k) = true := by simp [hk]
        by_cases ht : x.t = s.toList
        · have t0 : (x.t == s.toList) = true := by simp [ht]
          have HE3 : Hid (B = true) := by show _ = _; rw [HE.out]; simp [hk, ht]
          clear hk ht HE
          go_wp2_with fail
          go_ret
          exact ⟨by rw [HE3.out]; rfl, Hb.out⟩
        · have t0 : (x.t == s.toList) = false := by simp [ht]
          have HE3 : Hid (B = false) := by show _ = _; rw [HE.out]; simp [ht]
          clear hk ht HE
          go_wp2_with fail
          go_ret
          exact ⟨by rw [HE3.out]; rfl, Hb.out⟩
      · have k0 : (x.k == k) = false := by simp [hk]
        have HE3 : Hid (B = false) := by show _ = _; rw [HE.out]; simp [hk]
        clear hk HE
        go_wp2_with fail
        go_ret
        exact ⟨by rw [HE3.out]; rfl, Hb.out⟩
    · have HE : Hid (B = false) := by show _ = _; rw [HB.out]; exact single_many h1
      have Hb := Lib.hid hb
      have q0 : ((((lexS s.toList).1.length : Nat) : Int) == 1) = false := by simp; omega
      clear h4 hb HB h1 hn hA
      go_wp2_with fail
      go_ret
      exact ⟨by rw [HE.out]; rfl, Hb.out⟩
theorem refVariable_any (s : ByteArray) (w : World) : Calls Tryz.prog 161 #[.string s] w (RetBool (singleB 3 s) w) := by
  have HL := Lib.hid (refSingle_any s 3 w)
  go_enter Tryz.func161, Tryz.ntmps161
  go_wp2_with fail
  refine HL.out.mono ?_
  rintro e w1 ⟨rfl, hb⟩
  go_wp2_with fail
  go_ret
  exact ⟨rfl, hb⟩
theorem refNamed_any (s : ByteArray) (w : World) : Calls Tryz.prog 61 #[.string s] w (RetBool (singleB 2 s) w) := by
  have HL := Lib.hid (refSingle_any s 2 w)
  go_enter Tryz.func61, Tryz.ntmps61
  go_wp2_with fail
  refine HL.out.mono ?_
  rintro e w1 ⟨rfl, hb⟩
  go_wp2_with fail
  go_ret
  exact ⟨rfl, hb⟩
end Go.Proofs.YtgphngjniplonaaGreatDoor

namespace Go.Proofs.YtgphngjniplonaaGreatDoor
open Go.RowKit
theorem refTright_any (t : GTold) (hv : t.v.ok) (w : World) : Calls Tryz.prog 128 #[toldV t] w (RetBool (rightT t) w) := by
  obtain ⟨B, HB⟩ : ∃ B, Hid (B = rightT t) := ⟨_, rfl⟩
  rw [← HB.out]
  have hrb : (w.alloc (.cells #[.string t.x, .int .i64 t.v.k, .int .i64 t.v.n, .string t.v.s] 105)).heap[w.heap.size]? = some (.cells #[.string t.x, .int .i64 t.v.k, .int .i64 t.v.n, .string t.v.s] 105 (0, 0)) := heapNew rfl
  have hba : Below w.heap.size w (w.alloc (.cells #[.string t.x, .int .i64 t.v.k, .int .i64 t.v.n, .string t.v.s] 105)) := belowA (Below.refl _ _) _
  have HR := Lib.hid (fun W => refRight_any t.v hv W)
  have HV := Lib.hid (fun W => refVariable_any t.x W)
  generalize hwb : w.alloc (.cells #[.string t.x, .int .i64 t.v.k, .int .i64 t.v.n, .string t.v.s] 105) = wb at *
  obtain ⟨b0, b1, b2, b3⟩ := facts4 hrb
  have Hlt := Lib.hid (Array.getElem?_eq_some_iff.1 hrb).1
  by_cases h0 : t.x.size = 0
  · have e0 : ((t.x.size : Int) == 0) = true := by simp [h0]
    have HE : Hid (B = rightB t.v) := by show _ = _; rw [HB.out]; simp [rightT, h0]
    clear h0 HB
    go_enter Tryz.func128, Tryz.ntmps128
    go_wp2_with fail
    try simp only [hwb]
    go_wp2_with fail
    refine (HR.out _).mono ?_
    rintro e w1 ⟨rfl, hb⟩
    have Hb := Lib.hid hb
    clear hb
    go_wp2_with fail
    go_ret
    exact ⟨by rw [HE.out]; rfl, below_next hba Hb.out⟩
  · have e0 : ((t.x.size : Int) == 0) = false := by rw [beq_eq_false_iff_ne]; omega
    have HE : Hid (B = (singleB 3 t.x && decide (t.v = gv0))) := by show _ = _; rw [HB.out]; simp [rightT, h0]
    clear h0 HB
    go_enter Tryz.func128, Tryz.ntmps128
    go_wp2_with fail
    try simp only [hwb]
    go_wp2_with fail
    refine (HV.out _).mono ?_
    rintro e w1 ⟨rfl, hb⟩
    have Hb := Lib.hid hb
    obtain ⟨c0, c1, c2, c3⟩ := facts4 ((hb.block _ Hlt.out).trans hrb)
    clear hb
    cases hs : singleB 3 t.x with
    | false =>
      have HE2 : Hid (B = false) := by show _ = _; rw [HE.out, hs]; rfl
      clear HE hs
      go_wp2_with fail
      go_ret
      exact ⟨by rw [HE2.out]; rfl, below_next hba Hb.out⟩
    | true =>
      have HE2 : Hid (B = decide (t.v = gv0)) := by show _ = _; rw [HE.out, hs]; rfl
      clear HE hs
      go_wp2_with fail
      all_goals
        go_ret
        refine ⟨?_, below_next hba Hb.out⟩
        have hE := HE2.out
        clear HE2 Hb HR HV c0 c1 c2 c3 b0 b1 b2 b3 hwb hrb hba Hlt
        simp_all [gv_zero]
end Go.Proofs.YtgphngjniplonaaGreatDoor

namespace Go.Proofs.YtgphngjniplonaaGreatDoor
open Go.RowKit
mutual
def szE : GExp → Int → Int
  | .mk _ t ks, left => szL ks (left - (1 + (((t.x.size + t.v.s.size) / 50 : Nat) : Int)))
def szL : List GExp → Int → Int
  | [], l => l
  | k :: ks, l => if l < 0 then -1 else szL ks (szE k l)
end
theorem szE_def (e : GExp) (l : Int) : szE e l = szL e.kids (l - (1 + (((e.t.x.size + e.t.v.s.size) / 50 : Nat) : Int))) := by
  cases e; rw [szE]; rfl
mutual
theorem szE_le : ∀ (e : GExp) (l : Int), 0 ≤ l → szE e l ≤ l
  | .mk _ t ks, l, h => by
    rw [szE]
    have := szL_le ks (l - (1 + (((t.x.size + t.v.s.size) / 50 : Nat) : Int)))
    omega
theorem szL_le : ∀ (ks : List GExp) (l : Int), szL ks l ≤ max l (-1)
  | [], l => by rw [szL]; omega
  | k :: ks, l => by
    rw [szL]
    split
    · omega
    · have h1 := szE_le k l (by omega)
      have h2 := szL_le ks (szE k l)
      omega
end
abbrev expV (e : GExp) (A : Option Addr) (n c : Nat) : Value := .agg #[.int .i64 e.op, .string e.t.x, .int .i64 e.t.v.k, .int .i64 e.t.v.n, .string e.t.v.s, .slice A n c]
theorem exp_any : ∀ (d : Nat) (e : GExp) (A : Option Addr) (n c : Nat) (left : Int) (w : World), SliceIs (Enc.exp d) w w.heap.size A n c e.kids → e.t.x.size ≤ reachN → e.t.v.s.size ≤ reachN → -1000000000000000 ≤ left → left ≤ 100000 →
    Calls Tryz.prog 54 #[expV e A n c, .int .i64 left] w (RetInt (szE e left) w) := by
  intro d
  induction d using Nat.strongRecOn with
  | ind d ih =>
    intro e A n c left w hk hx hs h0 h1
    have IH := Lib.hid ih
    have hn := hk.bound
    have HK := Lib.hid hk
    have Hlen := Lib.hid hk.1
    obtain ⟨R, HR⟩ : ∃ R, Hid (R = szE e left) := ⟨_, rfl⟩
    rw [← HR.out]
    have hx' : e.t.x.size ≤ 140737488351232 := hx
    have hs' : e.t.v.s.size ≤ 140737488351232 := hs
    obtain ⟨c0, hc0, hc1⟩ : ∃ c0 : Nat, ((e.t.x.size : Int) + (e.t.v.s.size : Int)).tdiv 50 = (c0 : Int) ∧ c0 = (e.t.x.size + e.t.v.s.size) / 50 := ⟨(e.t.x.size + e.t.v.s.size) / 50, by rw [Int.tdiv_eq_ediv_of_nonneg (by omega)]; omega, rfl⟩
    have HR2 : Hid (R = szL (e.kids.drop 0) (left - (1 + (c0 : Int)))) := by
      show _ = _
      rw [HR.out, szE_def, hc1]; rfl
    have hc2 : c0 ≤ 281474976710656 := by omega
    have hrb : (w.alloc (.cells #[.int .i64 e.op, .string e.t.x, .int .i64 e.t.v.k, .int .i64 e.t.v.n, .string e.t.v.s, .slice A n c] 94)).heap[w.heap.size]? = some (.cells #[.int .i64 e.op, .string e.t.x, .int .i64 e.t.v.k, .int .i64 e.t.v.n, .string e.t.v.s, .slice A n c] 94 (0, 0)) := heapNew rfl
    have b1 : (w.alloc (.cells #[.int .i64 e.op, .string e.t.x, .int .i64 e.t.v.k, .int .i64 e.t.v.n, .string e.t.v.s, .slice A n c] 94)).cell? ⟨w.heap.size, 1, none⟩ = some (.string e.t.x) := (cell_of_row _ _ 1 _ _ _ hrb).trans rfl
    have b4 : (w.alloc (.cells #[.int .i64 e.op, .string e.t.x, .int .i64 e.t.v.k, .int .i64 e.t.v.n, .string e.t.v.s, .slice A n c] 94)).cell? ⟨w.heap.size, 4, none⟩ = some (.string e.t.v.s) := (cell_of_row _ _ 4 _ _ _ hrb).trans rfl
    have b5 : (w.alloc (.cells #[.int .i64 e.op, .string e.t.x, .int .i64 e.t.v.k, .int .i64 e.t.v.n, .string e.t.v.s, .slice A n c] 94)).cell? ⟨w.heap.size, 5, none⟩ = some (.slice A n c) := (cell_of_row _ _ 5 _ _ _ hrb).trans rfl
    have hb0 : Below w.heap.size w (w.alloc (.cells #[.int .i64 e.op, .string e.t.x, .int .i64 e.t.v.k, .int .i64 e.t.v.n, .string e.t.v.s, .slice A n c] 94)) := belowA (Below.refl _ _) _
    clear ih hk hrb hc1 HR
    go_enter Tryz.func54, Tryz.ntmps54
    go_wp2_with fail
    go_loopw [1, 6, 24] (fun lv _ i wr => ∃ (j : Nat) (l : Int), j ≤ n ∧ i = .int .i64 j ∧ lv = .int .i64 l ∧ l ≤ 100000 ∧ Hid (R = szL (e.kids.drop j) l) ∧ Below w.heap.size w wr) (fun _ _ i _ => n - (intOf i).toNat)
    case atStart => exact ⟨0, left - (1 + (c0 : Int)), by omega, rfl, by go_num, by omega, HR2, hb0⟩
    case round =>
      obtain ⟨j, l, hj, rfl, rfl, hl, HRj, hbr⟩ := hrel
      have i0 : (0 : Int) ≤ (j : Int) := by omega
      by_cases hlt : j < n
      · have i1 : (j : Int) < (n : Int) := by omega
        obtain ⟨b, o, k, A', n', c', d', rfl, hb, hk', hd, x0, x1, x2, x3, x4, x5, -, f1, f2, hkk⟩ := (HK.out.below hbr).exp_at hlt
        have HRk : Hid (R = if l < 0 then -1 else szL (e.kids.drop (j + 1)) (szE k l)) := by
          show _ = _
          rw [HRj.out]
          obtain ⟨g1, g2⟩ := List.getElem?_eq_some_iff.1 hk'.out
          rw [List.drop_eq_getElem_cons g1, g2, szL]
        by_cases hneg : l < 0
        · have HR1 : Hid (R = -1) := by show _ = _; rw [HRk.out, if_pos hneg]
          clear HRk HRj hk' hd
          go_wp2_with fail
          go_ret
          exact ⟨by rw [HR1.out]; rfl, belowA hbr _⟩
        · have HR1 : Hid (R = szL (e.kids.drop (j + 1)) (szE k l)) := by show _ = _; rw [HRk.out, if_neg hneg]
          have hle := szE_le k l (by omega)
          have hba : Below w.heap.size w (wr.alloc (.cells #[.int .i64 k.op, .string k.t.x, .int .i64 k.t.v.k, .int .i64 k.t.v.n, .string k.t.v.s, .slice A' n' c'] 94)) := belowA hbr _
          have HC := Lib.hid (IH.out d' (by omega) k A' n' c' l (wr.alloc (.cells #[.int .i64 k.op, .string k.t.x, .int .i64 k.t.v.k, .int .i64 k.t.v.n, .string k.t.v.s, .slice A' n' c'] 94)) (hkk.mono hba.size (fun bb hbb => (belowA (Below.refl _ _) _).block bb (by have := hbr.size; omega))) f1 f2.2.2 (by omega) hl)
          generalize szE k l = lk at *
          clear HRk HRj hk' hd
          go_wp2_with fail
          refine HC.out.mono ?_
          rintro e2 w2 ⟨rfl, hb2⟩
          go_wp2_with fail
          go_roundw
          case rel => exact ⟨j + 1, lk, by omega, by go_num, rfl, by omega, HR1, below_next hba hb2⟩
          case measure => simp [intOf]; omega
      · have i1 : ¬ (j : Int) < (n : Int) := by omega
        have HR1 : Hid (R = l) := by
          show _ = _
          rw [HRj.out, List.drop_eq_nil_of_le (by rw [Hlen.out]; omega), szL]
        clear HRj
        go_wp2_with fail
        go_ret
        exact ⟨by rw [HR1.out]; rfl, hbr⟩
end Go.Proofs.YtgphngjniplonaaGreatDoor

namespace Go.Proofs.YtgphngjniplonaaGreatDoor
open Go.RowKit
section
variable {P : Program} {ops : Array Oper} {Q : Exit → Act → World → Prop}
theorem op_alloc {P : Program} {o : Oper} {a : Act} {w : World} {K : Act → World → Prop} {Q : Exit → Act → World → Prop} (ty : TypeId) (ho : o.op = .alloc ty) (zs : Array Value) (n : Nat) (hi : (P.info? ty).map (fun i => (i.zero, i.size)) = some (some (.agg zs), n))
    (h : K (a.put o.dst (.pointer (some ⟨w.heap.size, 0, none⟩))) (w.alloc (.cells zs ty))) : o.wp P a w K Q := by
  obtain ⟨i, hi1, hi2⟩ := Option.map_eq_some_iff.1 hi
  injection hi2 with h1 h2
  have hzv : (zeroValue ty).run P w = .ok (.agg zs) w := by simp [zeroValue, typeInfo, hi1, h1]
  unfold Oper.wp execOp
  simp [ho, go_sem, hzv]
  exact h
end
end Go.Proofs.YtgphngjniplonaaGreatDoor

namespace Go.Proofs.YtgphngjniplonaaGreatDoor
open Go.RowKit
mutual
/-- an expression's terms -/
def leavesE : GExp → List GTold
  | .mk _ t [] => [t]
  | .mk _ _ (k :: ks) => leavesE k ++ leavesL ks
def leavesL : List GExp → List GTold
  | [] => []
  | k :: ks => leavesE k ++ leavesL ks
end
def KeepsT (T : TypeId) (w w' : World) : Prop := ∀ (b : Nat) (cs : Array Value) (t : TypeId) (fr : Nat × Nat), w.heap[b]? = some (Obj.cells cs t fr) → t ≠ T → w'.heap[b]? = some (Obj.cells cs t fr)
theorem KeepsT.trans {T : TypeId} {w w1 w2 : World} (h : KeepsT T w w1) (k : KeepsT T w1 w2) : KeepsT T w w2 := fun b cs t fr hb ht => k b cs t fr (h b cs t fr hb ht) ht
theorem KeepsT.of_below {T : TypeId} {w w' : World} (h : Below w.heap.size w w') : KeepsT T w w' := fun b _ _ _ hb _ => (h.block b (Array.getElem?_eq_some_iff.1 hb).1).trans hb
theorem own_type {w : World} {base e sz : Nat} {v : Value} {n : Nat} {xs : List Value} (h : w.ownsRow base e sz v n xs) {b : Nat} (hb : v.ownBlock = some b) : ∃ cur, w.heap[b]? = some (.cells cur e (0, 0)) := by
  rcases h.2 with ⟨hn, _⟩ | ⟨g, cap, cur, rfl, hg, hh, r⟩
  · rw [hn] at hb; cases hb
  · injection hb with hb; subst hb; exact ⟨cur, hh⟩
theorem term5_info : (Tryz.prog.info? 105).map (fun i => (i.zero, i.size, i.bytes)) = some (some (.agg #[.string ⟨#[]⟩, .int .i64 0, .int .i64 0, .string ⟨#[]⟩]), 4, 48) := by kernel_rfl
theorem term5_push {W : World} {base : Nat} {A : Option Addr} {c k : Nat} {xs : List GTold} (hown : W.ownsRow base 105 4 (.slice A k c) k (xs.flatMap GTold.cells)) (q : GTold) (hn : k + 1 ≤ 1000000) (hb : base ≤ W.heap.size) :
    ∃ A' c' w', (∀ ty, (Builtin.append_ #[98, 98] ty #[.slice A k c, .slice (some ⟨W.heap.size, 0, none⟩) 1 1]).run Tryz.prog (W.alloc (.cells #[.string q.x, .int .i64 q.v.k, .int .i64 q.v.n, .string q.v.s] 105)) = .ok (.slice A' (k + 1) c') w') ∧
      w'.ownsRow base 105 4 (.slice A' (k + 1) c') (k + 1) ((xs ++ [q]).flatMap GTold.cells) ∧ Below base W w' ∧ KeepsT 105 W w' := by
  have ho : (W.alloc (.cells #[.string q.x, .int .i64 q.v.k, .int .i64 q.v.n, .string q.v.s] 105)).ownsRow base 105 4 (.slice A k c) k (xs.flatMap GTold.cells) := own_below hown (belowA (Below.refl _ _) _)
  obtain ⟨v', w', h1, h2, h3, h4⟩ := run_push_at (P := Tryz.prog) (ty := 98) (W.alloc (.cells #[.string q.x, .int .i64 q.v.k, .int .i64 q.v.n, .string q.v.s] 105)) (base := base) Tryz.underlying98 term5_info rfl (by decide) ho W.heap.size (GTold.cells q) rfl (heapNew rfl) (by intro u hu; simp [GTold.cells] at hu; rcases hu with rfl | rfl | rfl | rfl <;> rfl)
    (by simp [maxLen]; omega) (by omega) (by simp; omega)
  obtain ⟨A', c', rfl⟩ := own_form h2
  refine ⟨A', c', w', fun _ => h1, ?_, ?_, ?_⟩
  · rw [List.flatMap_append]; simpa using h2
  · exact ((Below.refl base W).alloc hb _).trans h4
  · have k1 : KeepsT 105 W (W.alloc (.cells #[.string q.x, .int .i64 q.v.k, .int .i64 q.v.n, .string q.v.s] 105)) := KeepsT.of_below (belowA (Below.refl _ _) _)
    refine k1.trans ?_
    intro b cs t fr hbb ht
    refine ((grown_out h3).block b (Array.getElem?_eq_some_iff.1 hbb).1 (fun hbo => ?_)).trans hbb
    obtain ⟨cur, hc⟩ := own_type ho (b := b) (by simpa using hbo)
    rw [hc] at hbb
    injection hbb with hbb; injection hbb with _ h5 _; exact ht h5.symm
end Go.Proofs.YtgphngjniplonaaGreatDoor

namespace Go.Proofs.YtgphngjniplonaaGreatDoor
open Go.RowKit
theorem szL_pos : ∀ (ks : List GExp) (l : Int), 0 ≤ szL ks l → 0 ≤ l
  | [], l, h => by rw [szL] at h; exact h
  | k :: ks, l, h => by
    rw [szL] at h
    split at h
    · omega
    · omega
theorem szE_pos (e : GExp) (l : Int) (h : 0 ≤ szE e l) : 1 ≤ l := by
  rw [szE_def] at h
  have := szL_pos _ _ h
  omega
theorem szL_mem : ∀ (ks : List GExp) (l : Int), 0 ≤ szL ks l → ∀ k ∈ ks, ∃ l', 0 ≤ l' ∧ l' ≤ l ∧ 0 ≤ szE k l'
  | [], l, h, k, hk => by cases hk
  | q :: ks, l, h, k, hk => by
    rw [szL] at h
    split at h
    · omega
    · have h1 := szL_pos _ _ h
      rcases List.mem_cons.1 hk with rfl | hk
      · exact ⟨l, by omega, by omega, h1⟩
      · obtain ⟨l', a, b, c⟩ := szL_mem ks _ h k hk
        have := szE_le q l (by omega)
        exact ⟨l', a, by omega, c⟩
theorem szL_len : ∀ (ks : List GExp) (l : Int), 0 ≤ szL ks l → (ks.length : Int) ≤ l - szL ks l
  | [], l, h => by rw [szL]; simp
  | k :: ks, l, h => by
    rw [szL] at h ⊢
    split at h
    · omega
    · rename_i hl
      rw [if_neg hl]
      have h1 := szL_pos _ _ h
      have h2 := szL_len ks _ h
      have h3 := szL_pos _ _ (by rw [szE_def] at h1; exact h1)
      have h4 : szE k l ≤ l - 1 := by
        rw [szE_def]
        have := szL_le k.kids (l - (1 + (((k.t.x.size + k.t.v.s.size) / 50 : Nat) : Int)))
        omega
      simp only [List.length_cons]
      omega
mutual
theorem leavesE_len : ∀ (e : GExp) (l : Int), 0 ≤ szE e l → ((leavesE e).length : Int) ≤ l - szE e l
  | .mk o t [], l, h => by rw [szE, szL, leavesE]; simp; omega
  | .mk o t (k :: ks), l, h => by
    rw [szE, szL] at h ⊢
    split at h
    · omega
    · rename_i hl
      rw [if_neg hl]
      have h1 := szL_pos _ _ h
      have h2 := leavesE_len k _ h1
      have h3 := leavesL_len ks _ h
      rw [leavesE]
      simp only [List.length_append]
      omega
theorem leavesL_len : ∀ (ks : List GExp) (l : Int), 0 ≤ szL ks l → ((leavesL ks).length : Int) ≤ l - szL ks l
  | [], l, h => by rw [szL, leavesL]; simp
  | k :: ks, l, h => by
    rw [szL] at h ⊢
    split at h
    · omega
    · rename_i hl
      rw [if_neg hl]
      have h1 := szL_pos _ _ h
      have h2 := leavesE_len k _ h1
      have h3 := leavesL_len ks _ h
      rw [leavesL]
      simp only [List.length_append]
      omega
end
def Sm (e : GExp) : Prop := ∃ l : Int, 0 ≤ l ∧ l ≤ 1500 ∧ 0 ≤ szE e l
theorem Sm.of {e : GExp} {l : Int} (h : 0 ≤ szE e l) (hl : l ≤ 1500) : Sm e := ⟨l, by have := szE_pos e l h; omega, hl, h⟩
theorem Sm.kids {e : GExp} (h : Sm e) : ∀ k ∈ e.kids, Sm k := by
  obtain ⟨l, h0, h1, h2⟩ := h
  rw [szE_def] at h2
  intro k hk
  obtain ⟨l', a, b, c⟩ := szL_mem _ _ h2 k hk
  exact ⟨l', a, by omega, c⟩
theorem Sm.len {e : GExp} (h : Sm e) : e.kids.length ≤ 1500 := by
  obtain ⟨l, h0, h1, h2⟩ := h
  rw [szE_def] at h2
  have := szL_len _ _ h2
  omega
end Go.Proofs.YtgphngjniplonaaGreatDoor

namespace Go.Proofs.YtgphngjniplonaaGreatDoor
open Go.RowKit
section
variable {P : Program}
theorem below_nextR {w W w1 : World} (h : Below w.heap.size w W) (h' : Below W.heap.size W w1) : Below w.heap.size w w1 := h.trans (h'.mono h.size)
abbrev pushOps (T sT xT f tb tx fld d0 d1 d2 d3 d4 d5 d6 : Nat) (y0 y1 y2 y3 y4 y5 y6 y7 : TypeId) (p : String) : Array Oper := #[
  { dst := some d0, op := .fieldAddr T (.tmp tb) fld, type := y0, pos := p, after := #[], guard := none },
  { dst := some d1, op := .load sT (.tmp d0), type := y1, pos := p, after := #[⟨0, .data⟩], guard := none },
  { dst := some d2, op := .load xT (.tmp tx), type := y2, pos := p, after := #[], guard := none },
  { dst := some d3, op := .call { callee := .value (.func f), args := #[.tmp d2], argTypes := #[xT] }, type := y3, pos := p, after := #[⟨2, .data⟩], guard := none },
  { dst := some d4, op := .buildSlice sT 1 #[(0, .tmp d3)], type := y4, pos := p, after := #[⟨3, .data⟩], guard := none },
  { dst := some d5, op := .call { callee := .builtin .append, args := #[.tmp d1, .tmp d4], argTypes := #[sT, sT] }, type := y5, pos := p, after := #[⟨1, .data⟩, ⟨4, .data⟩, ⟨3, .chain⟩], guard := none },
  { dst := some d6, op := .fieldAddr T (.tmp tb) fld, type := y6, pos := p, after := #[⟨0, .phase⟩, ⟨1, .phase⟩, ⟨2, .phase⟩, ⟨3, .phase⟩, ⟨4, .phase⟩, ⟨5, .phase⟩], guard := none },
  { dst := none, op := .store sT (.tmp d6) (.tmp d5), type := y7, pos := p, after := #[⟨6, .data⟩, ⟨5, .data⟩, ⟨5, .chain⟩, ⟨0, .phase⟩, ⟨1, .phase⟩, ⟨2, .phase⟩, ⟨3, .phase⟩, ⟨4, .phase⟩, ⟨5, .phase⟩], guard := none }]
def pushF (base eT size k g q : Nat) (S : List Nat) (A : Option Addr) (c : Nat) (xs ecs : List Value) (Res : List Value → World → Prop) (Res2 : List Nat → List Value → World → Prop) (w0 : World) (i : Nat) (v : Value) (W : World) : Prop := match i with
  | 0 => v = .pointer (some ⟨g, q, none⟩)
  | 1 => v = .slice A k c
  | 2 => v = .agg ecs.toArray
  | 3 => ∃ vcs : List Value, v = .agg vcs.toArray ∧ vcs.length = size ∧ (∀ u ∈ vcs, u.oneCell' = true) ∧ Res vcs W ∧ w0.heap.size ≤ W.heap.size
  | 4 => ∃ (vcs : List Value) (b : Nat), v = .slice (some ⟨b, 0, none⟩) 1 1 ∧ vcs.length = size ∧ (∀ u ∈ vcs, u.oneCell' = true) ∧ Res vcs W ∧ W.heap[b]? = some (.cells vcs.toArray eT (0, 0)) ∧ w0.heap.size ≤ b
  | 5 => ∃ (vcs : List Value) (A' : Option Addr) (c' : Nat), v = .slice A' (k + 1) c' ∧ vcs.length = size ∧ Res2 (Value.slice A' (k + 1) c').ownBlock.toList vcs W ∧ W.ownsRow base eT size (.slice A' (k + 1) c') (k + 1) (xs ++ vcs) ∧ (∀ b, (Value.slice A' (k + 1) c').ownBlock = some b → b ∈ S ∨ w0.heap.size ≤ b)
  | 6 => v = .pointer (some ⟨g, q, none⟩)
  | _ => True
structure PushG (T xT g x : Nat) (S : List Nat) (cs : Array Value) (ecs : List Value) (w0 W : World) : Prop where
  g : W.heap[g]? = some (.cells cs T (0, 0))
  x : W.heap[x]? = some (.cells ecs.toArray xT (0, 0))
  out : Out S w0 W
theorem PushG.keep {T xT g x : Nat} {S : List Nat} {cs : Array Value} {ecs : List Value} {w0 W W' : World} (h : PushG T xT g x S cs ecs w0 W) (hb : Below W.heap.size W W') : PushG T xT g x S cs ecs w0 W' :=
  ⟨(hb.block _ (Array.getElem?_eq_some_iff.1 h.g).1).trans h.g, (hb.block _ (Array.getElem?_eq_some_iff.1 h.x).1).trans h.x, h.out.trans (Out.of_below hb []) (fun _ h _ => by cases h)⟩
theorem pushF_keep {base eT size k g q : Nat} {S : List Nat} {A : Option Addr} {c : Nat} {xs ecs : List Value} {Res : List Value → World → Prop} {Res2 : List Nat → List Value → World → Prop} {w0 : World} (hRes : ∀ vcs W W', Res vcs W → Below W.heap.size W W' → Res vcs W') (hResB : ∀ S vcs W W', Res2 S vcs W → Below W.heap.size W W' → Res2 S vcs W') {i : Nat} {v : Value} {W W' : World}
    (h : pushF base eT size k g q S A c xs ecs Res Res2 w0 i v W) (hb : Below W.heap.size W W') : pushF base eT size k g q S A c xs ecs Res Res2 w0 i v W' := by
  match i, h with
  | 0, h => exact h
  | 1, h => exact h
  | 2, h => exact h
  | 3, ⟨vcs, h1, h2, h3, h4, h5⟩ => exact ⟨vcs, h1, h2, h3, hRes _ _ _ h4 hb, Nat.le_trans h5 hb.size⟩
  | 4, ⟨vcs, b, h1, h2, h3, h4, h5, h6⟩ => exact ⟨vcs, b, h1, h2, h3, hRes _ _ _ h4 hb, (hb.block _ (Array.getElem?_eq_some_iff.1 h5).1).trans h5, h6⟩
  | 5, ⟨vcs, A', c', h1, h2, h3, h4, h5⟩ => exact ⟨vcs, A', c', h1, h2, hResB _ _ _ _ h3 hb, own_below h4 hb, h5⟩
  | 6, h => exact h
  | _ + 7, _ => exact trivial
theorem push_region {id : Nat} {a : Act} {w : World} {Q : Exit → Act → World → Prop} {T sT xT f tb tx fld d0 d1 d2 d3 d4 d5 d6 : Nat} {y0 y1 y2 y3 y4 y5 y6 y7 : TypeId} {p : String} (n : Nat) (hm : P.follows .mixedOrders = true)
    (hn : a.tmps.size = n) (hd : a.defers = []) (hok : drawnOk (pushOps T sT xT f tb tx fld d0 d1 d2 d3 d4 d5 d6 y0 y1 y2 y3 y4 y5 y6 y7 p) 7 n = true)
    (htb : ((pushOps T sT xT f tb tx fld d0 d1 d2 d3 d4 d5 d6 y0 y1 y2 y3 y4 y5 y6 y7 p).toList.take 7).all (fun o => !decide (o.dst = some tb)) = true) (htx : ((pushOps T sT xT f tb tx fld d0 d1 d2 d3 d4 d5 d6 y0 y1 y2 y3 y4 y5 y6 y7 p).toList.take 7).all (fun o => !decide (o.dst = some tx)) = true)
    (g x q base eT size bytes k : Nat) (z : Value) (A : Option Addr) (c : Nat) (xs ecs : List Value) (cs : Array Value) (Res : List Value → World → Prop) (Res2 : List Nat → List Value → World → Prop) (ds : TypeDesc)
    (hb : a.tmps[tb]? = some (.pointer (some ⟨g, 0, none⟩))) (hx : a.tmps[tx]? = some (.pointer (some ⟨x, 0, none⟩))) (hg0 : w.heap[g]? = some (.cells cs T (0, 0))) (hx0 : w.heap[x]? = some (.cells ecs.toArray xT (0, 0)))
    (hcq : cs[q]? = some (.slice A k c)) (hfld : ∀ w : World, (Instr.fieldAt T (.pointer (some ⟨g, 0, none⟩)) fld).run P w = .ok (.pointer (some ⟨g, q, none⟩)) w)
    (huS : P.underlying sT = some (.slice eT)) (hiS : (P.info? sT).map (·.size) = some 1) (huX : P.underlying xT = some ds) (hdX : ds.isRow = true) (hiX : (P.info? xT).map (·.size) = some ecs.length)
    (hi : (P.info? eT).map (fun i => (i.zero, i.size, i.bytes)) = some (some z, size, bytes)) (hzs : z.cells.size = size) (hsz : 0 < size) (hs24 : size ≤ 2 ^ 24)
    (hown : w.ownsRow base eT size (.slice A k c) k xs) (hT : g ∉ (Value.slice A k c).ownBlock.toList) (hX : x ∉ (Value.slice A k c).ownBlock.toList) (h63 : k + 1 ≤ maxLen) (hbytes : (k + 1) * bytes ≤ 140737488355328) (hbase : base ≤ w.heap.size)
    (fn : Func) (hfn : P.funcs[f]? = some fn) (hbd : fn.body.isSome = true) (hng : (fn.name == "runtime.NumGoroutine") = false)
    (hRes : ∀ vcs W W', Res vcs W → Below W.heap.size W W' → Res vcs W') (hResB : ∀ S vcs W W', Res2 S vcs W → Below W.heap.size W W' → Res2 S vcs W') (hRes3 : ∀ S vcs W W', Res vcs W → w.heap.size ≤ W.heap.size → Out (Value.slice A k c).ownBlock.toList W W' → (∀ b ∈ S, b ∈ (Value.slice A k c).ownBlock.toList ∨ W.heap.size ≤ b) → Res2 S vcs W')
    (hRes2 : ∀ vcs W W', Res vcs W → w.heap.size ≤ W.heap.size → Out (Value.slice A k c).ownBlock.toList W W' → Res vcs W')
    (hcall : ∀ W, Below w.heap.size w W → Calls P f #[.agg ecs.toArray] W (fun r w' => ∃ vcs : List Value, r = .returned (.agg vcs.toArray) ∧ vcs.length = size ∧ (∀ u ∈ vcs, u.oneCell' = true) ∧ Res vcs w' ∧ Below W.heap.size W w'))
    (hQ : ∀ (u : Nat → Value) (W : World) (vcs : List Value) (A' : Option Addr) (c' : Nat),
      vcs.length = size → Res2 (Value.slice A' (k + 1) c').ownBlock.toList vcs W → W.ownsRow base eT size (.slice A' (k + 1) c') (k + 1) (xs ++ vcs) → (∀ b, (Value.slice A' (k + 1) c').ownBlock = some b → b ∈ (Value.slice A k c).ownBlock.toList ∨ w.heap.size ≤ b) → Out (Value.slice A k c).ownBlock.toList w W →
      W.heap[g]? = some (.cells cs T (0, 0)) → Q .normal ([d0, d1, d2, d3, d4, d5, d6].foldl (fun x d => x.put (some d) (u d)) a) (W.setCell ⟨g, q, none⟩ (.slice A' (k + 1) c'))) :
    (Code.region id (pushOps T sT xT f tb tx fld d0 d1 d2 d3 d4 d5 d6 y0 y1 y2 y3 y4 y5 y6 y7 p) true).wp P Q a w := by
  have hw0 : Below w.heap.size w w.drew := below_drewN w 1 _
  have hown0 : w.drew.ownsRow base eT size (.slice A k c) k xs := own_below hown hw0
  have hG0 : PushG T xT g x (Value.slice A k c).ownBlock.toList cs ecs w w.drew := ⟨hg0, hx0, Out.of_below hw0 _⟩
  refine drawn hm 7 n (fun j W => PushG T xT g x (Value.slice A k c).ownBlock.toList cs ecs w W ∧ (j = 5 → W.ownsRow base eT size (.slice A k c) k xs) ∧ (j = 3 → Below w.heap.size w W)) (pushF base eT size k g q (Value.slice A k c).ownBlock.toList A c xs ecs Res Res2 w)
    (fun j W W' => if j = 5 then Out (Value.slice A k c).ownBlock.toList W W' ∧ g ∉ (Value.slice A k c).ownBlock.toList ∧ x ∉ (Value.slice A k c).ownBlock.toList else Below W.heap.size W W') hn hok hd (fun j _ => ⟨hG0, fun _ => hown0, fun _ => hw0⟩) ?_ ?_ ?_ ?_
  · intro i j v W W' hij hil hj hF hR
    by_cases h5 : j = 5
    · subst h5
      simp only [if_true] at hR
      obtain ⟨hR, -, -⟩ := hR
      have hblk : ∀ b, w.heap.size ≤ b → b ∉ (Value.slice A k c).ownBlock.toList := fun b hb hmem => by
        have := (own_blk hown (b := b) (by simpa using hmem)).2
        omega
      match i, hF with
      | 0, h => exact h
      | 1, h => exact h
      | 2, h => exact h
      | 3, ⟨vcs, h1, h2, h3, h4, h5⟩ => exact ⟨vcs, h1, h2, h3, hRes2 _ _ _ h4 h5 hR, Nat.le_trans h5 hR.size⟩
      | 4, ⟨vcs, b, h1, h2, h3, h4, h5, h6⟩ =>
        have hbl := (Array.getElem?_eq_some_iff.1 h5).1
        exact ⟨vcs, b, h1, h2, h3, hRes2 _ _ _ h4 (by omega) hR, (hR.block _ hbl (hblk b h6)).trans h5, h6⟩
      | 5, _ => exact absurd rfl hij
      | 6, h => exact h
      | _ + 7, _ => exact trivial
    · rw [if_neg h5] at hR
      exact pushF_keep hRes hResB hF hR
  · intro i j W W' hij hil hj hanc hG hR
    by_cases h5 : i = 5
    · subst h5
      simp only [if_true] at hR
      obtain ⟨hR, h1, h2⟩ := hR
      refine ⟨⟨(hR.block _ (Array.getElem?_eq_some_iff.1 hG.1.g).1 h1).trans hG.1.g, (hR.block _ (Array.getElem?_eq_some_iff.1 hG.1.x).1 h2).trans hG.1.x, hG.1.out.trans hR (fun _ h _ => h)⟩, fun e => absurd e (Ne.symm hij), fun e => absurd (by subst e; simp [ancs, Region.binds]) hanc⟩
    · rw [if_neg h5] at hR
      exact ⟨hG.1.keep hR, fun e => own_below (hG.2.1 e) hR, fun e => below_nextR (hG.2.2 e) hR⟩
  · intro i o a' W hil ho hd' hold hGi hGL hw
    have hr1 := (hold tb htb).trans hb
    have hr2 := (hold tx htx).trans hx
    have hbw : ∀ W : World, Below W.heap.size W W := fun W => Below.refl _ W
    match i, hil, ho with
    | 0, _, ho =>
      injection ho with ho; subst ho
      exact op_val _ (by simp [execOp, Act.eval, hr1, hfld]) ⟨_, rfl, hbw _, rfl⟩
    | 1, _, ho =>
      injection ho with ho; subst ho
      obtain ⟨v0, h0, e0⟩ := hw 0 d0 rfl
      obtain rfl : v0 = _ := e0
      exact op_val _ (by simp [execOp, Act.eval, h0, run_load1 huS ((cell_of_row _ _ _ _ _ _ hGi.1.g).trans hcq)]) ⟨_, rfl, hbw _, rfl⟩
    | 2, _, ho =>
      injection ho with ho; subst ho
      exact wp_load_mid xT (.tmp tx) rfl _ _ (eval_tmp hr2) ecs ds (range_rowR hGi.1.x) huX hdX hiX ⟨_, rfl, hbw _, rfl⟩
    | 3, _, ho =>
      injection ho with ho; subst ho
      obtain ⟨v0, h0, e0⟩ := hw 2 d2 rfl
      obtain rfl : v0 = _ := e0
      refine op_call f _ rfl rfl #[.agg ecs.toArray] (by simp [Act.eval, h0]) fn hfn hbd hng ((hcall W (hGi.2.2 rfl)).mono ?_)
      rintro r w' ⟨vcs, rfl, e1, e2, e3, e4⟩
      exact ⟨_, rfl, _, rfl, e4, vcs, rfl, e1, e2, e3, Nat.le_trans hGi.1.out.size e4.size⟩
    | 4, _, ho =>
      injection ho with ho; subst ho
      obtain ⟨v0, h0, vcs, e0, e1, e2, e3, -⟩ := hw 3 d3 rfl
      obtain rfl : v0 = _ := e0
      refine op_bslice sT eT 1 _ rfl size [.agg vcs.toArray] huS (by obtain ⟨i, hi1, hi2⟩ := Option.map_eq_some_iff.1 hi; rw [hi1]; simp at hi2 ⊢; simp [hi2]) hsz rfl (by decide) (by omega) (by simp [Act.eval, h0]) (by simp [Value.cells, e1]) ?_
      simp only [List.flatMap_cons, List.flatMap_nil, List.append_nil, Value.cells]
      exact ⟨_, rfl, belowA (Below.refl _ _) _, vcs, _, rfl, e1, e2, hRes _ _ _ e3 (belowA (Below.refl _ _) _), heapNew rfl, hGi.1.out.size⟩
    | 5, _, ho =>
      injection ho with ho; subst ho
      obtain ⟨v0, h0, e0⟩ := hw 1 d1 rfl
      obtain rfl : v0 = _ := e0
      obtain ⟨v1, h1, vcs, b, e1, e2, e3, e4, e5, e6⟩ := hw 4 d4 rfl
      obtain rfl : v1 = _ := e1
      obtain ⟨A', c', w', k1, k2, k3, k4⟩ := push_more (P := P) (ty := y5) W huS hi hzs hsz (hGi.2.1 rfl) b vcs e2 e5 e3 h63 hbytes (Nat.le_trans hbase hGi.1.out.size)
      refine op_append _ _ _ rfl _ _ (eval_tmp h0) (eval_tmp h1) k1 ⟨_, rfl, ?_, vcs, A', c', rfl, e2, hRes3 _ _ _ _ e4 hGi.1.out.size k3 (fun b hb => (k4 b (by simpa using hb)).imp (fun h => by simp [h]) (fun h => h)), k2, fun b hb => ?_⟩
      · simp only [if_true]
        exact ⟨k3, hT, hX⟩
      · rcases k4 b hb with h | h
        · exact .inl (by simp [h])
        · exact .inr (Nat.le_trans hGi.1.out.size h)
    | 6, _, ho =>
      injection ho with ho; subst ho
      exact op_val _ (by simp [execOp, Act.eval, hr1, hfld]) ⟨_, rfl, hbw _, rfl⟩
    | n + 7, hil, _ => omega
  · intro o a' W ho hd' hs hold hGL hw
    obtain ⟨v0, h0, e0⟩ := hw 6 d6 (by decide) rfl
    obtain ⟨v1, h1, vcs, A', c', e1, e2, e3, e4, e5⟩ := hw 5 d5 (by decide) rfl
    obtain rfl : v0 = _ := e0
    obtain rfl : v1 = _ := e1
    injection ho with ho; subst ho
    have hqs : q < cs.size := (Array.getElem?_eq_some_iff.1 hcq).1
    have hrun : (execOp a'.eval { dst := none, op := .store sT (.tmp d6) (.tmp d5), type := y7, pos := p, after := #[⟨6, .data⟩, ⟨5, .data⟩, ⟨5, .chain⟩, ⟨0, .phase⟩, ⟨1, .phase⟩, ⟨2, .phase⟩, ⟨3, .phase⟩, ⟨4, .phase⟩, ⟨5, .phase⟩], guard := none }).run P W = .ok .skip (W.setCell ⟨g, q, none⟩ (.slice A' (k + 1) c')) := by
      simp [execOp, Act.eval, h0, h1, run_store1 (A := A') (n := k + 1) (c := c') hiS hGL.1.g hqs]
    obtain ⟨u, hu, -⟩ := frame_of (a := a) (a' := a') [d0, d1, d2, d3, d4, d5, d6] (by rw [hs, hn]) (by rw [hd', hd]) (fun t ht => hold t (by simp at ht; simp [Ne.symm ht.1, Ne.symm ht.2.1, Ne.symm ht.2.2.1, Ne.symm ht.2.2.2.1, Ne.symm ht.2.2.2.2.1, Ne.symm ht.2.2.2.2.2.1, Ne.symm ht.2.2.2.2.2.2]))
    refine op_skip hrun ?_
    have hq := hQ u W vcs A' c' e2 e3 e4 e5 hGL.1.out hGL.1.g
    rw [← hu] at hq
    exact hq
end
section
variable {α : Type} {E : Enc α}
theorem Rows.push {b1 eT : Nat} {W0 W : World} {A A' : Option Addr} {k c c' : Nat} {L : List (α × List Value)} {vcs : List Value} {x : α} (h : Rows E b1 eT W0 A k c L) (hb : b1 ≤ W0.heap.size)
    (hown : W.ownsRow b1 eT E.sz (.slice A' (k + 1) c') (k + 1) (L.flatMap (·.2) ++ vcs)) (hblk : ∀ b, (Value.slice A' (k + 1) c').ownBlock = some b → b ∈ (Value.slice A k c).ownBlock.toList ∨ W0.heap.size ≤ b) (ho : Out (Value.slice A k c).ownBlock.toList W0 W)
    (hx : E.ok (sans W (List.range W0.heap.size ++ (Value.slice A' (k + 1) c').ownBlock.toList)) W.heap.size vcs x) : Rows E b1 eT W A' (k + 1) c' (L ++ [(x, vcs)]) := by
  refine ⟨by simpa using hown, by simp [h.len], fun p hp => ?_⟩
  rcases List.mem_append.1 hp with hp | hp
  · refine E.mono ho.size (ho.kept (fun b hb _ => List.mem_append_right _ hb) (fun b hb hl => ?_)) (h.far p hp)
    rcases List.mem_append.1 hb with hb | hb
    · exact List.mem_append_left _ hb
    · rcases hblk b (by simpa using hb) with h1 | h1
      · exact List.mem_append_right _ h1
      · omega
  · obtain rfl : p = (x, vcs) := by simpa using hp
    refine E.mono (Nat.le_refl _) ((Out.refl [] W).kept (fun _ h _ => by cases h) (fun b hb' _ => ?_)) hx
    rcases List.mem_append.1 hb' with hb' | hb'
    · exact List.mem_append_left _ (List.mem_range.2 (by have := List.mem_range.1 hb'; omega))
    · exact List.mem_append_right _ hb'
end
end Go.Proofs.YtgphngjniplonaaGreatDoor
