/- ParseBlanks: the walk. -/
import Derived.Test.YtplekbpmfaghbaaGreatDoorMp11
import Derived.Test.YtplekbpmfaghbaaGreatDoorPbC
import Derived.Test.YtplekbpmfaghbaaGreatDoorMt2
import Derived.Test.YtplekbpmfaghbaaGreatDoorMs1
import Derived.Test.YtplekbpmfaghbaaGreatDoorMa11
import Derived.Deep.RegionHeld3
namespace Go.Proofs.YtplekbpmfaghbaaGreatDoor
open Go.RowKit

theorem parse_errV (s : ByteArray) (hs : s.size ≤ 140737488351232) (w : World) (hW : ParW w) : Calls Tryz.prog 45 #[.string s] w fun e w' => Below w.heap.size w w' ∧
    ∃ (d : Nat) (A1 : Option Addr) (k1 c1 : Nat) (A2 : Option Addr) (k2 c2 : Nat), e = .returned (.tuple #[.agg #[.slice A1 k1 c1, .slice A2 k2 c2], .int .i64 (parseP s.toList).2.1, errV 90 (parseP s.toList).2.2]) ∧ ProgAt d w' w'.heap.size (parseP s.toList).1 ⟨A1, k1, c1⟩ ⟨A2, k2, c2⟩ := by
  refine (parse_any s hs w hW).mono ?_
  rintro e w' ⟨hb, d, ⟨A1, k1, c1⟩, ⟨A2, k2, c2⟩, rfl, ha, hr⟩
  exact ⟨hb, d, A1, k1, c1, A2, k2, c2, rfl, ⟨ha.is, hr.is⟩⟩
def gapN (x : Int) : Nat := ((IntKind.u64.wrap x).tmod 4).toNat
theorem gapN_ok (x : Int) : gapN x < 4 ∧ wrap64 ((IntKind.u64.wrap x).tmod 4) = (gapN x : Int) := by
  have h0 : 0 ≤ IntKind.u64.wrap x := by simp [IntKind.wrap, IntKind.signed, IntKind.bits]; omega
  unfold gapN
  rw [Int.tmod_eq_emod_of_nonneg h0]
  generalize IntKind.u64.wrap x = q at h0
  unfold wrap64
  omega
def gapF (gl : List Int) (i : Nat) : Nat := ((gl[i]?).map gapN).getD 0
theorem gapF_at {gl : List Int} {i : Nat} {x : Int} (h : gl[i]? = some x) : gapF gl i = gapN x := by unfold gapF; rw [h]; rfl
theorem gapF_none {gl : List Int} {i : Nat} (h : gl.length ≤ i) : gapF gl i = 0 := by unfold gapF; rw [List.getElem?_eq_none h]; rfl
theorem gapF_lt (gl : List Int) (i : Nat) : gapF gl i < 4 := by
  unfold gapF
  cases gl[i]? with
  | none => simp
  | some x => exact (gapN_ok x).1
theorem gapT_len (f : Nat → Nat) : ∀ (l : List GTok) (i : Nat), (gapT f i l).length ≤ (l.map fun q => q.t.length).sum + 3 * l.length
  | [], _ => by simp [gapT]
  | q :: l, i => by
    have h1 := gapT_len f l (i + 1)
    have h2 := gapS_len (f i)
    rw [gapT, List.map_cons, List.sum_cons, List.length_cons]
    simp only [List.length_append]
    omega
theorem sum_take_le (l : List Nat) (k : Nat) : (l.take k).sum ≤ l.sum := by
  have h : l.sum = (l.take k).sum + (l.drop k).sum := by rw [← List.sum_append, List.take_append_drop]
  omega
theorem gapC : ∀ g : Nat, g < 4 → (#[Value.string ⟨#[32]⟩, .string ⟨#[10]⟩, .string ⟨#[37, 120, 10]⟩, .string ⟨#[9, 32, 13]⟩] : Array Value)[g]? = some (.string (bytes (gapS g))) := by
  intro g hg
  have : g = 0 ∨ g = 1 ∨ g = 2 ∨ g = 3 := by omega
  rcases this with rfl | rfl | rfl | rfl <;> rfl

def pbF (g gx : Nat) (sT tx sg : ByteArray) (i : Nat) (v : Value) (W : World) : Prop := match i with
  | 0 => v = .string sT
  | 1 => v = .pointer (some ⟨gx, 1, none⟩)
  | 2 => v = .string tx
  | 3 => ∃ h, v = .slice (some ⟨h, 0, none⟩) 4 4 ∧ W.cell? ⟨h, g, none⟩ = some (.string sg)
  | 4 => v = .int .i64 g
  | 5 => ∃ h, v = .pointer (some ⟨h, g, none⟩) ∧ W.cell? ⟨h, g, none⟩ = some (.string sg)
  | 6 => v = .string sg
  | 7 => v = .string (tx ++ sg)
  | 8 => v = .string (sT ++ (tx ++ sg))
  | _ => True
theorem pbF_keep {g gx : Nat} {sT tx sg : ByteArray} {i : Nat} {v : Value} {W W' : World} (h : pbF g gx sT tx sg i v W) (hb : Below W.heap.size W W') : pbF g gx sT tx sg i v W' := by
  match i, h with
  | 0, h => exact h
  | 1, h => exact h
  | 2, h => exact h
  | 3, ⟨q, h1, h2⟩ => exact ⟨q, h1, below_cell hb h2⟩
  | 4, h => exact h
  | 5, ⟨q, h1, h2⟩ => exact ⟨q, h1, below_cell hb h2⟩
  | 6, h => exact h
  | 7, h => exact h
  | 8, h => exact h
  | _ + 9, _ => exact trivial

set_option maxRecDepth 100000 in
set_option maxHeartbeats 8000000 in
theorem parseBlanks_walk (s : ByteArray) (hs : s.size ≤ 140737488351232) (A : Option Addr) (n c : Nat) (gl : List Int) (w : World) (hg : SliceIs Enc.int w w.heap.size A n c gl) (hW : ParW w) :
    Calls Tryz.prog 6 #[.string s, .slice A n c] w (RetBool true w) := by
  have mixed : Tryz.prog.follows .mixedOrders = true := by kernel_rfl
  have HA := Lib.hid (alive6_any w hW)
  have HW := Lib.hid hW
  have HG := Lib.hid hg
  have hbn := hg.bound
  have Hgn := Lib.hid hg.1
  have HRA := Lib.hid (fun V => refAll_any s V)
  have Hlen := Lib.hid (ba_len s)
  clear hW hg
  go_enter Tryz.func6, Tryz.ntmps6
  go_wp2_with fail
  refine HA.out.mono ?_
  rintro e w1 ⟨rfl, hb1⟩
  have Hb1 := Lib.hid hb1
  clear hb1 HA
  by_cases h12 : 1200 < s.size
  · have i0 : (1200 : Int) < (s.size : Int) := by omega
    clear HRA h12
    go_wp2_with fail
    go_ret
    exact ⟨rfl, Hb1.out⟩
  have i0 : ¬ (1200 : Int) < (s.size : Int) := by omega
  by_cases h15 : 1500 < n
  · have i1 : (1500 : Int) < (n : Int) := by omega
    clear HRA h12 h15
    go_wp2_with fail
    go_ret
    exact ⟨rfl, Hb1.out⟩
  have i1 : ¬ (1500 : Int) < (n : Int) := by omega
  have HRA1 := Lib.hid (HRA.out w1)
  clear HRA
  go_wp2_with fail
  refine HRA1.out.mono ?_
  rintro e w2 ⟨hb2, ⟨h4, rfl⟩ | ⟨h4, ⟨p, hp, rfl⟩ | ⟨hn, B, bc, rfl, hB⟩⟩⟩
  · omega
  · have Hb2 := Lib.hid (below_next Hb1.out hb2)
    clear hb2 hp HRA1 h4
    go_wp2_with fail
    go_ret
    exact ⟨rfl, Hb2.out⟩
  have Hb2 := Lib.hid (below_next Hb1.out hb2)
  have hlen2 := lex_len (wk := wordK) _ 0 s.toList (Nat.le_refl _)
  have Hgw := Lib.hid (fun (h2 : (gapT (gapF gl) 0 (lexS s.toList).1).length ≤ 4000) => gaps_whole (l := s.toList) (gapF gl) (by rw [Hlen.out]; omega) h2 hn)
  have HBs := Lib.hid hB
  have hls : (lexA wordK 0 s.toList).1.length = (lexS s.toList).1.length := rfl
  obtain ⟨T, HT⟩ : ∃ T, Hid (T = (lexS s.toList).1) := ⟨_, rfl⟩
  have HTs : Hid ((T.map fun q => q.t.length).sum ≤ 1200) := by
    show _ ≤ _
    have h1 := hlen2.1
    rw [HT.out]
    unfold lexS
    rw [Hlen.out] at h1
    omega
  have htl : T.length ≤ 1200 := by
    have h1 := hlen2.2
    rw [HT.out]
    unfold lexS
    rw [Hlen.out] at h1
    omega
  rw [← HT.out] at Hgw HBs ⊢
  have HTl : Hid (∀ k, (gapT (gapF gl) 0 (T.take k)).length ≤ 4800) := by
    intro k
    have h1 := gapT_len (gapF gl) (T.take k) 0
    have h2 : ((T.take k).map fun q => q.t.length).sum ≤ (T.map fun q => q.t.length).sum := by rw [List.map_take]; exact sum_take_le _ _
    have h3 := HTs.out
    rw [List.length_take] at h1
    omega
  obtain ⟨bn, Hbn⟩ : ∃ bn, Hid (T.length = bn) := ⟨_, rfl⟩
  rw [Hbn.out] at HBs htl ⊢
  clear hb2 hn hlen2 hB hls HRA1 h4 HT
  go_wp2_with fail
  go_loopw [8, 9, 10, 11, 38] (fun v _ _ _ i wr => ∃ (k : Nat) (sT : ByteArray), k ≤ bn ∧ i = .int .i64 k ∧ v = .string sT ∧ Hid (sT = bytes (gapT (gapF gl) 0 (T.take k))) ∧ Hid (Below w2.heap.size w2 wr)) (fun _ _ _ _ i _ => bn - (intOf i).toNat)
  case atStart => exact ⟨0, _, by omega, rfl, rfl, rfl, Below.refl _ _⟩
  case round =>
    obtain ⟨k, sT, hk, rfl, rfl, HsT, HBr⟩ := hrel
    have j0 : (0 : Int) ≤ (k : Int) := by omega
    have hsz : sT.size ≤ 4800 := by rw [HsT.out]; exact HTl.out k
    by_cases hlt : k < bn
    · have j1 : (k : Int) < (bn : Int) := by omega
      obtain ⟨b, o, x, hA, hbb, hx, x0, x1, x2, -⟩ := (HBs.out.keep HBr.out).tok_at hlt
      subst hA
      have HStep : Hid (gapT (gapF gl) 0 (T.take (k + 1)) = gapT (gapF gl) 0 (T.take k) ++ (x.t ++ gapS (gapF gl k))) := gapT_take hx.out
      have hxt : (bytes x.t).size ≤ 4800 := by
        have h1 := HTl.out (k + 1)
        rw [HStep.out] at h1
        simp only [List.length_append] at h1
        show x.t.length ≤ 4800
        omega
      have hgs : (bytes (gapS (gapF gl k))).size ≤ 3 := gapS_len _
      have HNx : Hid (sT ++ (bytes x.t ++ bytes (gapS (gapF gl k))) = bytes (gapT (gapF gl) 0 (T.take (k + 1)))) := by
        show _ = _
        rw [HsT.out, bytes_app, bytes_app, HStep.out]
      have hg4 := gapF_lt gl k
      have Hgc := Lib.hid (gapC _ hg4)
      have HGat : Hid (∀ V : World, Below w2.heap.size w2 V → k < n → ∃ bb oo y, A = some ⟨bb, oo, none⟩ ∧ V.cell? ⟨bb, oo + k, none⟩ = some (.int .i64 y) ∧ (gapF gl k : Int) = wrap64 ((IntKind.u64.wrap y).tmod 4)) := by
        intro V hb hkn
        obtain ⟨bb, oo, y, h1, h2, h3, h4, -⟩ := (HG.out.keep (below_next Hb2.out hb)).int_at hkn
        exact ⟨bb, oo, y, h1, h4, by rw [gapF_at h3.out, (gapN_ok y).2]⟩
      have HG0 : Hid (¬ k < n → gapF gl k = 0) := fun h => gapF_none (by rw [Hgn.out]; omega)
      have hrn : (wr.alloc (.cells #[.int .i64 x.k, .string (bytes x.t), .int .i64 x.a] 108)).heap[wr.heap.size]? = some (.cells #[.int .i64 x.k, .string (bytes x.t), .int .i64 x.a] 108 (0, 0)) := heapNew rfl
      have HBx := Lib.hid (belowA HBr.out (.cells #[.int .i64 x.k, .string (bytes x.t), .int .i64 x.a] 108))
      have Hrn := Lib.hid hrn
      clear hrn hx HStep HsT
      generalize gapF gl k = g at *
      have q0 : (0 : Int) ≤ (g : Int) := by omega
      have q1 : (g : Int) < 4 := by omega
      go_upto_if 46 with fail
      go_cut [11] (fun v W => v = .int .i64 (g : Int) ∧ W = wr.alloc (.cells #[.int .i64 x.k, .string (bytes x.t), .int .i64 x.a] 108))
      case first =>
        by_cases hkn : k < n
        · have j2 : (k : Int) < (n : Int) := by omega
          obtain ⟨bb, oo, y, rfl, yc, hgy⟩ := HGat.out _ HBx.out hkn
          have Hgy := Lib.hid hgy
          clear hgy HG0
          go_wp2_with fail
          go_meet
          exact ⟨by rw [Hgy.out], rfl⟩
        · have j2 : ¬ (k : Int) < (n : Int) := by omega
          have Hg0 := Lib.hid (HG0.out hkn)
          clear HG0
          go_wp2_with fail
          go_meet
          exact ⟨by rw [Hg0.out]; rfl, rfl⟩
      case rest =>
        obtain ⟨rfl, rfl⟩ := hcut
        obtain ⟨-, t1, -⟩ := facts3 Hrn.out
        clear x0 x1 x2 HGat HG0
        generalize hwx : (wr.alloc (.cells #[.int .i64 x.k, .string (bytes x.t), .int .i64 x.a] 108)) = wx at *
        generalize wr.heap.size = gx at *
        generalize bytes x.t = tx at *
        generalize bytes (gapS g) = sg at *
        have kb : ∀ V : World, (V.alloc (.cells #[.string ⟨#[32]⟩, .string ⟨#[10]⟩, .string ⟨#[37, 120, 10]⟩, .string ⟨#[9, 32, 13]⟩] 9)).cell? ⟨V.heap.size, g, none⟩ = some (.string sg) := fun V => (cell_of_row _ _ g _ _ _ (heapNew rfl)).trans Hgc.out
        have Hkb := Lib.hid kb
        have z1 : ¬ (9223372036854775807 < tx.size + sg.size) := by omega
        have z2 : ¬ (9223372036854775807 < sT.size + (tx.size + sg.size)) := by omega
        clear kb
        go_upto_region 15 with fail
        refine drawn2 mixed 9 89 [54, 55, 56, 57, 58, 59, 60, 61, 62] (fun _ W => Below wx.heap.size wx W) (pbF g gx sT tx sg) (fun _ W W' => Below W.heap.size W W') rfl (by kernel_rfl) (by kernel_rfl) rfl (fun j _ => below_drewN _ 1 _) (fun i j v W W' _ _ _ h h' => pbF_keep h h') (fun _ _ _ _ _ _ _ _ h h' => below_next h h') ?_ ?_
        · intro i o2' a2 W hi ho hd hold hG _ hw
          have hr8 : a2.tmps[8]? = some (.string sT) := hold 8 (by kernel_rfl)
          have hr10 : a2.tmps[10]? = some (.pointer (some ⟨gx, 0, none⟩)) := hold 10 (by kernel_rfl)
          have hr11 : a2.tmps[11]? = some (.int .i64 g) := hold 11 (by kernel_rfl)
          clear hold
          match i, hi, ho with
          | 0, _, ho =>
            injection ho with ho; subst ho
            exact op_val _ (by simp [execOp, Act.eval, hr8, go_sem]) ⟨_, rfl, Below.refl _ _, rfl⟩
          | 1, _, ho =>
            injection ho with ho; subst ho
            exact op_val _ (by simp [execOp, Act.eval, hr10, go_sem]) ⟨_, rfl, Below.refl _ _, rfl⟩
          | 2, _, ho =>
            injection ho with ho; subst ho
            obtain ⟨v1, h1, e1⟩ := hw 1 55 (by kernel_rfl)
            obtain rfl : v1 = _ := e1
            have z3 := below_cell hG t1
            exact op_val _ (by simp [execOp, Act.eval, h1, go_sem, z3]) ⟨_, rfl, Below.refl _ _, rfl⟩
          | 3, _, ho =>
            injection ho with ho; subst ho
            exact op_bslice 81 9 4 _ rfl 1 [.string ⟨#[32]⟩, .string ⟨#[10]⟩, .string ⟨#[37, 120, 10]⟩, .string ⟨#[9, 32, 13]⟩] Tryz.underlying81 (by kernel_rfl) (by decide) rfl (by decide) (by decide) (by simp [Act.eval]) (fun v hv => by simp at hv; rcases hv with rfl | rfl | rfl | rfl <;> rfl) ⟨_, rfl, belowA (Below.refl _ _) _, _, rfl, Hkb.out W⟩
          | 4, _, ho =>
            injection ho with ho; subst ho
            exact op_val _ (by simp [execOp, Act.eval, hr11, go_sem]) ⟨_, rfl, Below.refl _ _, rfl⟩
          | 5, _, ho =>
            injection ho with ho; subst ho
            obtain ⟨v3, h3, e3⟩ := hw 3 57 (by kernel_rfl)
            obtain ⟨q3, rfl, kc3⟩ := e3
            obtain ⟨v4, h4, e4⟩ := hw 4 58 (by kernel_rfl)
            obtain rfl : v4 = _ := e4
            exact op_val _ (by simp [execOp, Act.eval, h3, h4, go_sem, q0, q1]) ⟨_, rfl, Below.refl _ _, _, rfl, kc3⟩
          | 6, _, ho =>
            injection ho with ho; subst ho
            obtain ⟨v5, h5, e5⟩ := hw 5 59 (by kernel_rfl)
            obtain ⟨q5, rfl, kc5⟩ := e5
            exact op_val _ (by simp [execOp, Act.eval, h5, go_sem, kc5]) ⟨_, rfl, Below.refl _ _, rfl⟩
          | 7, _, ho =>
            injection ho with ho; subst ho
            obtain ⟨v2, h2, e2⟩ := hw 2 56 (by kernel_rfl)
            obtain rfl : v2 = _ := e2
            obtain ⟨v6, h6, e6⟩ := hw 6 60 (by kernel_rfl)
            obtain rfl : v6 = _ := e6
            exact op_val _ (by simp [execOp, Act.eval, h2, h6, go_sem, z1]) ⟨_, rfl, Below.refl _ _, rfl⟩
          | 8, _, ho =>
            injection ho with ho; subst ho
            obtain ⟨v0, h0, e0⟩ := hw 0 54 (by kernel_rfl)
            obtain rfl : v0 = _ := e0
            obtain ⟨v7, h7, e7⟩ := hw 7 61 (by kernel_rfl)
            obtain rfl : v7 = _ := e7
            exact op_val _ (by simp [execOp, Act.eval, h0, h7, go_sem, z2]) ⟨_, rfl, Below.refl _ _, rfl⟩
          | n + 9, hi, _ => omega
        · intro o2' u W ho hG hw
          have e8 := hw 8 62 (by decide) (by kernel_rfl)
          injection ho with ho; subst ho
          simp only [List.foldl_cons, List.foldl_nil, Act.put, List.setIfInBounds_toArray, List.set_cons_zero, List.set_cons_succ]
          rw [show u 62 = Value.string (sT ++ (tx ++ sg)) from e8]
          have HBn := Lib.hid (below_next HBx.out hG)
          refine op_assign (.tmp 62) (.inl rfl) (.string (sT ++ (tx ++ sg))) (by simp [Act.eval]) ?_
          clear hw e8 hG t1 z1 z2 q0 q1 Hkb Hgc HBx
          simp only [Act.put, List.setIfInBounds_toArray]
          go_wp2_with fail
          go_roundw
          case rel => exact ⟨k + 1, _, by omega, by go_num, rfl, HNx, HBn⟩
          case measure => simp [intOf]; omega
    · have j1 : ¬ (k : Int) < (bn : Int) := by omega
      obtain rfl : k = bn := by omega
      have HsT2 : Hid (sT = bytes (gapT (gapF gl) 0 T)) := by show _ = _; rw [HsT.out, List.take_of_length_le (by rw [Hbn.out]; exact Nat.le_refl _)]
      obtain ⟨W3, hW3⟩ : ∃ W, W = wr := ⟨_, rfl⟩
      subst hW3
      have HB3 := Lib.hid (below_next Hb2.out HBr.out)
      clear HsT HBs HTl
      by_cases h40 : 4000 < sT.size
      · have j2 : (4000 : Int) < (sT.size : Int) := by omega
        clear h40 Hgw
        go_wp2_with fail
        go_ret
        exact ⟨rfl, HB3.out⟩
      have j2 : ¬ (4000 : Int) < (sT.size : Int) := by omega
      have hlg : (gapT (gapF gl) 0 T).length ≤ 4000 := by
        have h1 := congrArg ByteArray.size HsT2.out
        rw [bytes_size] at h1
        omega
      obtain ⟨he, hp⟩ := Hgw.out hlg
      have htt : sT.toList = gapT (gapF gl) 0 T := by rw [HsT2.out, bytes_list]
      rw [← htt] at he hp
      have Hee : Hid ((parseP s.toList).2.2 = (parseP sT.toList).2.2) := he
      have Hsm : Hid (sameP (parseP s.toList).1 (parseP sT.toList).1 = true) := sameP_e hp
      have HP1 := Lib.hid (parse_errV s hs W3 (HW.out.on HB3.out))
      have HP2 := Lib.hid (fun (V : World) (hb : Below w.heap.size w V) => parse_errV sT (by omega) V (HW.out.on hb))
      rw [← Hee.out] at HP2
      clear he hp htt hlg h40 Hgw HsT2 Hee
      generalize parseP s.toList = p1 at *
      generalize parseP sT.toList = p2 at *
      obtain ⟨p1, at1, er⟩ := p1
      obtain ⟨p2, at2, er2⟩ := p2
      dsimp only at HP1 HP2 Hsm
      go_wp2_with fail
      refine HP1.out.mono ?_
      rintro e w5 ⟨hb5, d1, A1, k1, c1, A2, k2, c2, rfl, hq1⟩
      have HB5 := Lib.hid (below_next HB3.out hb5)
      have hr5 : (w5.alloc (.cells #[.slice A1 k1 c1, .slice A2 k2 c2] 74)).heap[w5.heap.size]? = some (.cells #[.slice A1 k1 c1, .slice A2 k2 c2] 74 (0, 0)) := heapNew rfl
      have hq5 := hq1.keep (belowA (Below.refl _ _) (.cells #[.slice A1 k1 c1, .slice A2 k2 c2] 74))
      have HB6 := Lib.hid (belowA HB5.out (.cells #[.slice A1 k1 c1, .slice A2 k2 c2] 74))
      have HP3 := Lib.hid (HP2.out _ HB6.out)
      clear hb5 hq1 HP1 HP2
      go_wp2_with fail
      generalize w5.alloc (.cells #[.slice A1 k1 c1, .slice A2 k2 c2] 74) = w6 at *
      generalize w5.heap.size = ga at *
      refine HP3.out.mono ?_
      rintro e w7 ⟨hb7, d2, E1, m1, e1, E2, m2, e2, rfl, hq7⟩
      have hb8 := belowA hb7 (.cells #[.slice E1 m1 e1, .slice E2 m2 e2] 74)
      have HB8 := Lib.hid (below_next HB6.out hb8)
      have hr8 : (w7.alloc (.cells #[.slice E1 m1 e1, .slice E2 m2 e2] 74)).heap[w7.heap.size]? = some (.cells #[.slice E1 m1 e1, .slice E2 m2 e2] 74 (0, 0)) := heapNew rfl
      have hr6 := (hb8.block _ (Array.getElem?_eq_some_iff.1 hr5).1).trans hr5
      have Hq8 := Lib.hid (hq7.keep (belowA (Below.refl _ _) (.cells #[.slice E1 m1 e1, .slice E2 m2 e2] 74)))
      have Hq6 := Lib.hid (hq5.keep hb8)
      have Hr := Lib.hid (And.intro hr6 hr8)
      clear hb7 hb8 hq5 hq7 hr5 hr6 hr8 HP3
      go_wp2_with fail
      generalize w7.alloc (.cells #[.slice E1 m1 e1, .slice E2 m2 e2] 74) = w8 at *
      generalize w7.heap.size = gb at *
      refine (num_any er w8).mono ?_
      rintro e w9 ⟨rfl, hb9⟩
      have Hb9 := Lib.hid hb9
      clear hb9
      go_wp2_with fail
      refine (num_any er w9).mono ?_
      rintro e w10 ⟨rfl, hb10⟩
      have Hb10 := Lib.hid (below_next Hb9.out hb10)
      clear hb10
      obtain ⟨f0, f1⟩ := facts2 ((Hb10.out.block _ (Array.getElem?_eq_some_iff.1 Hr.out.1).1).trans Hr.out.1)
      obtain ⟨g0, g1⟩ := facts2 ((Hb10.out.block _ (Array.getElem?_eq_some_iff.1 Hr.out.2).1).trans Hr.out.2)
      have HSm := Lib.hid (sameP_any d1 d2 p1 p2 A1 k1 c1 A2 k2 c2 E1 m1 e1 E2 m2 e2 w10 (Hq6.out.keep Hb10.out) (Hq8.out.keep Hb10.out))
      rw [Hsm.out] at HSm
      have HB10 := Lib.hid (below_next HB8.out Hb10.out)
      clear Hb9 Hb10 Hq6 Hq8 Hsm Hr
      go_wp2_with fail
      refine HSm.out.mono ?_
      rintro e w11 ⟨rfl, hb11⟩
      have HB11 := Lib.hid (below_next HB10.out hb11)
      clear hb11 HSm
      go_wp2_with fail
      go_ret
      exact ⟨rfl, HB11.out⟩
end Go.Proofs.YtplekbpmfaghbaaGreatDoor
