/- My own texts PaHd, PaE, PaBin, as far as this claim needs them. -/
import Derived.Test.YtaeedepojpablaaGreatDoorZq14
set_option linter.unusedVariables false
set_option linter.unusedSimpArgs false
set_option maxRecDepth 1000000
set_option maxHeartbeats 16000000
namespace Go.Proofs.YtaeedepojpablaaGreatDoor
open Go.RowKit
section
variable {B g : Nat} {A : Option Addr} {c : Nat} {T : List GTok} {E : Nat} {w : World} {xb b0 b1 N0 : Nat} {rel : ByteArray} {pos : Int}
def HeadPost (B g : Nat) (A : Option Addr) (c : Nat) (T : List GTok) (E : Nat) (xb : Nat) (rel : ByteArray) (pos : Int) (y : PS × PH) (w : World) (e : Ending) (w' : World) : Prop :=
 e = .returned (.tuple #[]) ∧ Rd B g A c T E y.1 w' ∧ Out [g, xb] w w' ∧ (0 ≤ y.2.agg ∧ y.2.agg ≤ 4) ∧ (0 ≤ y.2.col ∧ y.2.col ≤ 6) ∧
   ∃ A' n' c', w'.heap[xb]? = some (.cells #[.string rel, .slice A' n' c', .int .i64 y.2.agg, .int .i64 y.2.col, .slice none 0 0, .int .i64 pos] 56 (0, 0)) ∧ SliceFar Enc.told w' (List.range w.heap.size) A' n' c' y.2.args
theorem rhead_any {s : PS} (h : Rd B g A c T E s w) (hBx : B ≤ xb) (hxg : xb ≠ g) (hx : w.heap[xb]? = some (.cells #[.string ⟨#[]⟩, .slice none 0 0, .int .i64 0, .int .i64 0, .slice none 0 0, .int .i64 pos] 56 (0, 0))) :
 Calls Tryz.prog 89 #[.pointer (some ⟨g, 0, none⟩), .pointer (some ⟨xb, 0, none⟩)] w (HeadPost B g A c T E xb (bytes (takeT T E s 2)) pos (headP T E s) w) := by
 have hB := h.size; have hgl := h.glt; have hxl := (glt hx)
 have hF0 := ((Fr.start h).alloc (.cells #[.pointer (some ⟨g, 0, none⟩)] 93)).alloc (.cells #[.pointer (some ⟨xb, 0, none⟩)] 185); rw [World.size_alloc] at hF0; have HF0 := hZ9 hF0; have Hx0 : Hid (((w.alloc (.cells #[.pointer (some ⟨g, 0, none⟩)] 93)).alloc (.cells #[.pointer (some ⟨xb, 0, none⟩)] 185)).heap[xb]? = some (.cells #[.string ⟨#[]⟩, .slice none 0 0, .int .i64 0, .int .i64 0, .slice none 0 0, .int .i64 pos] 56 (0, 0))) := heapOld (heapOld hx); have HTk := hZ9 (fun (W : World) (hR : Rd B g A c T E s W) => show Calls Tryz.prog 85 #[.pointer (some ⟨g, 0, none⟩), .int .i64 2] W (RdPost B g A c T E (takeP T E s 2) (.string (bytes (takeT T E s 2))) W) from rtake_any hR 2 (by decide)); have e9 : headP T E s = commasP T E 6 (headR T E) (takeP T E s 2, ⟨[], 0, 0⟩) := rfl; rw [e9]; obtain ⟨rel, Hrel⟩ : ∃ rel, Hid (rel = bytes (takeT T E s 2)) := ⟨_, rfl⟩
 rw [← Hrel.out] at HTk ⊢; obtain ⟨Z, HZ⟩ : ∃ Z, Hid (Z = commasP T E 6 (headR T E) (takeP T E s 2, ⟨[], 0, 0⟩)) := ⟨_, rfl⟩
 rw [← HZ.out]; generalize takeP T E s 2 = s1 at *; have k0 := (cell_of_row _ _ 0 _ _ _ (HF0.out.row (p := (w.heap.size, Obj.cells #[.pointer (some ⟨g, 0, none⟩)] 93 (0, 0))) (by simp))).trans rfl; have k1 := (cell_of_row _ _ 0 _ _ _ (HF0.out.row (p := (w.heap.size + 1, Obj.cells #[.pointer (some ⟨xb, 0, none⟩)] 185 (0, 0))) (by simp))).trans rfl; clear h hx hF0 Hrel e9; go_enter Tryz.func89, Tryz.ntmps89
 go_wp2_with fail
 generalize hw0 : ((w.alloc (.cells #[.pointer (some ⟨g, 0, none⟩)] 93)).alloc (.cells #[.pointer (some ⟨xb, 0, none⟩)] 185)) = w0 at *; clear hw0
 go_region_with ((go_at_call 85
                  refine (HTk.out _ (HF0.out.rd.on (Below.refl _ _).drew)).mono ?_; rintro e w2 ⟨rfl, hr2, ho2⟩; have hF2 := (HF0.out.on (Below.refl _ _).drew).go hr2 ho2; have k2 := (cell_of_row _ _ 0 _ _ _ (hF2.row (p := (w.heap.size + 1, Obj.cells #[.pointer (some ⟨xb, 0, none⟩)] 185 (0, 0))) (by simp))).trans rfl; have hx2 := (ho2.block _ (glt Hx0.out) (by simpa using hxg)).trans Hx0.out; obtain ⟨q0, q1, q2, q3, q4, q5⟩ := facts6 hx2; have qf := froz4 hx2; have HF2 := hZ9 hF2; have Hx2 := hZ9 hx2
                  clear hF2 hx2 hr2 ho2))
 all_goals
  have ho3 := set_out w2 xb 0 (.string rel); have hz0 := (glt (HF2.out.row (p := (w.heap.size + 1, Obj.cells #[.pointer (some ⟨xb, 0, none⟩)] 185 (0, 0))) (by simp)))
  dsimp only at hz0; have hHB : HdB B g w xb w.heap.size (w.heap.size + 1) (w.heap.size + 2) := ⟨hxg, by omega, by omega, by omega, by omega, by omega, by omega, by omega, by omega, hBx, by omega⟩
  have hr0 := (World.heap_setCells_other' (v := .string rel) (i := 0) (show w.heap.size ≠ xb by omega)).trans (HF2.out.row (p := (w.heap.size, Obj.cells #[.pointer (some ⟨g, 0, none⟩)] 93 (0, 0))) (by simp)); have hr1 := (World.heap_setCells_other' (v := .string rel) (i := 0) (show w.heap.size + 1 ≠ xb by omega)).trans (HF2.out.row (p := (w.heap.size + 1, Obj.cells #[.pointer (some ⟨xb, 0, none⟩)] 185 (0, 0))) (by simp))
  have HJ0 : Hid (HdJ B g A c T E w xb w.heap.size (w.heap.size + 1) (w.heap.size + 2) rel pos 0 (s1, ⟨[], 0, 0⟩) (w2.setCell ⟨xb, 0, none⟩ (.string rel))) :=
   ⟨HF2.out.rd.out ho3 (fun b hb _ => by simp at hb; omega), (HF2.out.out.mono (T := [g, xb]) (fun b hb _ => by simp at hb; simp [hb])).trans ho3 (fun b hb _ => by simp at hb; simp [hb]), rfl, ⟨none, 0, by simp [World.setCell, Array.getElem?_modify, Hx2.out], World.ownsRow_nil _ _ _ _⟩, hr0, hr1, by rw [World.size_setCell']; omega, (fun _ h => by cases h), ⟨Int.le_refl 0, (by decide : (0 : Int) ≤ 4)⟩, ⟨Int.le_refl 0, (by decide : (0 : Int) ≤ 6)⟩⟩
  have k3 := (cell_of_row _ _ 0 _ _ _ hr0).trans rfl; clear hr0 hr1 HF2 Hx2 HF0 Hx0 HTk k0 k1 k2 q0 q1 q2 q3 q4 q5 qf ho3 hz0; generalize w2.setCell ⟨xb, 0, none⟩ (.string rel) = w3 at *; go_wp2_with fail
  refine (rcommas_any (HdJ.jok hHB) 131 #[.pointer (some ⟨w.heap.size, 0, none⟩), .pointer (some ⟨w.heap.size + 1, 0, none⟩)] (enters_of Tryz.func131 (by kernel_rfl) rfl) 6 (by omega) (headR T E)
   (fun i x W hi he hj => head1_any hHB (fun b hb => by omega) i x W hi he hj) (s1, ⟨[], 0, 0⟩) _ HJ0.out).mono ?_
  rintro e w4 ⟨rfl, i, hi, hj⟩; have hj2 : HdJ B g A c T E w xb w.heap.size (w.heap.size + 1) (w.heap.size + 2) rel pos i Z w4 := by rw [HZ.out]; exact hj
  have HJ2 := hZ9 hj2; clear hj hj2 k3 HJ0; go_wp2_with fail
  go_end0
  obtain ⟨A', c', hrow, hown⟩ := HJ2.out.row; have h9 := own_farT hown HJ2.out.len (by omega) HJ2.out.ok; exact ⟨rfl, HJ2.out.rd, HJ2.out.out, HJ2.out.agg, HJ2.out.col, A', i, c', hrow, SliceIs.mono' h9 (Nat.le_refl _) ((Out.refl [] _).kept (fun _ h _ => by cases h) (fun b hb' _ => List.mem_range.2 (by have := List.mem_range.1 hb'; omega)))⟩
end
end Go.Proofs.YtaeedepojpablaaGreatDoor

namespace Go.Proofs.YtaeedepojpablaaGreatDoor
open Go.RowKit
section
variable {B g : Nat} {A : Option Addr} {c : Nat} {T : List GTok} {E : Nat}
def ExpPost (B g : Nat) (A : Option Addr) (c : Nat) (T : List GTok) (E : Nat) (y : PS × GExp) (w : World) (e : Ending) (w' : World) : Prop :=
 ∃ A' n' c' d, e = .returned (.agg (expC y.2 A' n' c').toArray) ∧ Rd B g A c T E y.1 w' ∧ Out [g] w w' ∧ fits y.2.op ∧ toldOk y.2.t ∧ SliceFar (Enc.exp d) w' (List.range w.heap.size) A' n' c' y.2.kids
theorem set6_out (W : World) (b : Nat) (v0 v1 v2 v3 v4 v5 : Value) : Out [b] W ((((((W.setCell ⟨b, 0, none⟩ v0).setCell ⟨b, 1, none⟩ v1).setCell ⟨b, 2, none⟩ v2).setCell ⟨b, 3, none⟩ v3).setCell ⟨b, 4, none⟩ v4).setCell ⟨b, 5, none⟩ v5) :=
 out_next (out_next (set4_out _ _ _ _ _ _) (set_out _ _ _ _)) (set_out _ _ _ _)
theorem f_lit0 : fits 0 := by unfold fits; decide
theorem Rd.deepSet {s : PS} {w : World} (h : Rd B g A c T E s w) (d : Nat) (hd : d ≤ 20) : Rd B g A c T E ⟨s.next, d, s.pl, s.err⟩ (w.setCell ⟨g, 3, none⟩ (.int .i64 d)) ∧ Out [g] w (w.setCell ⟨g, 3, none⟩ (.int .i64 d)) :=
 ⟨h.put (set_out w g 3 _) (by simp [World.setCell, Array.getElem?_modify, h.row]) ⟨h.fine.next, h.fine.fail, h.fine.pl, h.fine.err⟩ hd, set_out w g 3 _⟩
def innerP (T : List GTok) (E : Nat) : Nat → Option (PS → PS × GExp)
 | 0 => none
 | m + 1 => some (sumP T E m)
theorem operand_of (n : Nat) (IH : ∀ m, n = m + 1 → ∀ (s : PS) (w : World), Rd B g A c T E s w → s.deep + m = 20 → Calls Tryz.prog 169 #[.pointer (some ⟨g, 0, none⟩)] w (ExpPost B g A c T E (sumP T E m s) w))
 (s : PS) (w : World) (h : Rd B g A c T E s w) (hd : s.deep + n = 20) : Calls Tryz.prog 226 #[.pointer (some ⟨g, 0, none⟩)] w (ExpPost B g A c T E (operandP T E (innerP T E n) s) w) := by
 have hF0 := (Fr.start h).alloc (.cells zeC.toArray 78); have HF0 := hZ9 hF0; have hB := h.size; have hgl := h.glt; have hdp := h.deep; have HTo := hZ9 (term_ok h s); have t40 : (⟨#[40]⟩ : ByteArray).toList = [40] := toList_mk [40]; have t41 : (⟨#[41]⟩ : ByteArray).toList = [41] := toList_mk [41]; have HI := hZ9 (fun (W : World) (hR : Rd B g A c T E s W) => ris_any hR ⟨#[40]⟩); rw [t40] at HI; obtain ⟨P, HP⟩ : ∃ P : Ending → World → Prop, Hid (P = ExpPost B g A c T E (operandP T E (innerP T E n) s) w) := ⟨_, rfl⟩
 rw [← HP.out]; cases hi : isP T E s [40] with
 | false =>
   rw [hi] at HI
   have HX : Hid (∀ w', Rd B g A c T E (termP T E s).1 w' → Out [g] w w' → P (.returned (.agg #[.int .i64 0, .string (termP T E s).2.x, .int .i64 (termP T E s).2.v.k, .int .i64 (termP T E s).2.v.n, .string (termP T E s).2.v.s, .slice none 0 0])) w') := fun w' hr ho => by
    rw [HP.out]; have e1 : operandP T E (innerP T E n) s = ((termP T E s).1, .mk 0 (termP T E s).2 []) := by unfold operandP; rw [if_neg (by rw [hi]; decide)]
    rw [e1]; exact ⟨none, 0, 0, 0, rfl, hr, ho, f_lit0, HTo.out, SliceFar.nil⟩
   have HTm := hZ9 (fun (W : World) (hR : Rd B g A c T E s W) => rterm_any hR); generalize (termP T E s).1 = s1 at *; generalize (termP T E s).2 = tv at *; obtain ⟨tx, tk, tn, ts⟩ := tv; dsimp only at HX HTm; clear HP HTo hi h t40 t41 hF0; go_enter Tryz.func226, Tryz.ntmps226
   go_wp2_with fail
   refine (HI.out _ HF0.out.rd).mono ?_; rintro e w1 ⟨rfl, hb1⟩; have HF1 := hZ9 (HF0.out.on hb1); clear hb1 HI HF0; go_wp2_with fail
   refine (HTm.out _ HF1.out.rd).mono ?_; rintro e w2 ⟨rfl, hr2, ho2⟩; have HF2 := hZ9 (HF1.out.go hr2 ho2); have hrow := HF2.out.row (p := (w.heap.size, Obj.cells zeC.toArray 78 (0, 0))) (by simp); obtain ⟨b0, b1, b2, b3, b4, b5⟩ := facts6 hrow; have r0 := froz4 hrow; clear hr2 ho2 HTm HF1 hrow; go_wp2_with fail
   have hfin := HF2.out.fin (Nat.le_refl _) (set6_out _ w.heap.size (.int .i64 0) (.string tx) (.int .i64 tk) (.int .i64 tn) (.string ts) (.slice none 0 0)) hB; exact bodyPost_ret (v := .agg #[.int .i64 0, .string tx, .int .i64 tk, .int .i64 tn, .string ts, .slice none 0 0]) (by simp [results, Tryz.results226, go_sem, b0, b1, b2, b3, b4, b5]) rfl (HX.out _ hfin.1 hfin.2)
 | true =>
   rw [hi] at HI; cases n with
   | zero =>
     have hd20 : (20 : Int) ≤ (s.deep : Int) := by omega
     have HX : Hid (∀ w', Rd B g A c T E (failP T s (peekP T E s 0).a 4) w' → Out [g] w w' → P (.returned (.agg zeC.toArray)) w') := fun w' hr ho => by
      rw [HP.out]; have e1 : operandP T E (innerP T E 0) s = (failP T s (peekP T E s 0).a 4, zE) := by unfold operandP innerP; rw [if_pos hi]
      rw [e1]; exact ⟨none, 0, 0, 0, rfl, hr, ho, f_lit0, toldOk_z, SliceFar.nil⟩
     have HPl := hZ9 (fun (W : World) (hR : Rd B g A c T E s W) => rplace_any hR); have HFl := hZ9 (fun (W : World) (hR : Rd B g A c T E s W) => rfail_any hR (peekP T E s 0).a (peek_le hR.within s 0) 4 (by omega)); generalize (peekP T E s 0).a = pa at *; clear HP HTo hi h t40 t41 hF0 IH hd hdp; go_enter Tryz.func226, Tryz.ntmps226
     go_wp2_with fail
     refine (HI.out _ HF0.out.rd).mono ?_; rintro e w1 ⟨rfl, hb1⟩; have HF1 := hZ9 (HF0.out.on hb1); clear hb1 HI HF0; obtain ⟨c0, c1, c2, c3, c4, c5⟩ := HF1.out.rd.cells; go_wp2_with fail
     refine (HPl.out _ HF1.out.rd).mono ?_; rintro e w2 ⟨rfl, hb2⟩; have HF2 := hZ9 (HF1.out.on hb2); clear hb2 HPl HF1 c0 c1 c2 c3 c4 c5; go_wp2_with fail
     refine (HFl.out _ HF2.out.rd).mono ?_; rintro e w3 ⟨rfl, hr3, ho3⟩; have HF3 := hZ9 (HF2.out.go hr3 ho3); have hrow := HF3.out.row (p := (w.heap.size, Obj.cells zeC.toArray 78 (0, 0))) (by simp); obtain ⟨b0, b1, b2, b3, b4, b5⟩ := facts6 hrow; have r0 := froz4 hrow; clear hr3 ho3 HFl HF2 hrow; go_wp2_with fail
     have hfin := HF3.out.fin (Nat.le_refl _) (set6_out _ w.heap.size (.int .i64 0) (.string ⟨#[]⟩) (.int .i64 0) (.int .i64 0) (.string ⟨#[]⟩) (.slice none 0 0)) hB; exact bodyPost_ret (v := .agg zeC.toArray) (by simp [results, Tryz.results226, go_sem, b0, b1, b2, b3, b4, b5]) rfl (HX.out _ hfin.1 hfin.2)
   | succ m =>
     have hd20 : ¬ (20 : Int) ≤ (s.deep : Int) := by omega
     obtain ⟨s', Hs'⟩ : ∃ s' : PS, Hid (s' = ⟨s.next, s.deep + 1, s.pl, s.err⟩) := ⟨_, rfl⟩
     obtain ⟨s2, Hs2⟩ : ∃ s2 : PS, Hid (s2 = wantP T E s' [40]) := ⟨_, rfl⟩
     obtain ⟨y, Hy⟩ : ∃ y : PS × GExp, Hid (y = sumP T E m s2) := ⟨_, rfl⟩
     obtain ⟨s4, Hs4⟩ : ∃ s4 : PS, Hid (s4 = wantP T E y.1 [41]) := ⟨_, rfl⟩
     have HX : Hid (∀ A' n' c' d w', Rd B g A c T E ⟨s4.next, s4.deep - 1, s4.pl, s4.err⟩ w' → Out [g] w w' → fits y.2.op → toldOk y.2.t → SliceFar (Enc.exp d) w' (List.range w.heap.size) A' n' c' y.2.kids → P (.returned (.agg (expC y.2 A' n' c').toArray)) w') := fun A' n' c' d w' hr ho h1 h2 h3 => by
      rw [HP.out]
      have e1 : operandP T E (innerP T E (m + 1)) s = (⟨s4.next, s4.deep - 1, s4.pl, s4.err⟩, y.2) := by
       unfold operandP innerP; rw [if_pos hi]; rw [Hs4.out, Hy.out, Hs2.out, Hs'.out]
      rw [e1]; exact ⟨A', n', c', d, rfl, hr, ho, h1, h2, h3⟩
     have HD1 : Hid (∀ W, Rd B g A c T E s W → Rd B g A c T E s' (W.setCell ⟨g, 3, none⟩ (.int .i64 ((s.deep : Int) + 1))) ∧ Out [g] W (W.setCell ⟨g, 3, none⟩ (.int .i64 ((s.deep : Int) + 1)))) := fun W hR => by
      rw [Hs'.out]; exact hR.deepSet (s.deep + 1) (by omega)
     have HW1 := hZ9 (fun (W : World) (hR : Rd B g A c T E s' W) => rwant_any hR ⟨#[40]⟩); rw [t40, ← Hs2.out] at HW1
     have HD2 : Hid (∀ W, Rd B g A c T E s' W → s2.deep = s.deep + 1) := fun W hR => by
      have h1 := (want_adv hR.within s' [40] hR.fine.next).deep; rw [Hs2.out, h1, Hs'.out]
     have HS := hZ9 (fun (W : World) (hR : Rd B g A c T E s2 W) (hdd : s2.deep = s.deep + 1) => IH m rfl s2 W hR (by omega)); rw [← Hy.out] at HS; have HW2 := hZ9 (fun (W : World) (hR : Rd B g A c T E y.1 W) => rwant_any hR ⟨#[41]⟩); rw [t41, ← Hs4.out] at HW2
     have HD4 : Hid (∀ W W', Rd B g A c T E s2 W → Rd B g A c T E y.1 W' → s4.deep = s2.deep) := fun W W' hR hR' => by
      have h1 := (want_adv hR'.within y.1 [41] hR'.fine.next).deep; have h2 := (sum_goes hR.within m s2 hR.fine).deep; rw [Hs4.out, h1, Hy.out, h2]
     clear HP HTo hi h t40 t41 hF0 IH Hs' Hs2 Hy Hs4 hd; obtain ⟨ys, ye⟩ := y; obtain ⟨yo, yt, yk⟩ := ye; dsimp only at HX HW2 HD4 HS; go_enter Tryz.func226, Tryz.ntmps226
     go_wp2_with fail
     refine (HI.out _ HF0.out.rd).mono ?_; rintro e w1 ⟨rfl, hb1⟩; have HF1 := hZ9 (HF0.out.on hb1); clear hb1 HI HF0; obtain ⟨c0, c1, c2, c3, c4, c5⟩ := HF1.out.rd.cells; have f3 := HF1.out.rd.fr; go_wp2_with fail
     obtain ⟨hr2, ho2⟩ := HD1.out _ HF1.out.rd; have HF2 := hZ9 (HF1.out.go hr2 ho2); have hdd := HD2.out _ hr2; have Hdd := hZ9 hdd; clear hr2 ho2 HF1 HD1 HD2 c0 c1 c2 c3 c4 c5 f3 hdd; generalize w1.setCell ⟨g, 3, none⟩ (.int .i64 ((s.deep : Int) + 1)) = w2 at *; refine (HW1.out _ HF2.out.rd).mono ?_; rintro e w3 ⟨rfl, hr3, ho3⟩; have HF3 := hZ9 (HF2.out.go hr3 ho3); clear hr3 ho3 HF2 HW1; go_wp2_with fail
     refine (HS.out _ HF3.out.rd Hdd.out).mono ?_; rintro e w4 ⟨A', n', c', d, rfl, hr4, ho4, hf4, ht4, hk4⟩; have hb3 : w.heap.size < w3.heap.size := (glt (HF3.out.row (p := (w.heap.size, Obj.cells zeC.toArray 78 (0, 0))) (by simp)))
     have Hb3 := hZ9 hb3; have HF4 := hZ9 ((HF3.out.go hr4 ho4).alloc (.cells (expC (.mk yo yt yk) A' n' c').toArray 78)); have Hk4 : Hid (SliceFar (Enc.exp d) (w4.alloc (.cells (expC (.mk yo yt yk) A' n' c').toArray 78)) (List.range w3.heap.size) A' n' c' yk) := SliceFar.on hk4 (belowA (Below.refl _ _) _); have Hf4 := hZ9 hf4; have Ht4 := hZ9 ht4; have hd5 : s4.deep = s.deep + 1 := (HD4.out _ _ HF3.out.rd hr4).trans Hdd.out; have Hd5 := hZ9 hd5; clear hr4 ho4 hk4 hb3 hd5 hf4 ht4 HF3 HS HD4 Hdd; dsimp only [GExp.op, GExp.t]; go_wp2_with fail
     refine (HW2.out _ HF4.out.rd).mono ?_; rintro e w5 ⟨rfl, hr5, ho5⟩; have HF5 := hZ9 (HF4.out.go hr5 ho5); have Hk5 : Hid (SliceFar (Enc.exp d) w5 (List.range w3.heap.size) A' n' c' yk) := SliceFar.out Hk4.out ho5 (fun b hb _ => List.mem_range.2 (by have := Hb3.out; simp at hb; omega)) (fun _ h _ => h); clear hr5 ho5 HF4 HW2 Hk4; obtain ⟨c0, c1, c2, c3, c4, c5⟩ := HF5.out.rd.cells; have f3 := HF5.out.rd.fr; obtain ⟨k, Hk⟩ : ∃ k : Nat, Hid (s4.deep = k) := ⟨_, rfl⟩
     rw [Hk.out] at c3; have hk1 : (1 : Int) ≤ (k : Int) := by have := Hk.out; have := Hd5.out; omega
     have hk2 : (k : Int) ≤ 21 := by have := Hk.out; have := Hd5.out; omega
     have hrow := HF5.out.row (p := (w.heap.size, Obj.cells zeC.toArray 78 (0, 0))) (by simp); have hrow2 := HF5.out.row (p := (w4.heap.size, Obj.cells (expC (.mk yo yt yk) A' n' c').toArray 78 (0, 0))) (by simp); obtain ⟨b0, b1, b2, b3, b4, b5⟩ := facts6 hrow; have r0 := froz4 hrow; obtain ⟨a0, a1, a2, a3, a4, a5⟩ := facts6 hrow2; dsimp only [GExp.op, GExp.t] at a0 a1 a2 a3 a4; have hgr : g ≠ w.heap.size := by omega
     have hg4 : g ≠ w4.heap.size := by have := (HF5.out.rows (w4.heap.size, Obj.cells (expC (.mk yo yt yk) A' n' c').toArray 78 (0, 0)) (by simp)).1; dsimp only at this; omega
     go_wp2_with fail
     have hdn := HF5.out.rd.deepSet (s4.deep - 1) (by have := Hd5.out; omega); rw [show ((s4.deep - 1 : Nat) : Int) = (k : Int) - 1 by have := Hk.out; have := Hd5.out; omega] at hdn; have ho7 := set6_out (w5.setCell ⟨g, 3, none⟩ (.int .i64 ((k : Int) - 1))) w.heap.size (.int .i64 yo) (.string yt.x) (.int .i64 yt.v.k) (.int .i64 yt.v.n) (.string yt.v.s) (.slice A' n' c'); have hfin := (HF5.out.go hdn.1 hdn.2).fin (Nat.le_refl _) ho7 hB; have hb3 := Hb3.out; have hk6 := SliceFar.out Hk5.out hdn.2 (fun b hb _ => List.mem_range.2 (by simp at hb; omega)) (fun _ h _ => h); have hk7 := SliceFar.out (U := List.range w.heap.size) hk6 ho7 (fun b hb _ => List.mem_range.2 (by simp at hb; omega)) (fun b hb _ => List.mem_range.2 (by have := List.mem_range.1 hb; omega)); exact bodyPost_ret (v := .agg #[.int .i64 yo, .string yt.x, .int .i64 yt.v.k, .int .i64 yt.v.n, .string yt.v.s, .slice A' n' c']) (by simp [results, Tryz.results226, go_sem, b0, b1, b2, b3, b4, b5]) rfl (HX.out A' n' c' d _ hfin.1 hfin.2 Hf4.out Ht4.out hk7)
end
end Go.Proofs.YtaeedepojpablaaGreatDoor

namespace Go.Proofs.YtaeedepojpablaaGreatDoor
open Go.RowKit
theorem two_exps {d : Nat} {W : World} {B b : Nat} {T : TypeId} {x y : GExp} {A1 A2 : Option Addr} {n1 c1 n2 c2 : Nat} (hb : b < B) (hrow : W.heap[b]? = some (.cells (expC x A1 n1 c1 ++ expC y A2 n2 c2).toArray T (0, 0)))
 (hx : fits x.op ∧ toldOk x.t ∧ SliceIs (Enc.exp d) W B A1 n1 c1 x.kids) (hy : fits y.op ∧ toldOk y.t ∧ SliceIs (Enc.exp d) W B A2 n2 c2 y.kids) :
 SliceIs (Enc.exp (d + 1)) W B (some ⟨b, 0, none⟩) 2 2 [x, y] := by
 refine ⟨rfl, by omega, by simp [maxLen], by simp [reachN], .inr ⟨b, 0, rfl, hb, fun i e hi => ?_⟩⟩; match i, hi with
 | 0, hi =>
   simp at hi; subst hi
   refine ⟨expC x A1 n1 c1, ⟨A1, n1, c1, rfl, hx.1, hx.2.1.1, hx.2.1.2, hx.2.2⟩, fun j v hj => ?_⟩; show W.cell? ⟨b, 0 + 0 * 6 + j, none⟩ = some v; rw [cell_of_row _ _ _ _ _ _ hrow]; have hl : j < 6 := (List.getElem?_eq_some_iff.1 hj).1; simp only [Nat.zero_mul, Nat.zero_add, List.getElem?_toArray]; rw [List.getElem?_append_left (show j < (expC x A1 n1 c1).length from hl)]; exact hj
 | 1, hi =>
   simp at hi; subst hi
   refine ⟨expC y A2 n2 c2, ⟨A2, n2, c2, rfl, hy.1, hy.2.1.1, hy.2.1.2, hy.2.2⟩, fun j v hj => ?_⟩; show W.cell? ⟨b, 0 + 1 * 6 + j, none⟩ = some v; rw [cell_of_row _ _ _ _ _ _ hrow]; simp only [Nat.one_mul, Nat.zero_add, List.getElem?_toArray]; rw [List.getElem?_append_right (show (expC x A1 n1 c1).length ≤ 6 + j by show 6 ≤ 6 + j; omega)]; rw [show 6 + j - (expC x A1 n1 c1).length = j by show 6 + j - 6 = j; omega]; exact hj
 | i + 2, hi => simp at hi
abbrev binOps (f : Nat) (k : Int) (tb d0 d1 d2 d3 d4 : Nat) (y0 y1 y2 y3 y4 y5 : TypeId) (p : String) : Array Oper := #[
 { dst := some d0, op := .load 78 (.tmp tb), type := y0, pos := p, after := #[], guard := none },
 { dst := some d1, op := .move (.tmp 0), type := y1, pos := p, after := #[], guard := none },
 { dst := some d2, op := .call { callee := .value (.func f), args := #[.tmp d1], argTypes := #[93] }, type := y2, pos := p, after := #[⟨1, .data⟩], guard := none },
 { dst := some d3, op := .buildSlice 76 2 #[(0, .tmp d0), (1, .tmp d2)], type := y3, pos := p, after := #[⟨0, .data⟩, ⟨2, .data⟩], guard := none },
 { dst := some d4, op := .build 78 #[(0, .const (.int .i64 k)), (2, .tmp d3)], type := y4, pos := p, after := #[⟨3, .data⟩], guard := none },
 { dst := none, op := .store 78 (.tmp tb) (.tmp d4), type := y5, pos := p, after := #[⟨4, .data⟩, ⟨2, .chain⟩, ⟨0, .phase⟩, ⟨1, .phase⟩, ⟨2, .phase⟩, ⟨3, .phase⟩, ⟨4, .phase⟩], guard := none }]
def binF (g : Nat) (k : Int) (y z : GExp) (A1 : Option Addr) (n1 c1 : Nat) (Res : Option Addr → Nat → Nat → World → Prop) (w0 : World) (i : Nat) (v : Value) (W : World) : Prop := match i with
 | 0 => v = .agg (expC y A1 n1 c1).toArray
 | 1 => v = .pointer (some ⟨g, 0, none⟩)
 | 2 => ∃ A2 n2 c2, v = .agg (expC z A2 n2 c2).toArray ∧ Res A2 n2 c2 W
 | 3 => ∃ A2 n2 c2 b, v = .slice (some ⟨b, 0, none⟩) 2 2 ∧ Res A2 n2 c2 W ∧ W.heap[b]? = some (.cells (expC y A1 n1 c1 ++ expC z A2 n2 c2).toArray 78 (0, 0)) ∧ w0.heap.size ≤ b
 | 4 => ∃ A2 n2 c2 b, v = .agg (expC (.mk k zT [y, z]) (some ⟨b, 0, none⟩) 2 2).toArray ∧ Res A2 n2 c2 W ∧ W.heap[b]? = some (.cells (expC y A1 n1 c1 ++ expC z A2 n2 c2).toArray 78 (0, 0)) ∧ w0.heap.size ≤ b
 | _ => True
theorem exp_sizeI : (Tryz.prog.info? 78).map (·.size) = some 6 := by kernel_rfl
theorem exp_infoS : (Tryz.prog.info? 78).map (fun i => (i.zero.isSome, i.size)) = some (true, 6) := by kernel_rfl
theorem bin_region {id : Nat} {a : Act} {w : World} {Q : Exit → Act → World → Prop} {f tb d0 d1 d2 d3 d4 : Nat} {k : Int} {y0 y1 y2 y3 y4 y5 : TypeId} {p : String} (n : Nat)
 (hn : a.tmps.size = n) (hd : a.defers = []) (hok : drawnOk (binOps f k tb d0 d1 d2 d3 d4 y0 y1 y2 y3 y4 y5 p) 5 n = true)
 (htb : ((binOps f k tb d0 d1 d2 d3 d4 y0 y1 y2 y3 y4 y5 p).toList.take 5).all (fun o => !decide (o.dst = some tb)) = true)
 (ht0 : ((binOps f k tb d0 d1 d2 d3 d4 y0 y1 y2 y3 y4 y5 p).toList.take 5).all (fun o => !decide (o.dst = some 0)) = true)
 (hbuilt : ∀ b : Nat, Tryz.prog.built 78 [(0, .int .i64 k), (2, .slice (some ⟨b, 0, none⟩) 2 2)] = some #[.int .i64 k, .string ⟨#[]⟩, .int .i64 0, .int .i64 0, .string ⟨#[]⟩, .slice (some ⟨b, 0, none⟩) 2 2])
 (g eb : Nat) (y z : GExp) (A1 : Option Addr) (n1 c1 : Nat) (Res : Option Addr → Nat → Nat → World → Prop)
 (hb : a.tmps[tb]? = some (.pointer (some ⟨eb, 0, none⟩))) (h0 : a.tmps[0]? = some (.pointer (some ⟨g, 0, none⟩))) (hrow : w.heap[eb]? = some (.cells (expC y A1 n1 c1).toArray 78 (0, 0))) (hge : eb ≠ g)
 (fn : Func) (hfn : Tryz.prog.funcs[f]? = some fn) (hbd : fn.body.isSome = true) (hng : (fn.name == "runtime.NumGoroutine") = false)
 (hRes : ∀ A n c W W', Res A n c W → Below W.heap.size W W' → Res A n c W')
 (hcall : ∀ W, Below w.heap.size w W → W.heap.size = w.heap.size → Calls Tryz.prog f #[.pointer (some ⟨g, 0, none⟩)] W (fun r w' => ∃ A2 n2 c2, r = .returned (.agg (expC z A2 n2 c2).toArray) ∧ Res A2 n2 c2 w' ∧ Out [g] W w'))
 (hQ : ∀ (u : Nat → Value) (W : World) A2 n2 c2 b, Res A2 n2 c2 W → W.heap[b]? = some (.cells (expC y A1 n1 c1 ++ expC z A2 n2 c2).toArray 78 (0, 0)) → w.heap.size ≤ b → Out [g] w W →
  W.heap[eb]? = some (.cells (expC y A1 n1 c1).toArray 78 (0, 0)) → Q .normal ([d0, d1, d2, d3, d4].foldl (fun x d => x.put (some d) (u d)) a) (W.setRow eb (expC (.mk k zT [y, z]) (some ⟨b, 0, none⟩) 2 2).toArray)) :
 (Code.region id (binOps f k tb d0 d1 d2 d3 d4 y0 y1 y2 y3 y4 y5 p) true).wp Tryz.prog Q a w := by
 have mixed : Tryz.prog.follows .mixedOrders = true := by kernel_rfl
 have hw0 : Below w.heap.size w w.drew := below_drewN w 1 _
 refine drawn mixed 5 n (fun j W => W.heap[eb]? = some (.cells (expC y A1 n1 c1).toArray 78 (0, 0)) ∧ Out [g] w W ∧ (j = 2 → Below w.heap.size w W ∧ W.heap.size = w.heap.size)) (binF g k y z A1 n1 c1 Res w)
  (fun j W W' => if j = 3 then Below W.heap.size W W' else if j = 2 then Out [g] W W' ∧ W.heap.size = w.heap.size else W' = W) hn hok hd (fun j _ => ⟨hrow, Out.of_below hw0 _, fun _ => ⟨hw0, rfl⟩⟩) ?_ ?_ ?_ ?_
 ·intro i j v W W' hij hil hj hF hRr; by_cases h3 : j = 3
  ·subst h3; simp only [if_true] at hRr; match i, hF with
   | 0, h => exact h
   | 1, h => exact h
   | 2, ⟨A2, n2, c2, h1, h2⟩ => exact ⟨A2, n2, c2, h1, hRes _ _ _ _ _ h2 hRr⟩
   | 3, _ => exact absurd rfl hij
   | 4, ⟨A2, n2, c2, b, h1, h2, h3, h4⟩ => exact ⟨A2, n2, c2, b, h1, hRes _ _ _ _ _ h2 hRr, (hRr.block _ (glt h3)).trans h3, h4⟩
   | _ + 5, _ => exact trivial
  rw [if_neg h3] at hRr; by_cases h2 : j = 2
  ·subst h2; simp only [if_true] at hRr; obtain ⟨-, hs⟩ := hRr; match i, hF with
   | 0, h => exact h
   | 1, h => exact h
   | 2, _ => exact absurd rfl hij
   | 3, ⟨A2, n2, c2, b, h1, h2, h3, h4⟩ => have := (glt h3); omega
   | 4, ⟨A2, n2, c2, b, h1, h2, h3, h4⟩ => have := (glt h3); omega
   | _ + 5, _ => exact trivial
  rw [if_neg h2] at hRr; subst hRr; exact hF
 ·intro i j W W' hij hil hj hanc hG hRr; by_cases h3 : i = 3
  ·subst h3; simp only [if_true] at hRr; exact ⟨(hRr.block _ (glt hG.1)).trans hG.1, out_below hG.2.1 hRr, fun e => absurd (by subst e; simp [ancs, Region.binds]) hanc⟩
  rw [if_neg h3] at hRr; by_cases h2 : i = 2
  ·subst h2; simp only [if_true] at hRr; exact ⟨(hRr.1.block _ (glt hG.1) (by simpa using hge)).trans hG.1, out_next hG.2.1 hRr.1, fun e => absurd e (Ne.symm hij)⟩
  rw [if_neg h2] at hRr; subst hRr; exact hG
 ·intro i o a' W hil ho hd' hold hGi hGL hw; have hr1 := (hold tb htb).trans hb; have hr2 := (hold 0 ht0).trans h0; match i, hil, ho with
  | 0, _, ho =>
    injection ho with ho; subst ho
    exact wp_load_mid 78 (.tmp tb) rfl _ _ (eval_tmp hr1) (expC y A1 n1 c1) _ (range_rowR hGi.1) Tryz.underlying78 rfl exp_sizeI ⟨_, rfl, by simp, rfl⟩
  | 1, _, ho =>
    injection ho with ho; subst ho
    exact op_val _ (by simp [execOp, Act.eval, hr2, go_sem]) ⟨_, rfl, by simp, rfl⟩
  | 2, _, ho =>
    injection ho with ho; subst ho
    obtain ⟨v0, h0, e0⟩ := hw 1 d1 rfl; obtain rfl : v0 = _ := e0; obtain ⟨hbw, hzw⟩ := hGi.2.2 rfl; refine op_call f _ rfl rfl #[.pointer (some ⟨g, 0, none⟩)] (by simp [Act.eval, h0]) fn hfn hbd hng ((hcall W hbw hzw).mono ?_); rintro r w' ⟨A2, n2, c2, rfl, e1, e2⟩; exact ⟨_, rfl, _, rfl, by simp [e2, hzw], A2, n2, c2, rfl, e1⟩
  | 3, _, ho =>
    injection ho with ho; subst ho
    obtain ⟨v0, h0, e0⟩ := hw 0 d0 rfl; obtain rfl : v0 = _ := e0; obtain ⟨v1, h1, A2, n2, c2, e1, e2⟩ := hw 2 d2 rfl; obtain rfl : v1 = _ := e1; refine op_bslice 76 78 2 _ rfl 6 [.agg (expC y A1 n1 c1).toArray, .agg (expC z A2 n2 c2).toArray] Tryz.underlying76 exp_infoS (by decide) rfl (by decide) (by decide) (by simp [Act.eval, h0, h1]) (by simp [Value.cells]) ?_; simp only [List.flatMap_cons, List.flatMap_nil, List.append_nil, Value.cells]; exact ⟨_, rfl, by simpa using belowA (Below.refl W.heap.size W) (.cells (expC y A1 n1 c1 ++ expC z A2 n2 c2).toArray 78), A2, n2, c2, _, rfl, hRes _ _ _ _ _ e2 (belowA (Below.refl _ _) _), heapNew rfl, hGi.2.1.size⟩
  | 4, _, ho =>
    injection ho with ho; subst ho
    obtain ⟨v0, h0, A2, n2, c2, b, e1, e2, e3, e4⟩ := hw 3 d3 rfl; obtain rfl : v0 = _ := e1; exact op_build 78 _ rfl [(0, .int .i64 k), (2, .slice (some ⟨b, 0, none⟩) 2 2)] _ (by simp [Act.eval, h0]) (hbuilt _) ⟨_, rfl, by simp, A2, n2, c2, b, rfl, e2, e3, e4⟩
  | n + 5, hil, _ => omega
 ·intro o a' W ho hd' hs hold hGL hw; obtain ⟨v0, h0', A2, n2, c2, b, e1, e2, e3, e4⟩ := hw 4 d4 (by decide) rfl; obtain rfl : v0 = _ := e1; have hr1 := (hold tb htb).trans hb; injection ho with ho; subst ho
  obtain ⟨u, hu, -⟩ := frame_of (a := a) (a' := a') [d0, d1, d2, d3, d4] (by rw [hs, hn]) (by rw [hd', hd]) (fun t ht => hold t (by simp at ht; simp [Ne.symm ht.1, Ne.symm ht.2.1, Ne.symm ht.2.2.1, Ne.symm ht.2.2.2.1, Ne.symm ht.2.2.2.2])); have hq := hQ u W A2 n2 c2 b e2 e3 e4 hGL.2.1 hGL.1; rw [← hu] at hq; exact wp_store_row 78 (.tmp tb) (.tmp d4) rfl eb _ (eval_tmp hr1) (eval_tmp h0') 78 _ hGL.1 exp_sizeI rfl (by simp [Value.oneCell']) hq
theorem exps_far {w2 W : World} {eb b N : Nat} {y z : GExp} {A1 A2 : Option Addr} {n1 c1 n2 c2 d1 d2 : Nat} {T : TypeId} (hb : w2.heap.size ≤ b) (hez : eb < w2.heap.size) (hN : N ≤ eb) (hbr : W.heap[b]? = some (.cells (expC y A1 n1 c1 ++ expC z A2 n2 c2).toArray T (0, 0)))
 (hy : fits y.op ∧ toldOk y.t ∧ SliceFar (Enc.exp d1) W (eb :: List.range N) A1 n1 c1 y.kids) (hz : fits z.op ∧ toldOk z.t ∧ SliceFar (Enc.exp d2) W (List.range w2.heap.size) A2 n2 c2 z.kids) (cs : Array Value) :
 SliceFar (Enc.exp (max d1 d2 + 1)) (W.setRow eb cs) (eb :: List.range N) (some ⟨b, 0, none⟩) 2 2 [y, z] := by
 have ho : Out [eb] W (W.setRow eb cs) := ⟨rfl, rfl, rfl, by rw [setRow_size]; exact Nat.le_refl _, fun x _ hx => setRow_ne (by simpa using hx)⟩
 have h1 : SliceFar (Enc.exp d1) (W.setRow eb cs) (eb :: List.range N) A1 n1 c1 y.kids := SliceFar.out hy.2.2 ho (fun x hx _ => by simp at hx; simp [hx]) (fun _ h _ => h)
 have h2 : SliceFar (Enc.exp d2) (W.setRow eb cs) (eb :: List.range N) A2 n2 c2 z.kids := SliceFar.out hz.2.2 ho (fun x hx _ => List.mem_range.2 (by simp at hx; omega)) (fun x hx _ => List.mem_range.2 (by
  rcases List.mem_cons.1 hx with rfl | hx
  ·exact hez
  ·have := List.mem_range.1 hx; omega))
 refine two_exps (T := T) ?_ ?_ ⟨hy.1, hy.2.1, kids_up (Nat.le_max_left _ _) h1⟩ ⟨hz.1, hz.2.1, kids_up (Nat.le_max_right _ _) h2⟩
 ·rw [setRow_size]; exact (glt hbr)
 ·rw [sans_out (by simp only [List.mem_cons, List.mem_range, not_or]; omega), setRow_ne (by omega), hbr]
end Go.Proofs.YtaeedepojpablaaGreatDoor
