/- My own texts PaR, PaC, as far as this claim needs them. -/
import Derived.Test.YtaeedepojpablaaGreatDoorZq10
import Derived.IntWalk
set_option linter.unusedVariables false
set_option linter.unusedSimpArgs false
set_option maxRecDepth 1000000
set_option maxHeartbeats 16000000
namespace Go.Proofs.YtaeedepojpablaaGreatDoor
open Go.RowKit
def paggsL : List (List UInt8) := [[99, 111, 117, 110, 116], [115, 117, 109], [109, 105, 110], [109, 97, 120]]
def psignsL : List (List UInt8) := [[61], [33, 61], [60], [60, 61], [62], [62, 61]]
structure ParW (W : World) : Prop where
 lex : LexW W
 aggs : StrsW 0 paggsL W
 signs : StrsW 2 psignsL W
theorem ParW.on {w W : World} (h : ParW w) (hb : Below w.heap.size w W) : ParW W := ⟨h.lex.on hb, h.aggs.on hb, h.signs.on hb⟩
def parG : List Nat := 0 :: 2 :: lexG
theorem ParW.lt {W : World} (h : ParW W) : ∀ b ∈ parG, b < W.heap.size := by
 obtain ⟨t1, fr1, h1⟩ := h.aggs; obtain ⟨t2, fr2, h2⟩ := h.signs; intro b hb; simp only [parG, List.mem_cons] at hb; rcases hb with rfl | rfl | hb
 ·exact (glt h1)
 ·exact (glt h2)
 ·exact h.lex.lt b hb
theorem StrsW.keep {g : Nat} {L : List (List UInt8)} {w W : World} (h : StrsW g L w) (hk : W.heap[g]? = w.heap[g]?) : StrsW g L W := by
 obtain ⟨t, fr, h⟩ := h; exact ⟨t, fr, hk.trans h⟩
theorem ParW.keep {W W' : World} (h : ParW W) (hk : ∀ b ∈ parG, W'.heap[b]? = W.heap[b]?) : ParW W' :=
 ⟨h.lex.keep (fun b hb => hk b (by simp [parG, hb])), h.aggs.keep (hk _ (by simp [parG])), h.signs.keep (hk _ (by simp [parG]))⟩
abbrev rdC (A : Option Addr) (c : Nat) (T : List GTok) (E : Nat) (s : PS) : List Value := [.slice A T.length c, .int .i64 s.next, .int .i64 E, .int .i64 s.deep, .int .i64 s.pl, .int .i64 s.err]
structure Rd (B g : Nat) (A : Option Addr) (c : Nat) (T : List GTok) (E : Nat) (s : PS) (W : World) : Prop where
 row : W.heap[g]? = some (.cells (rdC A c T E s).toArray 142 (0, 0))
 toks : SliceIs Enc.tok (sans W [g]) B A T.length c T
 par : ParW W
 lt : g < B
 size : B ≤ W.heap.size
 tabs : ∀ b ∈ parG, b < B ∧ b ≠ g
 fine : Fine T E s
 within : Within T E
 elen : E ≤ 4000
 tlen : T.length ≤ 4000
 deep : s.deep ≤ 20
 texts : ∀ q ∈ T, TextOf wordK q.k q.t
section
variable {B g : Nat} {A : Option Addr} {c : Nat} {T : List GTok} {E : Nat} {s s' : PS} {W W' : World}
theorem Rd.out (h : Rd B g A c T E s W) {S : List Nat} (ho : Out S W W') (hS : ∀ b ∈ S, b < W.heap.size → B ≤ b) : Rd B g A c T E s W' := by
 have hb : ∀ b, b < B → W'.heap[b]? = W.heap[b]? := fun b hb => ho.block b (Nat.lt_of_lt_of_le hb h.size) (fun hm => by have := hS b hm (Nat.lt_of_lt_of_le hb h.size); omega)
 refine ⟨(hb g h.lt).trans h.row, h.toks.mono' (Nat.le_refl _) ?_, h.par.keep (fun b hm => hb b (h.tabs b hm).1), h.lt, Nat.le_trans h.size ho.size, h.tabs, h.fine, h.within, h.elen, h.tlen, h.deep, h.texts⟩; intro b hbB cs t fr hcs hc; obtain ⟨hn, hw⟩ := sans_in hcs hc; rw [sans_out hn, hb b hbB, hw]
theorem Rd.on (h : Rd B g A c T E s W) (hb : Below W.heap.size W W') : Rd B g A c T E s W' := h.out (Out.of_below hb []) (fun _ h => by cases h)
theorem Rd.put (h : Rd B g A c T E s W) (ho : Out [g] W W') (hr : W'.heap[g]? = some (.cells (rdC A c T E s').toArray 142 (0, 0))) (hf : Fine T E s') (hd : s'.deep ≤ 20) : Rd B g A c T E s' W' := by
 have hb : ∀ b, b < B → b ≠ g → W'.heap[b]? = W.heap[b]? := fun b hb hne => ho.block b (Nat.lt_of_lt_of_le hb h.size) (by simpa using hne)
 refine ⟨hr, h.toks.mono' (Nat.le_refl _) ?_, h.par.keep (fun b hm => hb b (h.tabs b hm).1 (h.tabs b hm).2), h.lt, Nat.le_trans h.size ho.size, h.tabs, hf, h.within, h.elen, h.tlen, hd, h.texts⟩; intro b hbB cs t fr hcs hc; obtain ⟨hn, hw⟩ := sans_in hcs hc; have hne : b ≠ g := by simpa using hn
 rw [sans_out hn, hb b hbB hne, hw]
theorem Rd.cells (h : Rd B g A c T E s W) :
 W.cell? ⟨g, 0, none⟩ = some (.slice A T.length c) ∧ W.cell? ⟨g, 1, none⟩ = some (.int .i64 s.next) ∧ W.cell? ⟨g, 2, none⟩ = some (.int .i64 E) ∧ W.cell? ⟨g, 3, none⟩ = some (.int .i64 s.deep) ∧ W.cell? ⟨g, 4, none⟩ = some (.int .i64 s.pl) ∧ W.cell? ⟨g, 5, none⟩ = some (.int .i64 s.err) := facts6 h.row
theorem Rd.glt (h : Rd B g A c T E s W) : g < W.heap.size := Nat.lt_of_lt_of_le h.lt h.size
theorem Rd.fr (h : Rd B g A c T E s W) (i : Nat) : W.frozen? ⟨g, i, none⟩ = false := frozen_of_row _ _ _ _ _ h.row
theorem Rd.tok_at (h : Rd B g A c T E s W) {i : Nat} (hi : i < T.length) :
 ∃ b o x, A = some ⟨b, o, none⟩ ∧ b < B ∧ Hid (T[i]? = some x) ∧ W.cell? ⟨b, o + i * 3, none⟩ = some (.int .i64 x.k) ∧ W.cell? ⟨b, o + i * 3 + 1, none⟩ = some (.string (bytes x.t)) ∧
   W.cell? ⟨b, o + i * 3 + 2, none⟩ = some (.int .i64 x.a) ∧ fits x.k ∧ fits x.a ∧ x.t.length ≤ reachN :=
 (h.toks.mono' (Nat.le_refl _) (kept_up W [g] B)).tok_at hi
end
def RdPost (B g : Nat) (A : Option Addr) (c : Nat) (T : List GTok) (E : Nat) (s' : PS) (v : Value) (w : World) (e : Ending) (w' : World) : Prop := e = .returned v ∧ Rd B g A c T E s' w' ∧ Out [g] w w'
theorem out_next {g : Nat} {w w1 w2 : World} (h : Out [g] w w1) (h' : Out [g] w1 w2) : Out [g] w w2 := h.trans h' (fun _ h _ => h)
theorem out_below {g : Nat} {w w1 w2 : World} (h : Out [g] w w1) (h' : Below w1.heap.size w1 w2) : Out [g] w w2 := h.trans (Out.of_below h' []) (fun _ h _ => by cases h)
section
variable {B g : Nat} {A : Option Addr} {c : Nat} {T : List GTok} {E : Nat} {s : PS} {w : World}
theorem tokC_eq (q : GTok) : tokC q = .agg #[.int .i64 q.k, .string (bytes q.t), .int .i64 q.a] := rfl
theorem rpeek_any (h : Rd B g A c T E s w) (k : Nat) (hk : k ≤ 1) : Calls Tryz.prog 83 #[.pointer (some ⟨g, 0, none⟩), .int .i64 k] w (RetV (tokC (peekP T E s k)) w) := by
 obtain ⟨c0, c1, c2, c3, c4, c5⟩ := h.cells; have hT := h.tlen; have hn := h.fine.next; have hgl := h.glt; by_cases hlt : s.next + k < T.length
 ·obtain ⟨b, o, x, rfl, hb, hx, x0, x1, x2, -, -, -⟩ := h.tok_at hlt; have hbw : b < w.heap.size := Nat.lt_of_lt_of_le hb h.size; have HE : Hid (peekP T E s k = x) := by show _ = _; unfold peekP; rw [hx.out]; rfl
  rw [HE.out, tokC_eq]; obtain ⟨i, Hi⟩ : ∃ i : Nat, Hid (i = s.next + k) := ⟨_, rfl⟩
  rw [← Hi.out] at x0 x1 x2; have h1 : ((s.next : Int) + (k : Int)) = (i : Int) := by rw [Hi.out]; simp
  have hi : i < T.length := by rw [Hi.out]; exact hlt
  have hi1 : ¬ ((T.length : Int) ≤ (i : Int)) := by omega
  have hi2 : (i : Int) < (T.length : Int) := by omega
  have hw1 : wrap64 (i : Int) = (i : Int) := by unfold wrap64; omega
  have hi3 : (0 : Int) ≤ (i : Int) := by omega
  have hw2 : IntKind.i64.wrap (i : Int) = (i : Int) := by rw [IntWalk.i64_left]; exact hw1
  have hw3 : (i : Int).toNat = i := rfl; generalize s.next = sn at *; clear h hx hlt HE hn hk hT; go_enter Tryz.func83, Tryz.ntmps83
  go_wp2_with fail
  go_quiet (fail)
  go_wp2_with fail
  go_region_with (fail)
  all_goals
   go_wp2_with fail
   refine bodyPost_ret (v := .agg #[.int .i64 x.k, .string (bytes x.t), .int .i64 x.a]) (by simp [results, Tryz.results83, go_sem]) rfl ⟨rfl, ?_⟩; exact belowS (belowS (belowS ((belowA (Below.refl _ _) _).trans (below_drewN _ _ _)) _ _ (Nat.le_refl _) _) _ _ (Nat.le_refl _) _) _ _ (Nat.le_refl _) _
 ·have HE : Hid (peekP T E s k = ⟨0, [], E⟩) := peek_none (by omega); rw [HE.out, tokC_eq]; obtain ⟨i, Hi⟩ : ∃ i : Nat, Hid (i = s.next + k) := ⟨_, rfl⟩
  have h1 : ((s.next : Int) + (k : Int)) = (i : Int) := by rw [Hi.out]; simp
  have hi1 : ((T.length : Int) ≤ (i : Int)) := by rw [Hi.out]; omega
  have hib : i ≤ 5000 := by rw [Hi.out]; omega
  have hw1 : wrap64 (i : Int) = (i : Int) := by unfold wrap64; omega
  generalize s.next = sn at *; clear h hlt HE hn hk hT hib; go_enter Tryz.func83, Tryz.ntmps83
  go_wp2_with fail
  go_quiet (fail)
  go_wp2_with fail
  refine bodyPost_ret (v := .agg #[.int .i64 0, .string ⟨#[]⟩, .int .i64 E]) (by simp [results, Tryz.results83, go_sem]) rfl ⟨rfl, ?_⟩; exact belowS (belowS (belowS ((belowA (Below.refl _ _) _).trans (below_drewN _ _ _)) _ _ (Nat.le_refl _) _) _ _ (Nat.le_refl _) _) _ _ (Nat.le_refl _) _
theorem peek_le2 (h : Rd B g A c T E s w) (k : Nat) : (peekP T E s k).a ≤ 4000 := Nat.le_trans (peek_le h.within s k) h.elen
theorem tok_field2 (k a : Int) (t : ByteArray) (W : World) : (Instr.field 178 (.agg #[.int .i64 k, .string t, .int .i64 a]) 2).run Tryz.prog W = .ok (.int .i64 a) W := by kernel_rfl
theorem tok_field0 (k a : Int) (t : ByteArray) (W : World) : (Instr.field 178 (.agg #[.int .i64 k, .string t, .int .i64 a]) 0).run Tryz.prog W = .ok (.int .i64 k) W := by kernel_rfl
theorem rplace_any (h : Rd B g A c T E s w) : Calls Tryz.prog 51 #[.pointer (some ⟨g, 0, none⟩)] w (RetV (.int .i64 (peekP T E s 0).a) w) := by
 have HC := hZ9 (rpeek_any h 0 (by omega)); rw [tokC_eq] at HC; generalize peekP T E s 0 = q at *; clear h; have f2 := tok_field2 q.k q.a (bytes q.t); go_enter Tryz.func51, Tryz.ntmps51
 go_wp2_with fail
 refine HC.out.mono ?_; rintro e w1 ⟨rfl, hb⟩; have Hb := hZ9 hb; clear hb; go_wp2_with fail
 go_ret; exact ⟨rfl, Hb.out⟩
theorem ris_any (h : Rd B g A c T E s w) (t : ByteArray) : Calls Tryz.prog 52 #[.pointer (some ⟨g, 0, none⟩), .string t] w (RetV (.bool (isP T E s t.toList)) w) := by
 have HC := hZ9 (rpeek_any h 0 (by omega)); rw [tokC_eq] at HC; unfold isP; generalize peekP T E s 0 = q at *; obtain ⟨k, x, a⟩ := q; dsimp only at *
 have HE : Hid (((bytes x).toList == t.toList) = decide (x = t.toList)) := by
  show _ = _; have e1 : (bytes x).toList = x := toList_mk x; rw [e1]; rw [Bool.eq_iff_iff]; simp
 clear h; by_cases k1 : k = 1
 ·subst k1; go_enter Tryz.func52, Tryz.ntmps52
  go_wp2_with fail
  refine HC.out.mono ?_; rintro e w1 ⟨rfl, hb⟩; have Hb := hZ9 hb; clear hb; go_wp2_with fail
  go_ret; exact ⟨by rw [HE.out]; rfl, belowA Hb.out _⟩
 have e1 : (k == 1) = false := by simp [k1]
 by_cases k5 : k = 5
 ·subst k5; clear k1; go_enter Tryz.func52, Tryz.ntmps52
  go_wp2_with fail
  refine HC.out.mono ?_; rintro e w1 ⟨rfl, hb⟩; have Hb := hZ9 hb; clear hb; go_wp2_with fail
  go_ret; exact ⟨by rw [HE.out]; rfl, belowA Hb.out _⟩
 have e5 : (k == 5) = false := by simp [k5]
 have HF : Hid (((decide (k = 1) || decide (k = 5)) && decide (x = t.toList)) = false) := by show _ = _; simp [k1, k5]
 rw [HF.out]; clear k1 k5 HE HF; go_enter Tryz.func52, Tryz.ntmps52
 go_wp2_with fail
 refine HC.out.mono ?_; rintro e w1 ⟨rfl, hb⟩; have Hb := hZ9 hb; clear hb; go_wp2_with fail
 go_ret; exact ⟨rfl, belowA Hb.out _⟩
theorem rd_set {W : World} (hr : W.heap[g]? = some (.cells (rdC A c T E s).toArray 142 (0, 0))) (n : Nat) : (W.setCell ⟨g, 1, none⟩ (.int .i64 n)).heap[g]? = some (.cells (rdC A c T E ⟨n, s.deep, s.pl, s.err⟩).toArray 142 (0, 0)) := by
 simp [World.setCell, Array.getElem?_modify, hr]
theorem Rd.up (h : Rd B g A c T E s w) (hn : s.next < T.length) : Rd B g A c T E s.up (w.setCell ⟨g, 1, none⟩ (.int .i64 ((s.next : Int) + 1))) ∧ Out [g] w (w.setCell ⟨g, 1, none⟩ (.int .i64 ((s.next : Int) + 1))) :=
 ⟨h.put (set_out w g 1 _) (rd_set h.row (s.next + 1)) ((up_adv hn).fine h.fine) h.deep, set_out w g 1 _⟩
theorem rfail_any (h : Rd B g A c T E s w) (a : Nat) (ha : a ≤ E) (e : Int) (he : 1 ≤ e ∧ e ≤ 4) : Calls Tryz.prog 50 #[.pointer (some ⟨g, 0, none⟩), .int .i64 a, .int .i64 e] w (RdPost B g A c T E (failP T s a e) (.tuple #[]) w) := by
 obtain ⟨c0, c1, c2, c3, c4, c5⟩ := h.cells; obtain ⟨r0, r1, r2, r3, r4, r5⟩ : (∀ i, w.frozen? ⟨g, i, none⟩ = false) ∧ True ∧ True ∧ True ∧ True ∧ True := ⟨h.fr, trivial, trivial, trivial, trivial, trivial⟩
 by_cases h0 : s.err = 0
 ·have e0 : (s.err == 0) = true := by simp [h0]
  have HP : Hid (failP T s a e = ⟨T.length, s.deep, a, e⟩) := by show _ = _; unfold failP; rw [if_pos h0]
  have HF := hZ9 ((fail_adv (E := E) s h.fine.next ha he).fine h.fine); rw [HP.out] at HF ⊢; have HH := hZ9 h; clear h h0 HP r1 r2 r3 r4 r5; go_enter Tryz.func50, Tryz.ntmps50
  go_wp2_with fail
  go_end0
  have ho : Out [g] w (((w.setCell ⟨g, 4, none⟩ (.int .i64 a)).setCell ⟨g, 5, none⟩ (.int .i64 e)).setCell ⟨g, 1, none⟩ (.int .i64 T.length)) := out_next (out_next (set_out _ _ _ _) (set_out _ _ _ _)) (set_out _ _ _ _); exact ⟨rfl, HH.out.put ho (by simp [World.setCell, Array.getElem?_modify, HH.out.row]) HF.out HH.out.deep, ho⟩
 ·have e0 : (s.err == 0) = false := by simp [h0]
  have HP : Hid (failP T s a e = s) := by show _ = _; unfold failP; rw [if_neg h0]
  rw [HP.out]; have HH := hZ9 h; clear h h0 HP r1 r2 r3 r4 r5; go_enter Tryz.func50, Tryz.ntmps50
  go_wp2_with fail
  go_end0
  exact ⟨rfl, HH.out, Out.refl _ _⟩
theorem rwant_any (h : Rd B g A c T E s w) (t : ByteArray) : Calls Tryz.prog 84 #[.pointer (some ⟨g, 0, none⟩), .string t] w (RdPost B g A c T E (wantP T E s t.toList) (.tuple #[]) w) := by
 have HI := hZ9 (ris_any h t); have HH := hZ9 h; cases hi : isP T E s t.toList with
 | true =>
   have hn := is_some hi; have hT := h.tlen; have hz : (s.next : Int) + 1 = ((s.next + 1 : Nat) : Int) := by omega
   have HP : Hid (wantP T E s t.toList = s.up) := by show _ = _; unfold wantP; rw [if_pos hi]
   rw [HP.out]; rw [hi] at HI; have hgl := h.glt; clear h hi HP; go_enter Tryz.func84, Tryz.ntmps84
   go_wp2_with fail
   refine HI.out.mono ?_; rintro e w1 ⟨rfl, hb⟩; have HR := hZ9 (HH.out.on hb); obtain ⟨c0, c1, c2, c3, c4, c5⟩ := HR.out.cells; have r0 := HR.out.fr; have Hb := hZ9 hb; clear hb hz; go_wp2_with fail
   go_end0
   exact ⟨rfl, (HR.out.up hn).1, (Out.of_below Hb.out [g]).trans (HR.out.up hn).2 (fun _ h _ => h)⟩
 | false =>
   have HPl := hZ9 (rplace_any h); have HP : Hid (wantP T E s t.toList = failP T s (peekP T E s 0).a 2) := by show _ = _; unfold wantP; rw [if_neg (by rw [hi]; decide)]
   rw [HP.out]; rw [hi] at HI; have HE := hZ9 (peek_le (E := E) h.within s 0); have HF := hZ9 (fun (W : World) (hR : Rd B g A c T E s W) => rfail_any hR (peekP T E s 0).a HE.out 2 (by omega)); have HPl2 := hZ9 (fun (W : World) (hR : Rd B g A c T E s W) => rplace_any hR); generalize (peekP T E s 0).a = a at *; clear h hi HP HPl HE; go_enter Tryz.func84, Tryz.ntmps84
   go_wp2_with fail
   refine HI.out.mono ?_; rintro e w1 ⟨rfl, hb⟩; have HR := hZ9 (HH.out.on hb); have Hb := hZ9 hb; clear hb HI; go_wp2_with fail
   refine (HPl2.out _ HR.out).mono ?_; rintro e w2 ⟨rfl, hb2⟩; have HR2 := hZ9 (HR.out.on hb2); have Hb2 := hZ9 (below_next Hb.out hb2); clear hb2 HPl2; go_wp2_with fail
   refine (HF.out _ HR2.out).mono ?_; rintro e w3 ⟨rfl, hr3, ho3⟩; have HR3 := hZ9 hr3; have HO := hZ9 ((Out.of_below Hb2.out [g]).trans ho3 (fun _ h _ => h)); clear hr3 ho3 HF; go_wp2_with fail
   first | go_end0 | go_ret | refine bodyPost_ret (results_none rfl _ _ _) rfl ?_
   exact ⟨rfl, HR3.out, HO.out⟩
theorem rmay_any (h : Rd B g A c T E s w) (t : ByteArray) : Calls Tryz.prog 88 #[.pointer (some ⟨g, 0, none⟩), .string t] w (RdPost B g A c T E (mayP T E s t.toList) (.bool (isP T E s t.toList)) w) := by
 have HI := hZ9 (ris_any h t); have HH := hZ9 h; cases hi : isP T E s t.toList with
 | true =>
   have hn := is_some hi; have hT := h.tlen; have hz : (s.next : Int) + 1 = ((s.next + 1 : Nat) : Int) := by omega
   have HP : Hid (mayP T E s t.toList = s.up) := by show _ = _; unfold mayP; rw [if_pos hi]
   rw [HP.out]; rw [hi] at HI; have hgl := h.glt; clear h hi HP; go_enter Tryz.func88, Tryz.ntmps88
   go_wp2_with fail
   refine HI.out.mono ?_; rintro e w1 ⟨rfl, hb⟩; have HR := hZ9 (HH.out.on hb); obtain ⟨c0, c1, c2, c3, c4, c5⟩ := HR.out.cells; have r0 := HR.out.fr; have Hb := hZ9 hb; clear hb hz; go_wp2_with fail
   go_ret; exact ⟨rfl, (HR.out.up hn).1, (Out.of_below Hb.out [g]).trans (HR.out.up hn).2 (fun _ h _ => h)⟩
 | false =>
   have HP : Hid (mayP T E s t.toList = s) := by show _ = _; unfold mayP; rw [if_neg (by rw [hi]; decide)]
   rw [HP.out]; rw [hi] at HI; clear h hi HP; go_enter Tryz.func88, Tryz.ntmps88
   go_wp2_with fail
   refine HI.out.mono ?_; rintro e w1 ⟨rfl, hb⟩; have HR := hZ9 (HH.out.on hb); have Hb := hZ9 hb; clear hb HI; go_wp2_with fail
   go_ret; exact ⟨rfl, HR.out, Out.of_below Hb.out [g]⟩
theorem rtake_any (h : Rd B g A c T E s w) (k : Nat) (hk : k ≠ 0) : Calls Tryz.prog 85 #[.pointer (some ⟨g, 0, none⟩), .int .i64 k] w (RdPost B g A c T E (takeP T E s k) (.string (bytes (takeT T E s k))) w) := by
 have HC := hZ9 (rpeek_any h 0 (by omega)); have HH := hZ9 h; rw [tokC_eq] at HC; by_cases hq : (peekP T E s 0).k = k
 ·have hn := take_some (T := T) (E := E) (s := s) (k := k) (by omega) hq; have hT := h.tlen; have HP : Hid (takeP T E s k = s.up) := by show _ = _; unfold takeP; rw [if_pos hq]
  have HT : Hid (takeT T E s k = (peekP T E s 0).t) := by show _ = _; unfold takeT; rw [if_pos hq]
  rw [HP.out, HT.out]; rw [hq] at HC; have hgl := h.glt; generalize peekP T E s 0 = q at *; obtain ⟨qk, x, a⟩ := q; dsimp only at *; clear h HP HT hq; go_enter Tryz.func85, Tryz.ntmps85
  go_wp2_with fail
  refine HC.out.mono ?_; rintro e w1 ⟨rfl, hb⟩; have HR := hZ9 (HH.out.on hb); obtain ⟨c0, c1, c2, c3, c4, c5⟩ := HR.out.cells; have r0 := HR.out.fr; have hgl1 := HR.out.glt; have Hb := hZ9 hb; clear hb; go_wp2_with fail
  go_ret; have hb2 := belowA (Below.refl (w1.setCell ⟨g, 1, none⟩ (.int .i64 ((s.next : Int) + 1))).heap.size (w1.setCell ⟨g, 1, none⟩ (.int .i64 ((s.next : Int) + 1)))) (.cells #[.int .i64 k, .string (bytes x), .int .i64 a] 178); exact ⟨rfl, (HR.out.up hn).1.on hb2, out_below ((Out.of_below Hb.out [g]).trans (HR.out.up hn).2 (fun _ h _ => h)) hb2⟩
 ·have HP : Hid (takeP T E s k = failP T s (peekP T E s 0).a 2) := by show _ = _; unfold takeP; rw [if_neg hq]
  have HT : Hid (takeT T E s k = []) := by show _ = _; unfold takeT; rw [if_neg hq]
  rw [HP.out, HT.out]; have HE := hZ9 (peek_le (E := E) h.within s 0); have HF := hZ9 (fun (W : World) (hR : Rd B g A c T E s W) => rfail_any hR (peekP T E s 0).a HE.out 2 (by omega)); have e1 : ((peekP T E s 0).k == (k : Int)) = false := by simp [hq]
  have e2 : ((peekP T E s 0).k != (k : Int)) = true := by simp [hq]
  generalize peekP T E s 0 = q at *; obtain ⟨qk, x, a⟩ := q; dsimp only at *; clear h HP HT hq HE; go_enter Tryz.func85, Tryz.ntmps85
  go_wp2_with fail
  refine HC.out.mono ?_; rintro e w1 ⟨rfl, hb⟩; have HR := hZ9 (HH.out.on hb); have Hb := hZ9 hb; have HR2 := hZ9 (HR.out.on (belowA (Below.refl _ _) (.cells #[.int .i64 qk, .string (bytes x), .int .i64 a] 178))); have Hb2 := hZ9 (belowA Hb.out (.cells #[.int .i64 qk, .string (bytes x), .int .i64 a] 178)); clear hb HC; go_wp2_with fail
  refine (HF.out _ HR2.out).mono ?_; rintro e w3 ⟨rfl, hr3, ho3⟩; have HR3 := hZ9 hr3; have HO := hZ9 ((Out.of_below Hb2.out [g]).trans ho3 (fun _ h _ => h)); clear hr3 ho3 HF; go_wp2_with fail
  go_ret; exact ⟨rfl, HR3.out, HO.out⟩
structure Fr (B g : Nat) (A : Option Addr) (c : Nat) (T : List GTok) (E : Nat) (w0 : World) (L : List (Nat × Obj)) (s : PS) (W : World) : Prop where
 rd : Rd B g A c T E s W
 out : Out [g] w0 W
 rows : ∀ p ∈ L, w0.heap.size ≤ p.1 ∧ W.heap[p.1]? = some p.2
 glt : g < w0.heap.size
theorem Fr.start (h : Rd B g A c T E s w) : Fr B g A c T E w [] s w := ⟨h, Out.refl _ _, fun _ h => (by cases h), h.glt⟩
section
variable {w0 W W' : World} {L : List (Nat × Obj)} {s' : PS}
theorem Fr.go (h : Fr B g A c T E w0 L s W) (hr : Rd B g A c T E s' W') (ho : Out [g] W W') : Fr B g A c T E w0 L s' W' :=
 ⟨hr, out_next h.out ho, fun p hp => by
  have h1 := h.rows p hp; have h2 := h.glt
  refine ⟨h1.1, (ho.block _ (Array.getElem?_eq_some_iff.1 h1.2).1 (by simp; omega)).trans h1.2⟩, h.glt⟩
theorem Fr.on (h : Fr B g A c T E w0 L s W) (hb : Below W.heap.size W W') : Fr B g A c T E w0 L s W' := h.go (h.rd.on hb) (Out.of_below hb [g])
theorem Fr.alloc (h : Fr B g A c T E w0 L s W) (o : Obj) : Fr B g A c T E w0 ((W.heap.size, o) :: L) s (W.alloc o) := by
 have h1 := h.on (belowA (Below.refl _ _) o); refine ⟨h1.rd, h1.out, fun p hp => ?_, h.glt⟩; rcases List.mem_cons.1 hp with rfl | hp
 ·exact ⟨h.out.size, heapNew rfl⟩
 ·exact h1.rows p hp
theorem Fr.put (h : Fr B g A c T E w0 L s W) {L' : List (Nat × Obj)} {b : Nat} (hb : w0.heap.size ≤ b) (ho : Out [b] W W') (hL : ∀ p ∈ L', (p ∈ L ∧ p.1 ≠ b) ∨ (p.1 = b ∧ W'.heap[b]? = some p.2)) (hB : B ≤ w0.heap.size) : Fr B g A c T E w0 L' s W' := by
 refine ⟨h.rd.out ho (fun x hx _ => by simp at hx; omega), h.out.trans ho (fun x hx hl => by simp at hx; omega), fun p hp => ?_, h.glt⟩; rcases hL p hp with ⟨h1, h2⟩ | ⟨h1, h2⟩
 ·have h3 := h.rows p h1; exact ⟨h3.1, (ho.block _ (Array.getElem?_eq_some_iff.1 h3.2).1 (by simpa using h2)).trans h3.2⟩
 ·exact ⟨by omega, by rw [h1]; exact h2⟩
theorem Fr.fin (h : Fr B g A c T E w0 L s W) {b : Nat} (hb : w0.heap.size ≤ b) (ho : Out [b] W W') (hB : B ≤ w0.heap.size) : Rd B g A c T E s W' ∧ Out [g] w0 W' :=
 have h1 := h.put (L' := []) hb ho (fun _ h => by cases h) hB
 ⟨h1.rd, h1.out⟩
theorem Fr.row (h : Fr B g A c T E w0 L s W) {p : Nat × Obj} (hp : p ∈ L) : W.heap[p.1]? = some p.2 := (h.rows p hp).2
end
end
end Go.Proofs.YtaeedepojpablaaGreatDoor

namespace Go.Proofs.YtaeedepojpablaaGreatDoor
open Go.RowKit
section
variable {B g : Nat} {A : Option Addr} {c : Nat} {T : List GTok} {E : Nat} {σ : Type}
structure JOk (B g : Nat) (A : Option Addr) (c : Nat) (T : List GTok) (E : Nat) (J : Nat → PS × σ → World → Prop) : Prop where
 rd : ∀ i x W, J i x W → Rd B g A c T E x.1 W
 go : ∀ i x s' W W', J i x W → Rd B g A c T E s' W' → Out [g] W W' → J i (s', x.2) W'
def JPost (J : Nat → PS × σ → World → Prop) (most : Nat) (x : PS × σ) (e : Ending) (w' : World) : Prop := e = .returned (.tuple #[]) ∧ ∃ i, i ≤ most ∧ J i x w'
theorem rcommas_any {J : Nat → PS × σ → World → Prop} (hJ : JOk B g A c T E J) (F : Nat) (caps : Array Value) (eg : ∀ args w, (callFunc F args).run Tryz.prog w = .ok (.enter F args) w) (most : Nat) (hm : most ≤ 100) (rd : Nat → PS × σ → PS × σ)
 (hcl : ∀ i x W, i < most → x.1.err = 0 → J i x W → Calls Tryz.prog F (#[.int .i64 i] ++ caps) W (fun e W' => e = .returned (.tuple #[]) ∧ J (i + 1) (rd i x) W'))
 (x : PS × σ) (w : World) (h : J 0 x w) : Calls Tryz.prog 86 #[.pointer (some ⟨g, 0, none⟩), .int .i64 most, .func (.func F) #[] caps] w (JPost J most (commasP T E most rd x)) := by
 obtain ⟨P, HP⟩ : ∃ P : Ending → World → Prop, Hid (P = JPost J most (commasP T E most rd x)) := ⟨_, rfl⟩
 rw [← HP.out]; have HJ := hZ9 hJ; have Hcl := hZ9 hcl; have HW := hZ9 (fun (i : Nat) (x : PS × σ) (t : ByteArray) (W : World) (h : J i x W) => (rwant_any (hJ.rd i x W h) t).mono (fun e w' (hp : RdPost B g A c T E _ _ W e w') => (⟨hp.1, hJ.go i x _ W w' h hp.2.1 hp.2.2⟩ : e = .returned (.tuple #[]) ∧ J i (wantP T E x.1 t.toList, x.2) w'))); have HM := hZ9 (fun (i : Nat) (x : PS × σ) (t : ByteArray) (W : World) (h : J i x W) => (rmay_any (hJ.rd i x W h) t).mono (fun e w' (hp : RdPost B g A c T E _ _ W e w') => (⟨hp.1, hJ.go i x _ W w' h hp.2.1 hp.2.2⟩ : e = .returned (.bool (isP T E x.1 t.toList)) ∧ J i (mayP T E x.1 t.toList, x.2) w'))); have H0 := hZ9 h; have Eg := hZ9 eg; clear hJ hcl h eg; have t40 : (⟨#[40]⟩ : ByteArray).toList = [40] := toList_mk [40]; have t41 : (⟨#[41]⟩ : ByteArray).toList = [41] := toList_mk [41]; have t44 : (⟨#[44]⟩ : ByteArray).toList = [44] := toList_mk [44]; have W40 := hZ9 (HW.out 0 x ⟨#[40]⟩ w H0.out); rw [t40] at W40; have W41 := hZ9 (fun i x W h => HW.out i x ⟨#[41]⟩ W h); simp only [t41] at W41; have M41 := hZ9 (fun i x W h => HM.out i x ⟨#[41]⟩ W h); simp only [t41] at M41; have M44 := hZ9 (fun i x W h => HM.out i x ⟨#[44]⟩ W h); simp only [t44] at M44; clear HW HM t40 t41 t44; go_enter Tryz.func86, Tryz.ntmps86
 go_wp2_with fail
 go_step3
 go_wp2_with fail
 refine W40.out.mono ?_; rintro e w1 ⟨rfl, h1⟩; obtain ⟨s1, Hs1⟩ : ∃ s1, Hid (s1 = wantP T E x.1 [40]) := ⟨_, rfl⟩
 rw [← Hs1.out] at h1; have H1 := hZ9 h1; clear h1 W40; go_wp2_with fail
 refine (M41.out 0 (s1, x.2) w1 H1.out).mono ?_; rintro e w2 ⟨rfl, h2⟩; cases hi : isP T E s1 [41] with
 | true =>
   have HE : Hid (P (.returned (.tuple #[])) w2) := by
    show P _ _; rw [HP.out]; refine ⟨rfl, 0, Nat.zero_le _, ?_⟩; unfold commasP; rw [← Hs1.out, if_pos hi]; unfold mayP at h2; rw [if_pos hi] at h2; exact h2
   clear HP h2 hi; go_wp2_with fail
   first | exact HE.out | (go_end0; exact HE.out) | (refine bodyPost_ret (results_none rfl _ _ _) rfl ?_; exact HE.out)
 | false =>
   have h3 : J 0 (s1, x.2) w2 := by
    unfold mayP at h2; rw [if_neg (by rw [hi]; decide)] at h2; exact h2
   have H3 := hZ9 h3
   have HP2 : Hid (∀ w' i, i ≤ most → J i (wantP T E (loopP T E most rd (most + 1) 0 (s1, x.2)).1 [41], (loopP T E most rd (most + 1) 0 (s1, x.2)).2) w' → P (.returned (.tuple #[])) w') := fun w' i hi' hj => by
    rw [HP.out]; refine ⟨rfl, i, hi', ?_⟩; unfold commasP; rw [← Hs1.out, if_neg (by rw [hi]; decide)]; exact hj
   obtain ⟨Z, HZ⟩ : ∃ Z, Hid (Z = loopP T E most rd (most + 1) 0 (s1, x.2)) := ⟨_, rfl⟩
   rw [← HZ.out] at HP2; have HTl : Hid (∀ (i : Nat) (W : World), i ≤ most → J i Z W → Calls Tryz.prog 84 #[.pointer (some ⟨g, 0, none⟩), .string ⟨#[41]⟩] W (fun e w' => e = .returned (.tuple #[]) ∧ P (.returned (.tuple #[])) w')) := fun i W hi' hj => (W41.out i Z W hj).mono (fun e w' hp => ⟨hp.1, HP2.out w' i hi' hp.2⟩)
   clear HP HP2 h2 h3 hi W41 M41; go_wp2_with fail
   go_step3
   go_wp2_with fail
   go_loopw [6] (fun i wr => ∃ (k f : Nat) (y : PS × σ), i = .int .i64 k ∧ k ≤ most ∧ Hid (f + k = most + 1) ∧ Hid (J k y wr) ∧ Hid (loopP T E most rd f k y = Z)) (fun i _ => most - (intOf i).toNat)
   case atStart => exact ⟨0, most + 1, (s1, x.2), rfl, Nat.zero_le _, rfl, H3.out, HZ.out.symm⟩
   case round =>
    obtain ⟨k, f, y, rfl, hk, Hf, HY, HL⟩ := hrel; obtain ⟨f, rfl⟩ : ∃ f', f = f' + 1 := ⟨f - 1, by have := Hf.out; omega⟩
    have HR := hZ9 (HJ.out.rd k y wr HY.out); obtain ⟨c0, c1, c2, c3, c4, c5⟩ := HR.out.cells; have i0 : (0 : Int) ≤ (k : Int) := by omega
    by_cases he : y.1.err = 0
    ·have e0 : (y.1.err == 0) = true := by simp [he]
     by_cases hkm : k < most
     ·have i1 : ¬ (most : Int) ≤ (k : Int) := by omega
      have HC := hZ9 (Hcl.out k y wr hkm he HY.out); go_wp2_with fail
      rw [Eg.out, Oper.upon_enter]; refine HC.out.mono ?_; rintro e w3 ⟨rfl, h3⟩; have H4 := hZ9 h3; have HM := hZ9 (M44.out (k + 1) (rd k y) w3 h3); clear h3 HC c0 c1 c2 c3 c4 c5; go_wp2_with fail
      refine HM.out.mono ?_; rintro e w4 ⟨rfl, h4⟩; have HU := hZ9 (fun (h : isP T E (rd k y).1 [44] = true) => show (rd k y).1.next < T.length from is_some h); cases hc : isP T E (rd k y).1 [44] with
      | true =>
        unfold mayP at h4; rw [if_pos hc] at h4; have H5 := hZ9 h4
        have HL2 : Hid (loopP T E most rd f (k + 1) ((rd k y).1.up, (rd k y).2) = Z) := by
         have h9 := HL.out; rw [loopP, if_neg (by simp [he]), if_neg (by omega), if_pos hc] at h9; exact h9
        have HF2 : Hid (f + (k + 1) = most + 1) := by have := Hf.out; show _ = _; omega
        clear h4 hc HM HL HU; go_wp2_with fail
        go_roundw
        case rel => exact ⟨k + 1, f, _, by go_num, by omega, HF2, H5, HL2⟩
        case measure => simp [intOf]; omega
      | false =>
        unfold mayP at h4; rw [if_neg (by rw [hc]; decide)] at h4
        have h6 : (rd k y) = Z := by
         have h9 := HL.out; rw [loopP, if_neg (by simp [he]), if_neg (by omega), if_neg (by rw [hc]; decide)] at h9; exact h9
        have HT := hZ9 (HTl.out (k + 1) w4 (by omega) (by rw [← h6]; exact h4)); clear h4 hc HM HL HU h6; go_wp2_with fail
        refine HT.out.mono ?_; rintro e w5 ⟨rfl, h5⟩; have H5 := hZ9 h5; clear h5 HT; go_wp2_with fail
        rw [Exit.noGoto_normal]; go_end0
        exact H5.out
     ·have i1 : (most : Int) ≤ (k : Int) := by omega
      have HPl := hZ9 (rplace_any HR.out); have HFa := hZ9 (fun (W : World) (hR : Rd B g A c T E y.1 W) => rfail_any hR (peekP T E y.1 0).a (peek_le HR.out.within _ _) 3 (by omega))
      have HZ2 : Hid ((failP T y.1 (peekP T E y.1 0).a 3, y.2) = Z) := by
       have h9 := HL.out; rw [loopP, if_neg (by simp [he]), if_pos (by omega)] at h9; exact h9
      generalize (peekP T E y.1 0).a = pa at *; clear HL; go_wp2_with fail
      refine HPl.out.mono ?_; rintro e w3 ⟨rfl, hb3⟩; have HR3 := hZ9 (HR.out.on hb3); have HB3 := hZ9 hb3; clear hb3 HPl; go_wp2_with fail
      refine (HFa.out _ HR3.out).mono ?_; rintro e w4 ⟨rfl, hr4, ho4⟩; have HT := hZ9 (HTl.out k w4 hk (by rw [← HZ2.out]; exact HJ.out.go k y _ wr w4 HY.out hr4 ((Out.of_below HB3.out [g]).trans ho4 (fun _ h _ => h)))); clear hr4 ho4 HFa c0 c1 c2 c3 c4 c5; go_wp2_with fail
      refine HT.out.mono ?_; rintro e w5 ⟨rfl, h5⟩; have H5 := hZ9 h5; clear h5 HT; go_wp2_with fail
      rw [Exit.noGoto_normal]; go_end0
      exact H5.out
    ·have e0 : (y.1.err == 0) = false := by simp [he]
     have h6 : y = Z := by
      have h9 := HL.out; rw [loopP, if_pos he] at h9; exact h9
     have HT := hZ9 (HTl.out k wr hk (by rw [← h6]; exact HY.out)); clear HL h6; go_wp2_with fail
     refine HT.out.mono ?_; rintro e w5 ⟨rfl, h5⟩; have H5 := hZ9 h5; clear h5 HT; go_wp2_with fail
     rw [Exit.noGoto_normal]; go_end0
     exact H5.out
end
end Go.Proofs.YtaeedepojpablaaGreatDoor
