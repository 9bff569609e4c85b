/- My own texts PaDe, as far as this claim needs them. -/
import Derived.Test.YtaeedepojpablaaGreatDoorZq13
set_option linter.unusedVariables false
set_option linter.unusedSimpArgs false
set_option maxRecDepth 1000000
set_option maxHeartbeats 16000000
namespace Go.Proofs.YtaeedepojpablaaGreatDoor
open Go.RowKit
section
variable {B g : Nat} {A : Option Addr} {c : Nat} {T : List GTok} {E : Nat} {w : World}
structure DcJ (B g : Nat) (A : Option Addr) (c : Nat) (T : List GTok) (E : Nat) (w : World) (db b0 rr N0 : Nat) (rel : ByteArray) (pos : Nat) (i : Nat) (x : PS × List Int) (W : World) : Prop where
 rd : Rd B g A c T E x.1 W
 out : Out [g] w W
 len : x.2.length = i
 at_ : ∃ A' c', W.heap[db]? = some (.cells #[.string rel, .slice A' i c', .int .i64 pos] 94 (0, 0)) ∧ W.ownsRow N0 47 1 (.slice A' i c') i (x.2.map (Value.int .i64))
 rb : W.heap[b0]? = some (.cells #[.pointer (some ⟨g, 0, none⟩)] 93 (0, 0))
 rr : W.heap[rr]? = some (.cells #[.string ⟨#[]⟩, .slice none 0 0, .int .i64 0] 94 (0, 0))
 n0 : N0 ≤ W.heap.size
 ok : ∀ k ∈ x.2, k = 1 ∨ k = 2
theorem DcJ.jok {db b0 rr N0 : Nat} {rel : ByteArray} {pos : Nat} (ha : g ≠ db) (hb : g ≠ b0) (hr : g ≠ rr) (hN : g < N0) : JOk B g A c T E (DcJ B g A c T E w db b0 rr N0 rel pos) where
 rd i x W h := h.rd
 go i x s' W W' h hr' ho := by
  obtain ⟨A', c', h1, h2⟩ := h.at_; refine ⟨hr', out_next h.out ho, h.len, ⟨A', c', (ho.block _ (glt h1) (by simp; omega)).trans h1, own_out' h2 ho (fun b hb' hm => by have := (own_blk h2 hb').1; simp at hm; omega)⟩, (ho.block _ (glt h.rb) (by simp; omega)).trans h.rb, (ho.block _ (glt h.rr) (by simp; omega)).trans h.rr, Nat.le_trans h.n0 ho.size, h.ok⟩
theorem kind_info : (Tryz.prog.info? 47).map (fun i => (i.zero, i.size, i.bytes)) = some (some (.int .i64 0), 1, 8) := by kernel_rfl
theorem set_oneOf3 {W : World} {g e : Nat} {a b d z : Value} (h : W.heap[g]? = some (.cells #[a, b, d] e (0, 0))) : (W.setCell ⟨g, 1, none⟩ z).heap[g]? = some (.cells #[a, z, d] e (0, 0)) := by
 simp [World.setCell, Array.getElem?_modify, h]
theorem decl1_any {db b0 rr N0 : Nat} {rel : ByteArray} {pos : Nat} (hB : B ≤ w.heap.size) (hg : g < w.heap.size) (ha : w.heap.size ≤ db ∧ db < N0) (hb : w.heap.size ≤ b0 ∧ b0 < N0) (hr : w.heap.size ≤ rr ∧ rr < N0) (hab : db ≠ b0 ∧ db ≠ rr) (i : Nat) (x : PS × List Int) (W : World) (hi : i < 6) (h : DcJ B g A c T E w db b0 rr N0 rel pos i x W) :
 Calls Tryz.prog 87 #[.int .i64 i, .pointer (some ⟨b0, 0, none⟩), .pointer (some ⟨db, 0, none⟩)] W (fun e W' => e = .returned (.tuple #[]) ∧ DcJ B g A c T E w db b0 rr N0 rel pos (i + 1) (kindR T E i x) W') := by
 have hjok : JOk B g A c T E (DcJ B g A c T E w db b0 rr N0 rel pos) := DcJ.jok (by omega) (by omega) (by omega) (by omega); have tint : (⟨#[105, 110, 116]⟩ : ByteArray).toList = [105, 110, 116] := toList_mk _; have tsym : (⟨#[115, 121, 109]⟩ : ByteArray).toList = [115, 121, 109] := toList_mk _; have HM := hZ9 (rmay_any h.rd ⟨#[105, 110, 116]⟩); rw [tint] at HM; have HWt := hZ9 (fun (V : World) (hR : Rd B g A c T E x.1 V) => rwant_any hR ⟨#[115, 121, 109]⟩); rw [tsym] at HWt; have HH := hZ9 h; have k0 := (cell_of_row _ _ 0 _ _ _ h.rb).trans rfl; obtain ⟨P, HP⟩ : ∃ P : Ending → World → Prop, Hid (P = fun e W' => e = .returned (.tuple #[]) ∧ DcJ B g A c T E w db b0 rr N0 rel pos (i + 1) (kindR T E i x) W') := ⟨_, rfl⟩
 rw [← HP.out]
 have Hpush : Hid (∀ (s' : PS) (k : Int) (V : World), (k = 1 ∨ k = 2) → kindR T E i x = (s', x.2 ++ [k]) → DcJ B g A c T E w db b0 rr N0 rel pos i (s', x.2) V → ∀ A' c', V.heap[db]? = some (.cells #[.string rel, .slice A' i c', .int .i64 pos] 94 (0, 0)) → V.ownsRow N0 47 1 (.slice A' i c') i (x.2.map (Value.int .i64)) →
  ∃ A2 c2 V', (∀ ty, (Builtin.append_ #[40, 40] ty #[.slice A' i c', .slice (some ⟨V.heap.size, 0, none⟩) 1 1]).run Tryz.prog (V.alloc (.cells #[.int .i64 k] 47)) = .ok (.slice A2 (i + 1) c2) V') ∧
    V'.heap[db]? = some (.cells #[.string rel, .slice A' i c', .int .i64 pos] 94 (0, 0)) ∧ P (.returned (.tuple #[])) (V'.setCell ⟨db, 1, none⟩ (.slice A2 (i + 1) c2))) := fun s' k V hk hkr hj A' c' hrow hown => by
  have hnm : ∀ b, b < N0 → b ∉ (Value.slice A' i c').ownBlock.toList := fun b hb hm => by
   have := (own_blk hown (b := b) (by simpa using hm)).1; omega
  have hSn : ∀ b ∈ (Value.slice A' i c').ownBlock.toList, N0 ≤ b := fun b hb => (own_blk hown (b := b) (by simpa using hb)).1
  have ho : (V.alloc (.cells #[.int .i64 k] 47)).ownsRow N0 47 1 (.slice A' i c') i (x.2.map (Value.int .i64)) := own_below hown (belowA (Below.refl _ _) _); have hn0 := hj.n0
  obtain ⟨v', V', h1, h2, h3, h4⟩ := run_push_at (P := Tryz.prog) (ty := 40) (V.alloc (.cells #[.int .i64 k] 47)) (base := N0) Tryz.underlying40 kind_info rfl (by decide) ho V.heap.size [.int .i64 k] rfl (heapNew rfl) (by intro u hu; simp at hu; subst hu; rfl)
   (by simp [maxLen]; omega) (by omega) (by simp; omega)
  obtain ⟨A2, c2, rfl⟩ := own_form h2; have hS : Out (Value.slice A' i c').ownBlock.toList V V' := (Out.of_below (belowA (Below.refl V.heap.size V) (.cells #[.int .i64 k] 47)) _).trans (grown_out h3) (fun b hb _ => hb); have hrow2 := (hS.block _ (glt hrow) (hnm _ ha.2)).trans hrow; refine ⟨A2, c2, V', fun _ => h1, hrow2, ?_⟩; rw [HP.out]; show _ ∧ _; rw [hkr]; have hoS := set_out V' db 1 (.slice A2 (i + 1) c2); refine ⟨rfl, (hj.rd.out hS (fun b hb _ => by have := hSn b hb; omega)).out hoS (fun b hb _ => by simp at hb; omega), ?_, by simp [hj.len], ⟨A2, c2, set_oneOf3 hrow2, ?_⟩, ?_, ?_, ?_, ?_⟩
  ·exact (hj.out.trans hS (fun b hb hl => by have := hSn b hb; omega)).trans hoS (fun b hb hl => by simp at hb; omega)
  ·rw [List.map_append]; exact own_out' h2 hoS (fun b hb hm => by have := (own_blk h2 hb).1; simp at hm; omega)
  ·exact (World.heap_setCells_other' (by omega)).trans ((hS.block _ (glt hj.rb) (hnm _ hb.2)).trans hj.rb)
  ·exact (World.heap_setCells_other' (by omega)).trans ((hS.block _ (glt hj.rr) (hnm _ hr.2)).trans hj.rr)
  ·rw [World.size_setCell']; exact Nat.le_trans hj.n0 hS.size
  ·intro q hq; rcases List.mem_append.1 hq with hq | hq
   ·exact hj.ok q hq
   ·simp only [List.mem_singleton] at hq; rw [hq]; exact hk
 clear h tint tsym; go_enter Tryz.func87, Tryz.ntmps87
 go_wp2_with fail
 refine HM.out.mono ?_; rintro e w1 ⟨rfl, hr1, ho1⟩; cases hi2 : isP T E x.1 [105, 110, 116] with
 | true =>
   have hm : mayP T E x.1 [105, 110, 116] = x.1.up := by unfold mayP; rw [if_pos hi2]
   rw [hm] at hr1; have hkr : kindR T E i x = (x.1.up, x.2 ++ [1]) := by unfold kindR; rw [if_pos hi2]
   have hj1 := hjok.go i x x.1.up W w1 HH.out hr1 ho1; obtain ⟨A', c', hrow, hown⟩ := hj1.at_; obtain ⟨A2, c2, V', hrun, hrow2, hpp⟩ := Hpush.out x.1.up 1 w1 (.inl rfl) hkr hj1 A' c' hrow hown; have HRun := hZ9 hrun; have HPP := hZ9 hpp; obtain ⟨b0', b1, b2⟩ := facts3 hrow; obtain ⟨d0, d1, d2⟩ := facts3 hrow2; have df := froz4 hrow2; clear hm hr1 ho1 hi2 hkr hj1 hrow hown hrun hrow2 hpp Hpush HM HH k0; go_wp2_with (at_builtin; refine wpList_append_run rfl _ _ _ rfl _ _ rfl rfl (HRun.out _) ?_)
   first | exact HPP.out | (refine bodyPost_ret (results_none rfl _ _ _) rfl ?_; exact HPP.out) | (go_end0; exact HPP.out)
 | false =>
   have hm : mayP T E x.1 [105, 110, 116] = x.1 := by unfold mayP; rw [if_neg (by rw [hi2]; decide)]
   rw [hm] at hr1; have hj1 := hjok.go i x x.1 W w1 HH.out hr1 ho1; have HJ1 := hZ9 hj1; have hkr : kindR T E i x = (wantP T E x.1 [115, 121, 109], x.2 ++ [2]) := by unfold kindR; rw [if_neg (by rw [hi2]; decide)]
   have Hkr := hZ9 hkr; have k1 := (cell_of_row _ _ 0 _ _ _ hj1.rb).trans rfl; clear hm hr1 ho1 hi2 hkr hj1 HM HH k0; go_wp2_with fail
   refine (HWt.out _ HJ1.out.rd).mono ?_; rintro e w2 ⟨rfl, hr2, ho2⟩; have hj2 := hjok.go i _ _ w1 w2 HJ1.out hr2 ho2; obtain ⟨A', c', hrow, hown⟩ := hj2.at_; obtain ⟨A2, c2, V', hrun, hrow2, hpp⟩ := Hpush.out _ 2 w2 (.inr rfl) Hkr.out hj2 A' c' hrow hown; have HRun := hZ9 hrun; have HPP := hZ9 hpp; obtain ⟨b0', b1, b2⟩ := facts3 hrow; obtain ⟨d0, d1, d2⟩ := facts3 hrow2; have df := froz4 hrow2; clear hr2 ho2 Hkr hj2 hrow hown hrun hrow2 hpp Hpush HJ1 HWt k1; go_wp2_with (at_builtin; refine wpList_append_run rfl _ _ _ rfl _ _ rfl rfl (HRun.out _) ?_)
   first | exact HPP.out | (refine bodyPost_ret (results_none rfl _ _ _) rfl ?_; exact HPP.out) | (go_end0; exact HPP.out)
theorem own_farI {w : World} {base e : Nat} {A : Option Addr} {n c : Nat} {l : List Int} (h : w.ownsRow base e 1 (.slice A n c) n (l.map (Value.int .i64))) (hl : l.length = n) (hn : n ≤ 1000000) (hok : ∀ k ∈ l, fits k) : SliceFar Enc.int w (List.range base) A n c l := by
 have h2 := own_sans (S := List.range base) h (fun b hb' => by have := List.mem_range.1 hb'; omega)
 have e1 : l.map (Value.int .i64) = l.flatMap (fun k => [Value.int .i64 k]) := by
  clear hl hn hok h h2; induction l with
  | nil => rfl
  | cons a r ih => rw [List.map_cons, List.flatMap_cons, ih]; rfl
 rw [e1] at h2; have h3 := SliceIs.of_flat (E := Enc.int) (fun k => [Value.int .i64 k]) (fun _ => rfl) h2 hl (by simp [reachN]; omega) (fun q hq => ⟨rfl, hok q hq⟩); rw [sans_size] at h3; exact h3
def DeclRes (B g : Nat) (A : Option Addr) (c : Nat) (T : List GTok) (E : Nat) (y : PS × GDecl) (w : World) (e : Ending) (w' : World) : Prop :=
 ∃ a, e = .returned (.agg (declC y.2 a).toArray) ∧ Rd B g A c T E y.1 w' ∧ Out [g] w w' ∧ DeclAt (sans w' (List.range w.heap.size)) w'.heap.size y.2 a
theorem set3_out (W : World) (b : Nat) (v0 v1 v2 : Value) : Out [b] W (((W.setCell ⟨b, 0, none⟩ v0).setCell ⟨b, 1, none⟩ v1).setCell ⟨b, 2, none⟩ v2) := out_next (set2_out _ _ _ _) (set_out _ _ _ _)
theorem rdecl_any {s : PS} (h : Rd B g A c T E s w) : Calls Tryz.prog 53 #[.pointer (some ⟨g, 0, none⟩)] w (DeclRes B g A c T E (declP T E s) w) := by
 have hB := h.size; have hgl := h.glt; obtain ⟨p, Hp⟩ : ∃ p, Hid (p = (peekP T E s 0).a) := ⟨_, rfl⟩
 have hpE : p ≤ 4000 := by rw [Hp.out]; exact peek_le2 h 0
 obtain ⟨s1, Hs1⟩ : ∃ s1, Hid (s1 = wantP T E s relW) := ⟨_, rfl⟩
 obtain ⟨s2, Hs2⟩ : ∃ s2, Hid (s2 = takeP T E s1 2) := ⟨_, rfl⟩
 obtain ⟨tx, Htx⟩ : ∃ tx, Hid (tx = takeT T E s1 2) := ⟨_, rfl⟩
 obtain ⟨y, Hy⟩ : ∃ y, Hid (y = commasP T E 6 (kindR T E) (s2, [])) := ⟨_, rfl⟩
 have HX : Hid (declP T E s = (wantP T E y.1 [46], ⟨bytes tx, y.2, p⟩)) := by
  show _ = _; unfold declP; dsimp only; rw [Hy.out, Hs2.out, Htx.out, Hs1.out, Hp.out]
 have Hlen : Hid (tx.length ≤ reachN) := by show _ ≤ _; rw [Htx.out]; exact takeT_len h s1 2
 have trel : (⟨#[114, 101, 108]⟩ : ByteArray).toList = relW := toList_mk _; have t46 : (⟨#[46]⟩ : ByteArray).toList = [46] := toList_mk _; have HPl := hZ9 (fun (V : World) (hR : Rd B g A c T E s V) => rplace_any hR); rw [← Hp.out] at HPl; have HW1 := hZ9 (fun (V : World) (hR : Rd B g A c T E s V) => rwant_any hR ⟨#[114, 101, 108]⟩); rw [trel, ← Hs1.out] at HW1; have HTk := hZ9 (fun (V : World) (hR : Rd B g A c T E s1 V) => show Calls Tryz.prog 85 #[.pointer (some ⟨g, 0, none⟩), .int .i64 2] V (RdPost B g A c T E (takeP T E s1 2) (.string (bytes (takeT T E s1 2))) V) from rtake_any hR 2 (by decide)); rw [← Hs2.out, ← Htx.out] at HTk; have HW2 := hZ9 (fun (V : World) (hR : Rd B g A c T E y.1 V) => rwant_any hR ⟨#[46]⟩); rw [t46] at HW2; generalize wantP T E y.1 [46] = s9 at *; have hF0 := ((Fr.start h).alloc (.cells #[.pointer (some ⟨g, 0, none⟩)] 93)).alloc (.cells #[.string ⟨#[]⟩, .slice none 0 0, .int .i64 0] 94); rw [World.size_alloc] at hF0; have HF0 := hZ9 hF0; obtain ⟨P, HP⟩ : ∃ P : Ending → World → Prop, Hid (P = DeclRes B g A c T E (declP T E s) w) := ⟨_, rfl⟩
 rw [← HP.out]; have k0 := (cell_of_row _ _ 0 _ _ _ (HF0.out.row (p := (w.heap.size, Obj.cells #[.pointer (some ⟨g, 0, none⟩)] 93 (0, 0))) (by simp))).trans rfl; clear h hF0 Hp Hs1 Hs2 Htx trel t46; go_enter Tryz.func53, Tryz.ntmps53
 go_wp2_with fail
 refine (HPl.out _ HF0.out.rd).mono ?_; rintro e w1 ⟨rfl, hb1⟩; have hG1 := HF0.out.on hb1; have hz0 := (glt (hG1.row (p := (w.heap.size, Obj.cells #[.pointer (some ⟨g, 0, none⟩)] 93 (0, 0))) (by simp)))
 have hz1 := (glt (hG1.row (p := (w.heap.size + 1, Obj.cells #[.string ⟨#[]⟩, .slice none 0 0, .int .i64 0] 94 (0, 0))) (by simp)))
 dsimp only at hz0 hz1; have HF1 := hZ9 (hG1.alloc (.cells #[.string ⟨#[]⟩, .slice none 0 0, .int .i64 p] 94)); clear hb1 hG1 HPl HF0 k0; have k1 := (cell_of_row _ _ 0 _ _ _ (HF1.out.row (p := (w.heap.size, Obj.cells #[.pointer (some ⟨g, 0, none⟩)] 93 (0, 0))) (by simp))).trans rfl; go_wp2_with fail
 refine (HW1.out _ HF1.out.rd).mono ?_; rintro e w2 ⟨rfl, hr2, ho2⟩; have HF2 := hZ9 (HF1.out.go hr2 ho2); clear hr2 ho2 HW1 HF1 k1; have k2 := (cell_of_row _ _ 0 _ _ _ (HF2.out.row (p := (w.heap.size, Obj.cells #[.pointer (some ⟨g, 0, none⟩)] 93 (0, 0))) (by simp))).trans rfl; go_wp2_with fail
 refine (HTk.out _ HF2.out.rd).mono ?_; rintro e w3 ⟨rfl, hr3, ho3⟩; have HF3 := hZ9 (HF2.out.go hr3 ho3); clear hr3 ho3 HTk HF2 k2; have hrow := HF3.out.row (p := (w1.heap.size, Obj.cells #[.string ⟨#[]⟩, .slice none 0 0, .int .i64 p] 94 (0, 0))) (by simp); have hrb := HF3.out.row (p := (w.heap.size, Obj.cells #[.pointer (some ⟨g, 0, none⟩)] 93 (0, 0))) (by simp); have hrr := HF3.out.row (p := (w.heap.size + 1, Obj.cells #[.string ⟨#[]⟩, .slice none 0 0, .int .i64 0] 94 (0, 0))) (by simp); obtain ⟨b0', b1, b2⟩ := facts3 hrow; have bf := froz4 hrow; have hne : w.heap.size ≠ w1.heap.size := by omega
 have ho4 := set_out w3 w1.heap.size 0 (.string (bytes tx)); have hl3 := (glt hrow)
 have hJ0 : DcJ B g A c T E w w1.heap.size w.heap.size (w.heap.size + 1) (w1.heap.size + 1) (bytes tx) p 0 (s2, []) (w3.setCell ⟨w1.heap.size, 0, none⟩ (.string (bytes tx))) :=
  ⟨HF3.out.rd.out ho4 (fun b hb _ => by simp at hb; omega), HF3.out.out.trans ho4 (fun b hb hl => by simp at hb; omega), rfl, ⟨none, 0, by simp [World.setCell, Array.getElem?_modify, hrow], World.ownsRow_nil _ _ _ _⟩,
   (World.heap_setCells_other' hne).trans hrb, (World.heap_setCells_other' (by omega)).trans hrr, by rw [World.size_setCell']; omega, fun _ h => by cases h⟩
 have HJ0 := hZ9 hJ0; have k3 := (cell_of_row _ _ 0 _ _ _ hrb).trans rfl; have k4 := (cell_of_row _ _ 0 _ _ _ hJ0.rb).trans rfl; clear hrow hrb hrr ho4 hJ0 HF3; go_wp2_with fail
 clear b0' b1 b2 bf k3; generalize w3.setCell ⟨w1.heap.size, 0, none⟩ (.string (bytes tx)) = w4 at *; have hjok : JOk B g A c T E (DcJ B g A c T E w w1.heap.size w.heap.size (w.heap.size + 1) (w1.heap.size + 1) (bytes tx) p) := DcJ.jok (by omega) (by omega) (by omega) (by omega)
 refine (rcommas_any hjok 87 #[.pointer (some ⟨w.heap.size, 0, none⟩), .pointer (some ⟨w1.heap.size, 0, none⟩)] (enters_of Tryz.func87 (by kernel_rfl) rfl) 6 (by omega) (kindR T E)
  (fun i x W hi he hj => decl1_any hB hgl ⟨by omega, by omega⟩ ⟨by omega, by omega⟩ ⟨by omega, by omega⟩ ⟨by omega, by omega⟩ i x W hi hj) (s2, []) _ HJ0.out).mono ?_
 rintro e w5 ⟨rfl, i, hi, hj⟩; rw [← Hy.out] at hj; have HJ1 := hZ9 hj; have k5 := (cell_of_row _ _ 0 _ _ _ hj.rb).trans rfl; clear hj HJ0 k4; go_wp2_with fail
 refine (HW2.out _ HJ1.out.rd).mono ?_; rintro e w6 ⟨rfl, hr6, ho6⟩; have hj2 := hjok.go i y s9 w5 w6 HJ1.out hr6 ho6; obtain ⟨ys, yk⟩ := y; dsimp only at hj2 HX; obtain ⟨A', c', hat, hown⟩ := hj2.at_; obtain ⟨a0, a1, a2⟩ := facts3 hat; obtain ⟨r0, r1, r2⟩ := facts3 hj2.rr; have rf := froz4 hj2.rr; have HJ2 := hZ9 hj2; have HO2 := hZ9 hown; clear hr6 ho6 HW2 HJ1 k5 hat hown hj2; go_wp2_with fail
 have ho3 := set3_out w6 (w.heap.size + 1) (.string (bytes tx)) (.slice A' i c') (.int .i64 p); refine bodyPost_ret (v := .agg #[.string (bytes tx), .slice A' i c', .int .i64 p]) (by simp [results, Tryz.results53, go_sem, r0, r1, r2]) rfl ?_; rw [HP.out, HX.out]; have hown3 := own_out' HO2.out ho3 (fun b hb hm => by have := (own_blk HO2.out hb).1; simp at hm; omega); have h9 := own_farI hown3 HJ2.out.len (by omega) (fun k hk => by rcases HJ2.out.ok k hk with rfl | rfl <;> (unfold fits; decide)); refine ⟨⟨A', i, c'⟩, rfl, HJ2.out.rd.out ho3 (fun b hb _ => by simp at hb; omega), HJ2.out.out.trans ho3 (fun b hb hl => by simp at hb; omega), ⟨Hlen.out, ?_, (show fits (p : Int) from (fits_iff _).2 ⟨by omega, by omega⟩)⟩⟩; exact SliceIs.mono' h9 (Nat.le_refl _) ((Out.refl [] _).kept (fun _ h _ => by cases h) (fun b hb' _ => List.mem_range.2 (by have := List.mem_range.1 hb'; omega)))
end
end Go.Proofs.YtaeedepojpablaaGreatDoor
