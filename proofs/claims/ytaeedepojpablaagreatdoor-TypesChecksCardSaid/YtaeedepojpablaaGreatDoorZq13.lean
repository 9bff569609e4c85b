/- My own texts PaA, PaI, as far as this claim needs them. -/
import Derived.Test.YtaeedepojpablaaGreatDoorZq12
set_option linter.unusedVariables false
set_option linter.unusedSimpArgs false
set_option maxRecDepth 1000000
set_option maxHeartbeats 16000000
namespace Go.Proofs.YtaeedepojpablaaGreatDoor
open Go.RowKit
theorem run_loadP {P : Program} {w : World} {ty e : TypeId} {a : Addr} {v : Value} (hu : P.underlying ty = some (.pointer e)) (h : w.cell? a = some v) : (Instr.loadAt ty (.pointer (some a))).run P w = .ok v w := by
 have hagg : (isAgg ty).run P w = .ok false w := by
  unfold isAgg; rw [Sem.run_bind, run_underlying hu w]; rfl
 simp [Instr.loadAt, Instr.sureAddr, loadVar, hagg, go_sem, h]
section
variable {B g : Nat} {A : Option Addr} {c : Nat} {T : List GTok} {E : Nat} {s : PS} {w : World}
def toldOk (t : GTold) : Prop := t.x.size ≤ reachN ∧ t.v.ok
theorem toldOk_z : toldOk zT := ⟨Nat.zero_le _, GV.ok_zero⟩
theorem peek_len (h : Rd B g A c T E s w) (s' : PS) (k : Nat) : (peekP T E s' k).t.length ≤ reachN := by
 unfold peekP; cases hq : T[s'.next + k]? with
 | none => exact Nat.zero_le _
 | some q => exact tok_len h (List.mem_of_getElem? hq)
theorem takeT_len (h : Rd B g A c T E s w) (s' : PS) (k : Int) : (takeT T E s' k).length ≤ reachN := by
 unfold takeT; split
 ·exact peek_len h s' 0
 ·exact Nat.zero_le _
theorem term_ok (h : Rd B g A c T E s w) (s' : PS) : toldOk (termP T E s').2 := by
 have hp := peek_len h (mayP T E s' [45]) 0; have f0 : fits 0 := by unfold fits; decide
 have f1 : fits 1 := by unfold fits; decide
 have f2 : fits 2 := by unfold fits; decide
 unfold termP; dsimp only; by_cases k4 : (peekP T E (mayP T E s' [45]) 0).k = 4
 ·rw [if_pos k4]; have hm : peekP T E (mayP T E s' [45]) 0 ∈ T := List.mem_of_getElem? (peek_at (peek_some (by rw [k4]; decide))); have ht := h.texts _ hm; rw [k4] at ht; obtain ⟨n, h1, -, h3⟩ := num_tok ht; refine ⟨Nat.zero_le _, f1, ?_, Nat.zero_le _⟩; dsimp only; rw [h3]; split <;> exact (fits_iff _).2 ⟨by omega, by omega⟩
 ·rw [if_neg k4]; by_cases hm : isP T E s' [45] = true
  ·rw [if_pos hm]; exact toldOk_z
  ·rw [if_neg hm]; by_cases k3 : (peekP T E (mayP T E s' [45]) 0).k = 3
   ·rw [if_pos k3]; exact ⟨hp, GV.ok_zero⟩
   ·rw [if_neg k3]; by_cases k2 : (peekP T E (mayP T E s' [45]) 0).k = 2
    ·rw [if_pos k2]; exact ⟨Nat.zero_le _, f2, f0, hp⟩
    ·rw [if_neg k2]; exact toldOk_z
structure AtJ (B g : Nat) (A : Option Addr) (c : Nat) (T : List GTok) (E : Nat) (w : World) (ab rb rr N0 : Nat) (rel : ByteArray) (i : Nat) (x : PS × List GTold) (W : World) : Prop where
 rd : Rd B g A c T E x.1 W
 out : Out [g] w W
 len : x.2.length = i
 at_ : ∃ A' c', W.heap[ab]? = some (.cells #[.string rel, .slice A' i c'] 53 (0, 0)) ∧ W.ownsRow N0 75 4 (.slice A' i c') i (x.2.flatMap GTold.cells)
 rb : W.heap[rb]? = some (.cells #[.pointer (some ⟨g, 0, none⟩)] 93 (0, 0))
 rr : W.heap[rr]? = some (.cells #[.string ⟨#[]⟩, .slice none 0 0] 53 (0, 0))
 n0 : N0 ≤ W.heap.size
 ok : ∀ t ∈ x.2, toldOk t
theorem AtJ.jok {ab rb rr N0 : Nat} {rel : ByteArray} (ha : g ≠ ab) (hb : g ≠ rb) (hr : g ≠ rr) (hN : g < N0) : JOk B g A c T E (AtJ B g A c T E w ab rb rr N0 rel) where
 rd i x W h := h.rd
 go i x s' W W' h hr' ho := by
  obtain ⟨A', c', h1, h2⟩ := h.at_; refine ⟨hr', out_next h.out ho, h.len, ⟨A', c', (ho.block _ (glt h1) (by simp; omega)).trans h1, own_out' h2 ho (fun b hb' hm => by have := (own_blk h2 hb').1; simp at hm; omega)⟩, (ho.block _ (glt h.rb) (by simp; omega)).trans h.rb, (ho.block _ (glt h.rr) (by simp; omega)).trans h.rr, Nat.le_trans h.n0 ho.size, h.ok⟩
theorem term_info : (Tryz.prog.info? 75).map (fun i => (i.zero, i.size, i.bytes)) = some (some (.agg #[.string ⟨#[]⟩, .int .i64 0, .int .i64 0, .string ⟨#[]⟩]), 4, 48) := by kernel_rfl
theorem atom1_any {ab rb rr N0 : Nat} {rel : ByteArray} (hB : B ≤ w.heap.size) (hg : g < w.heap.size) (ha : w.heap.size ≤ ab ∧ ab < N0) (hb : w.heap.size ≤ rb ∧ rb < N0) (hr : w.heap.size ≤ rr ∧ rr < N0) (hab : ab ≠ rb ∧ ab ≠ rr) (i : Nat) (x : PS × List GTold) (W : World) (hi : i < 6) (h : AtJ B g A c T E w ab rb rr N0 rel i x W) :
 Calls Tryz.prog 168 #[.int .i64 i, .pointer (some ⟨ab, 0, none⟩), .pointer (some ⟨rb, 0, none⟩)] W (fun e W' => e = .returned (.tuple #[]) ∧ AtJ B g A c T E w ab rb rr N0 rel (i + 1) (argsR T E i x) W') := by
 have mixed : Tryz.prog.follows .mixedOrders = true := by kernel_rfl
 obtain ⟨A', c', h1, h2⟩ := h.at_
 have hnm : ∀ b, b < N0 → b ∉ (Value.slice A' i c').ownBlock.toList := fun b hb hm => by
  have := (own_blk h2 (b := b) (by simpa using hm)).1; omega
 have hSn : ∀ b ∈ (Value.slice A' i c').ownBlock.toList, N0 ≤ b := fun b hb => (own_blk h2 (b := b) (by simpa using hb)).1
 go_enter Tryz.func168, Tryz.ntmps168
 go_wp2_with fail
 refine pushC_region (n := 11) 2 mixed rfl rfl (by kernel_rfl) (by kernel_rfl) (by kernel_rfl) ab g 1 N0 75 4 48 i (.agg #[.string ⟨#[]⟩, .int .i64 0, .int .i64 0, .string ⟨#[]⟩]) A' c' (x.2.flatMap GTold.cells) #[.string rel, .slice A' i c'] (.pointer (some ⟨g, 0, none⟩)) (.pointer (some ⟨rb, 0, none⟩))
  (fun vcs W' => vcs = (termP T E x.1).2.cells ∧ Rd B g A c T E (termP T E x.1).1 W') (fun _ vcs W' => vcs = (termP T E x.1).2.cells ∧ Rd B g A c T E (termP T E x.1).1 W')
  rfl rfl h1 (by omega) ?_ rfl (fun w => by simp [go_sem]) Tryz.underlying51 (by kernel_rfl) term_info rfl (by decide) (by decide) h2 (hnm _ ha.2) (hnm _ (by omega)) (by simp [maxLen]; omega) (by omega) h.n0 _ Tryz.func133 (by kernel_rfl) (by kernel_rfl) ?_ ?_ ?_ ?_ ?_ ?_
 ·intro a' V hx hbV; have hc := below_cell hbV ((cell_of_row _ _ 0 _ _ _ h.rb).trans rfl); simp [execOp, Act.eval, hx, run_loadP Tryz.underlying93 hc]
 ·exact fun vcs V V' hv hbV => ⟨hv.1, hv.2.on hbV⟩
 ·exact fun S vcs V V' hv hbV => ⟨hv.1, hv.2.on hbV⟩
 ·exact fun S vcs V V' hv _ ho _ => ⟨hv.1, hv.2.out ho (fun b hb' _ => by have := hSn b hb'; omega)⟩
 ·exact fun vcs V V' hv _ ho => ⟨hv.1, hv.2.out ho (fun b hb' _ => by have := hSn b hb'; omega)⟩
 ·intro V hbV _; refine (rterm_any (h.rd.on hbV)).mono ?_; rintro e V' ⟨rfl, hrd, ho⟩; exact ⟨(termP T E x.1).2.cells, rfl, rfl, by simp [GTold.cells, Value.oneCell'], ⟨rfl, hrd⟩, ho⟩
 ·rintro u V vcs A2 c2 hl ⟨rfl, hrd⟩ hown hblk ho hrow; simp only [List.foldl_cons, List.foldl_nil, Act.put, List.setIfInBounds_toArray, List.set_cons_zero, List.set_cons_succ]; go_end0
  refine ⟨rfl, ?_⟩; have hoS := set_out V ab 1 (.slice A2 (i + 1) c2); have hnot : ∀ b, b < N0 → b ≠ g → b < W.heap.size → V.heap[b]? = W.heap[b]? := fun b hb hbg hbl => ho.block b hbl (by simp only [List.mem_cons, not_or]; exact ⟨hbg, hnm b hb⟩)
  refine ⟨hrd.out hoS (fun b hb _ => by simp at hb; omega), ?_, by simp [argsR, h.len], ⟨A2, c2, set_one hrow, ?_⟩, ?_, ?_, ?_, ?_⟩
  ·have h3 : Out [g] w V := h.out.trans ho (fun b hb hbl => by
    rcases List.mem_cons.1 hb with rfl | hb
    ·simp
    ·have := hSn b hb; omega)
   exact h3.trans hoS (fun b hb hbl => by simp at hb; omega)
  ·have h4 : (argsR T E i x).2.flatMap GTold.cells = x.2.flatMap GTold.cells ++ (termP T E x.1).2.cells := by simp [argsR]
   rw [h4]; exact own_out' hown hoS (fun b hb hm => by have := (own_blk hown hb).1; simp at hm; omega)
  ·have hl := (glt h.rb)
   exact (World.heap_setCells_other' (by omega)).trans ((hnot _ hb.2 (by omega) hl).trans h.rb)
  ·have hl := (glt h.rr)
   exact (World.heap_setCells_other' (by omega)).trans ((hnot _ hr.2 (by omega) hl).trans h.rr)
  ·rw [World.size_setCell']; exact Nat.le_trans h.n0 ho.size
  ·intro t ht; rcases List.mem_append.1 ht with ht | ht
   ·exact h.ok t ht
   ·simp only [List.mem_singleton] at ht; rw [ht]; exact term_ok h.rd x.1
theorem own_farT {w : World} {base e : Nat} {A : Option Addr} {n c : Nat} {l : List GTold} (h : w.ownsRow base e 4 (.slice A n c) n (l.flatMap GTold.cells)) (hl : l.length = n) (hn : n ≤ 1000000) (hok : ∀ t ∈ l, toldOk t) : SliceFar Enc.told w (List.range base) A n c l := by
 have h2 := own_sans (S := List.range base) h (fun b hb' => by have := List.mem_range.1 hb'; omega); have h3 := SliceIs.of_flat (E := Enc.told) GTold.cells (fun _ => rfl) h2 hl (by simp [reachN]; omega) (fun q hq => ⟨rfl, hok q hq⟩); rw [sans_size] at h3; exact h3
def AtomPost (B g : Nat) (A : Option Addr) (c : Nat) (T : List GTok) (E : Nat) (y : PS × GAtom) (w : World) (e : Ending) (w' : World) : Prop :=
 ∃ A' n' c', e = .returned (.agg #[.string y.2.rel, .slice A' n' c']) ∧ Rd B g A c T E y.1 w' ∧ Out [g] w w' ∧ y.2.rel.size ≤ reachN ∧ SliceFar Enc.told w' (List.range w.heap.size) A' n' c' y.2.args
theorem set2_out (W : World) (b : Nat) (v0 v1 : Value) : Out [b] W ((W.setCell ⟨b, 0, none⟩ v0).setCell ⟨b, 1, none⟩ v1) := out_next (set_out _ _ _ _) (set_out _ _ _ _)
theorem ratom_any (h : Rd B g A c T E s w) : Calls Tryz.prog 134 #[.pointer (some ⟨g, 0, none⟩)] w (AtomPost B g A c T E (atomP T E s) w) := by
 have HP : Hid (∀ (i : Nat) A' c' W, i ≤ 6 → (atomP T E s).2.args.length = i → Rd B g A c T E (atomP T E s).1 W → Out [g] w W → SliceFar Enc.told W (List.range w.heap.size) A' i c' (atomP T E s).2.args → AtomPost B g A c T E (atomP T E s) w (.returned (.agg #[.string (bytes (takeT T E s 2)), .slice A' i c'])) W) :=
  fun i A' c' W hi hl hr ho hs => ⟨A', i, c', rfl, hr, ho, takeT_len h s 2, hs⟩
 generalize AtomPost B g A c T E (atomP T E s) w = P at *; have hB := h.size; have hgl := h.glt; have hF0 := ((Fr.start h).alloc (.cells #[.pointer (some ⟨g, 0, none⟩)] 93)).alloc (.cells #[.string ⟨#[]⟩, .slice none 0 0] 53); rw [World.size_alloc] at hF0; have HF0 := hZ9 hF0; have HTk := hZ9 (fun (W : World) (hR : Rd B g A c T E s W) => show Calls Tryz.prog 85 #[.pointer (some ⟨g, 0, none⟩), .int .i64 2] W (RdPost B g A c T E (takeP T E s 2) (.string (bytes (takeT T E s 2))) W) from rtake_any hR 2 (by decide)); obtain ⟨rel, Hrel⟩ : ∃ rel, Hid (rel = bytes (takeT T E s 2)) := ⟨_, rfl⟩
 rw [← Hrel.out] at HP HTk; have k0 := (cell_of_row _ _ 0 _ _ _ (HF0.out.row (p := (w.heap.size, Obj.cells #[.pointer (some ⟨g, 0, none⟩)] 93 (0, 0))) (by simp))).trans rfl; clear h hF0 Hrel; go_enter Tryz.func134, Tryz.ntmps134
 go_wp2_with fail
 refine (HTk.out _ HF0.out.rd).mono ?_; rintro e w1 ⟨rfl, hr1, ho1⟩; have hG1 := HF0.out.go hr1 ho1; have hz0 := (glt (hG1.row (p := (w.heap.size, Obj.cells #[.pointer (some ⟨g, 0, none⟩)] 93 (0, 0))) (by simp)))
 have hz1 := (glt (hG1.row (p := (w.heap.size + 1, Obj.cells #[.string ⟨#[]⟩, .slice none 0 0] 53 (0, 0))) (by simp)))
 dsimp only at hz0 hz1; have HF1 := hZ9 (hG1.alloc (.cells #[.string rel, .slice none 0 0] 53)); clear hr1 ho1 hG1 HF0 HTk k0; have k1 := (cell_of_row _ _ 0 _ _ _ (HF1.out.row (p := (w.heap.size, Obj.cells #[.pointer (some ⟨g, 0, none⟩)] 93 (0, 0))) (by simp))).trans rfl; go_wp2_with fail
 have hJ0 : AtJ B g A c T E w w1.heap.size w.heap.size (w.heap.size + 1) (w1.heap.size + 1) rel 0 (takeP T E s 2, []) (w1.alloc (.cells #[.string rel, .slice none 0 0] 53)) :=
  ⟨HF1.out.rd, HF1.out.out, rfl, ⟨none, 0, HF1.out.row (p := (w1.heap.size, Obj.cells #[.string rel, .slice none 0 0] 53 (0, 0))) (by simp), World.ownsRow_nil _ _ _ _⟩,
   HF1.out.row (p := (w.heap.size, Obj.cells #[.pointer (some ⟨g, 0, none⟩)] 93 (0, 0))) (by simp), HF1.out.row (p := (w.heap.size + 1, Obj.cells #[.string ⟨#[]⟩, .slice none 0 0] 53 (0, 0))) (by simp), by simp, fun _ h => by cases h⟩
 refine (rcommas_any (AtJ.jok (by omega) (by omega) (by omega) (by omega)) 168 #[.pointer (some ⟨w1.heap.size, 0, none⟩), .pointer (some ⟨w.heap.size, 0, none⟩)] (enters_of Tryz.func168 (by kernel_rfl) rfl) 6 (by omega) (argsR T E)
  (fun i x W hi he hj => atom1_any hB hgl ⟨by omega, by omega⟩ ⟨by omega, by omega⟩ ⟨by omega, by omega⟩ ⟨by omega, by omega⟩ i x W hi hj) (takeP T E s 2, []) _ hJ0).mono ?_
 rintro e w2 ⟨rfl, i, hi, hj⟩; obtain ⟨hrd, hout, hlen, ⟨A', c', hat, hown⟩, hrb, hrr, hn0, hok⟩ := hj; have hlen2 : (atomP T E s).2.args.length = i := hlen; have HRD := hZ9 hrd; have HOU := hZ9 hout; have HOk := hZ9 hok; have HLn := hZ9 hlen2; obtain ⟨a0, a1⟩ := facts2 hat; obtain ⟨r0, r1⟩ := facts2 hrr; have r2 := froz4 hrr; have HO2 := hZ9 hown; clear hrd hout hlen hat hown hrb hrr hok hlen2 hJ0 k1 HF1; go_wp2_with fail
 have ho3 := set2_out w2 (w.heap.size + 1) (.string rel) (.slice A' i c'); refine bodyPost_ret (v := .agg #[.string rel, .slice A' i c']) (by simp [results, Tryz.results134, go_sem, r0, r1]) rfl (HP.out i A' c' _ hi HLn.out (HRD.out.out ho3 (fun b hb _ => by simp at hb; omega)) (HOU.out.trans ho3 (fun b hb hl => by simp at hb; omega)) ?_); have hown3 := own_out' HO2.out ho3 (fun b hb hm => by have := (own_blk HO2.out hb).1; simp at hm; omega); have h9 := own_farT hown3 HLn.out (by omega) HOk.out; exact SliceIs.mono' h9 (Nat.le_refl _) ((Out.refl [] _).kept (fun _ h _ => by cases h) (fun b hb' _ => List.mem_range.2 (by have := List.mem_range.1 hb'; omega)))
end
end Go.Proofs.YtaeedepojpablaaGreatDoor

namespace Go.Proofs.YtaeedepojpablaaGreatDoor
open Go.RowKit
def IdxAt (l : List ByteArray) (s : ByteArray) (w : World) (e : Ending) (w' : World) : Prop := ∃ k : Int, e = .returned (.int .i64 k) ∧ ((k = -1 ∧ s ∉ l) ∨ ∃ j : Nat, k = (j : Int) ∧ l[j]? = some s) ∧ Below w.heap.size w w'
theorem indexAt_any (A : Option Addr) (n c : Nat) (l : List ByteArray) (s : ByteArray) (w : World) (hl : SliceIs Enc.str w w.heap.size A n c l) :
 Calls Tryz.prog 132 #[.slice A n c, .string s] w (IdxAt l s w) := by
 have hn := hl.bound; have hlen := hZ9 hl.1; go_enter Tryz.func132, Tryz.ntmps132
 go_wp2
 go_loop [5, 8] (fun _ i => ∃ k : Nat, k ≤ n ∧ i = .int .i64 k ∧ Hid (s ∉ l.take k)) (fun _ i => n - (intOf i).toNat)
 case atStart => exact ⟨0, by omega, rfl, by simp [Hid]⟩
 case round =>
  obtain ⟨k, hk, rfl, hpre⟩ := hrel; by_cases hlt : k < n
  ·obtain ⟨b, o, x, rfl, _, hx, hc, hs⟩ := hl.str_at hlt; have i0 : (0 : Int) ≤ (k : Int) := by omega
   have i1 : (k : Int) < (n : Int) := by omega
   have hb := World.block_lt_of_cell? w _ hc; clear hl; by_cases h1 : x = s
   ·have h1' : (s.toList == x.toList) = true := by simp [h1]
    have HR : Hid (l[k]? = some s) := by show _ = _; rw [← h1]; exact hx.out
    clear h1; go_wp2
    go_ret; exact ⟨_, rfl, .inr ⟨k, rfl, HR.out⟩, Below.refl _ _⟩
   ·have h1' : (s.toList == x.toList) = false := by simp [toList_inj, Ne.symm h1]
    have HN : Hid (s ∉ l.take (k + 1)) := by
     show ¬ _; rw [mem_take_succ hx.out]; intro h; rcases h with h | h
     ·exact hpre.out h
     ·exact h1 h
    clear h1; go_wp2
    go_round
    case rel => exact ⟨k + 1, by omega, by go_num, HN⟩
    case measure => simp [intOf]; omega
  ·have HR : Hid (s ∉ l) := by
    have h := hpre.out; rw [List.take_of_length_le (by have := hlen.out; omega)] at h; exact h
   have i1 : ¬ (k : Int) < (n : Int) := by omega
   go_wp2
   go_ret; exact ⟨_, rfl, .inl ⟨rfl, HR.out⟩, Below.refl _ _⟩
theorem bytes_inj {a b : List UInt8} (h : bytes a = bytes b) : a = b := by
 have h1 : (bytes a).toList = (bytes b).toList := by rw [h]
 rwa [show (bytes a).toList = a from toList_mk a, show (bytes b).toList = b from toList_mk b] at h1
theorem idx_of {L : List (List UInt8)} {t : List UInt8} {j : Nat} (h : (L.map bytes)[j]? = some (bytes t)) : L[j]? = some t := by
 rw [List.getElem?_map] at h; obtain ⟨l, hl, he⟩ := Option.map_eq_some_iff.1 h; rw [hl, bytes_inj he]
theorem agg_idx {t : List UInt8} {k : Int} (h : (k = -1 ∧ bytes t ∉ paggsL.map bytes) ∨ ∃ j : Nat, k = (j : Int) ∧ (paggsL.map bytes)[j]? = some (bytes t)) : k + 1 = (aggN t : Int) := by
 rcases h with ⟨rfl, hn⟩ | ⟨j, rfl, hj⟩
 ·have h1 : t ∉ paggsL := fun hm => hn (List.mem_map.2 ⟨t, hm, rfl⟩)
  simp only [paggsL, List.mem_cons, List.not_mem_nil, or_false, not_or] at h1; unfold aggN; rw [if_neg h1.1, if_neg h1.2.1, if_neg h1.2.2.1, if_neg h1.2.2.2]; rfl
 ·have h1 := idx_of hj; match j, h1 with
  | 0, h1 => simp [paggsL] at h1; subst h1; rfl
  | 1, h1 => simp [paggsL] at h1; subst h1; rfl
  | 2, h1 => simp [paggsL] at h1; subst h1; rfl
  | 3, h1 => simp [paggsL] at h1; subst h1; rfl
  | j + 4, h1 => simp [paggsL] at h1
theorem sgn_idx {t : List UInt8} {k : Int} (h : (k = -1 ∧ bytes t ∉ psignsL.map bytes) ∨ ∃ j : Nat, k = (j : Int) ∧ (psignsL.map bytes)[j]? = some (bytes t)) : k + 1 = (sgnN t : Int) := by
 rcases h with ⟨rfl, hn⟩ | ⟨j, rfl, hj⟩
 ·have h1 : t ∉ psignsL := fun hm => hn (List.mem_map.2 ⟨t, hm, rfl⟩)
  simp only [psignsL, List.mem_cons, List.not_mem_nil, or_false, not_or] at h1; unfold sgnN; rw [if_neg h1.1, if_neg h1.2.1, if_neg h1.2.2.1, if_neg h1.2.2.2.1, if_neg h1.2.2.2.2.1, if_neg h1.2.2.2.2.2]; rfl
 ·have h1 := idx_of hj; match j, h1 with
  | 0, h1 => simp [psignsL] at h1; subst h1; rfl
  | 1, h1 => simp [psignsL] at h1; subst h1; rfl
  | 2, h1 => simp [psignsL] at h1; subst h1; rfl
  | 3, h1 => simp [psignsL] at h1; subst h1; rfl
  | 4, h1 => simp [psignsL] at h1; subst h1; rfl
  | 5, h1 => simp [psignsL] at h1; subst h1; rfl
  | j + 6, h1 => simp [psignsL] at h1
section
variable {B g : Nat} {A : Option Addr} {c : Nat} {T : List GTok} {E : Nat} {s : PS} {w : World}
theorem aggs_any (h : Rd B g A c T E s w) (t : List UInt8) : Calls Tryz.prog 132 #[.slice (some ⟨0, 0, none⟩) 4 4, .string (bytes t)] w (RetV (.int .i64 ((aggN t : Int) - 1)) w) := by
 refine (indexAt_any _ 4 4 _ (bytes t) w (h.par.aggs.is (by decide) (by decide))).mono ?_; rintro e w' ⟨k, rfl, hk, hb⟩; have h1 := agg_idx hk; exact ⟨by rw [show k = (aggN t : Int) - 1 by omega], hb⟩
theorem signs_any (h : Rd B g A c T E s w) (t : List UInt8) : Calls Tryz.prog 132 #[.slice (some ⟨2, 0, none⟩) 6 6, .string (bytes t)] w (RetV (.int .i64 ((sgnN t : Int) - 1)) w) := by
 refine (indexAt_any _ 6 6 _ (bytes t) w (h.par.signs.is (by decide) (by decide))).mono ?_; rintro e w' ⟨k, rfl, hk, hb⟩; have h1 := sgn_idx hk; exact ⟨by rw [show k = (sgnN t : Int) - 1 by omega], hb⟩
end
end Go.Proofs.YtaeedepojpablaaGreatDoor
