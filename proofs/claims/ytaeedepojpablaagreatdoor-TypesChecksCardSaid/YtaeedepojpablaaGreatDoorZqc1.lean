/- My own texts Base, TSmall, TSize, TyCs, TyWc, LiftTypesChecks, FactsTypesChecks, as far as this claim needs them. -/
import Derived.Test.YtaeedepojpablaaGreatDoorZqa2
import Derived.Test.YtaeedepojpablaaGreatDoorZqb11
import Derived.Test.YtaeedepojpablaaGreatDoorZqb12
set_option linter.unusedVariables false
set_option linter.unusedSimpArgs false
set_option maxRecDepth 1000000
set_option maxHeartbeats 16000000
namespace Go.Proofs.YtaeedepojpablaaGreatDoor
open Go.RowKit
section
variable {P : Program} {w : World} {b : Nat} {kvs : List (ByteArray × Value)}
theorem MapIs.len (h : MapIs w b kvs) {t k e : TypeId} (ht : P.underlying t = some (.map k e)) (ty : TypeId) :
 (Builtin.len_ #[t] ty #[.map (some b)]).run P w = .ok (.int .i64 kvs.length) w := by
 obtain ⟨es, clock, hb, hes, _, _⟩ := h.ex; have hl : es.size = kvs.length := by have := congrArg List.length hes; simpa using this
 simp [Builtin.len_, run_underlying ht, MapKept.run_getObj_map hb, hl, goInt]
end
section
variable {w : World} {B : Nat} {A : Option Addr} {n c : Nat}
end
section
variable {P : Program} {w : World} {it g : Nat} {kvs done : List (ByteArray × Value)}
end
end Go.Proofs.YtaeedepojpablaaGreatDoor

namespace Go.Proofs.YtaeedepojpablaaGreatDoor
open Go.RowKit
theorem szL_pos : ∀ (ks : List GExp) (l : Int), 0 ≤ szL ks l → 0 ≤ l
 | [], l, h => by rw [szL] at h; exact h
 | k :: ks, l, h => by
   rw [szL] at h; split at h
   ·omega
   ·omega
theorem szE_pos (e : GExp) (l : Int) (h : 0 ≤ szE e l) : 1 ≤ l := by
 rw [szE_def] at h; have := szL_pos _ _ h; omega
theorem szL_mem : ∀ (ks : List GExp) (l : Int), 0 ≤ szL ks l → ∀ k ∈ ks, ∃ l', 0 ≤ l' ∧ l' ≤ l ∧ 0 ≤ szE k l'
 | [], l, h, k, hk => by cases hk
 | q :: ks, l, h, k, hk => by
   rw [szL] at h; split at h
   ·omega
   ·have h1 := szL_pos _ _ h; rcases List.mem_cons.1 hk with rfl | hk
    ·exact ⟨l, by omega, by omega, h1⟩
    ·obtain ⟨l', a, b, c⟩ := szL_mem ks _ h k hk; have := szE_le q l (by omega); exact ⟨l', a, by omega, c⟩
theorem szL_len : ∀ (ks : List GExp) (l : Int), 0 ≤ szL ks l → (ks.length : Int) ≤ l - szL ks l
 | [], l, h => by rw [szL]; simp
 | k :: ks, l, h => by
   rw [szL] at h ⊢; split at h
   ·omega
   ·rename_i hl
    rw [if_neg hl]; have h1 := szL_pos _ _ h; have h2 := szL_len ks _ h; have h3 := szL_pos _ _ (by rw [szE_def] at h1; exact h1)
    have h4 : szE k l ≤ l - 1 := by
     rw [szE_def]; have := szL_le k.kids (l - (1 + (((k.t.x.size + k.t.v.s.size) / 50 : Nat) : Int))); omega
    simp only [List.length_cons]; omega
mutual
theorem leavesE_len : ∀ (e : GExp) (l : Int), 0 ≤ szE e l → ((leavesE e).length : Int) ≤ l - szE e l
 | .mk o t [], l, h => by rw [szE, szL, leavesE]; simp; omega
 | .mk o t (k :: ks), l, h => by
   rw [szE, szL] at h ⊢; split at h
   ·omega
   ·rename_i hl
    rw [if_neg hl]; have h1 := szL_pos _ _ h; have h2 := leavesE_len k _ h1; have h3 := leavesL_len ks _ h; rw [leavesE]; simp only [List.length_append]; omega
theorem leavesL_len : ∀ (ks : List GExp) (l : Int), 0 ≤ szL ks l → ((leavesL ks).length : Int) ≤ l - szL ks l
 | [], l, h => by rw [szL, leavesL]; simp
 | k :: ks, l, h => by
   rw [szL] at h ⊢; split at h
   ·omega
   ·rename_i hl
    rw [if_neg hl]; have h1 := szL_pos _ _ h; have h2 := leavesE_len k _ h1; have h3 := leavesL_len ks _ h; rw [leavesL]; simp only [List.length_append]; omega
end
def Sm (e : GExp) : Prop := ∃ l : Int, 0 ≤ l ∧ l ≤ 1500 ∧ 0 ≤ szE e l
theorem Sm.of {e : GExp} {l : Int} (h : 0 ≤ szE e l) (hl : l ≤ 1500) : Sm e := ⟨l, by have := szE_pos e l h; omega, hl, h⟩
theorem Sm.kids {e : GExp} (h : Sm e) : ∀ k ∈ e.kids, Sm k := by
 obtain ⟨l, h0, h1, h2⟩ := h; rw [szE_def] at h2; intro k hk; obtain ⟨l', a, b, c⟩ := szL_mem _ _ h2 k hk; exact ⟨l', a, by omega, c⟩
theorem Sm.len {e : GExp} (h : Sm e) : e.kids.length ≤ 1500 := by
 obtain ⟨l, h0, h1, h2⟩ := h; rw [szE_def] at h2; have := szL_len _ _ h2; omega
mutual
theorem sm_narE : ∀ e : GExp, Sm e → narE e
 | .mk o t ks, h => by rw [narE]; exact ⟨h.len, sm_narL ks fun k hk => h.kids k hk⟩
theorem sm_narL : ∀ ks : List GExp, (∀ k ∈ ks, Sm k) → narL ks
 | [], _ => by rw [narL]; trivial
 | k :: ks, h => by rw [narL]; exact ⟨sm_narE k (h k (List.mem_cons_self ..)), sm_narL ks fun q hq => h q (List.mem_cons_of_mem _ hq)⟩
end
theorem Sm.nar {e : GExp} (h : Sm e) : Nar e := sm_narE e h
end Go.Proofs.YtaeedepojpablaaGreatDoor

namespace Go.Proofs.YtaeedepojpablaaGreatDoor
open Go.RowKit
theorem szT_len : ∀ (ts : List GTold) (l : Int), 0 ≤ szT ts l → (ts.length : Int) ≤ l - szT ts l ∧ 0 ≤ l
 | [], l, h => by rw [szT] at h ⊢; simp; exact h
 | t :: ts, l, h => by
   rw [szT] at h ⊢; split at h
   ·omega
   ·rename_i hl
    rw [if_neg hl]; have := szT_len ts _ h; simp only [List.length_cons]; omega
theorem szA_len {x : GAtom} {l : Int} (h : 0 ≤ szA x l) : (x.args.length : Int) + 1 ≤ l - szA x l ∧ 1 ≤ l := by
 unfold szA at h ⊢; have := szT_len _ _ h; omega
theorem szLit_len {x : GLit} {l : Int} (h : 0 ≤ szLit x l) : (x.atom.args.length : Int) + (leavesE x.l).length + (leavesE x.r).length + 1 ≤ l - szLit x l ∧ 1 ≤ l ∧ (∃ l', 0 ≤ szE x.l l' ∧ l' ≤ l) ∧ ∃ l', 0 ≤ szE x.r l' ∧ l' ≤ l := by
 unfold szLit at h ⊢; have h1 := szE_pos _ _ h; have h2 := szE_pos _ _ (by omega : 0 ≤ szE x.l (szA x.atom l)); have h3 := szA_len (x := x.atom) (l := l) (by omega); have h4 := leavesE_len x.l _ (by omega : 0 ≤ szE x.l (szA x.atom l)); have h5 := leavesE_len x.r _ h; exact ⟨by omega, h3.2, ⟨szA x.atom l, by omega, by omega⟩, ⟨szE x.l (szA x.atom l), h, by omega⟩⟩
structure SmLit (x : GLit) : Prop where
 args : x.atom.args.length ≤ 1500
 l : Sm x.l
 r : Sm x.r
 all : x.atom.args.length + ((leavesE x.l).length + (leavesE x.r).length) ≤ 1500
theorem szB_all : ∀ (xs : List GLit) (l : Int), 0 ≤ szB xs l → l ≤ 1500 → (xs.length : Int) + ((xs.flatMap (fun x => x.atom.args ++ (leavesE x.l ++ leavesE x.r))).length : Int) ≤ l - szB xs l ∧ 0 ≤ l ∧ ∀ x ∈ xs, SmLit x
 | [], l, h, hl => by rw [szB] at h ⊢; exact ⟨by simp, h, fun _ h => by cases h⟩
 | x :: xs, l, h, hl => by
   rw [szB] at h ⊢; split at h
   ·omega
   ·rename_i hn
    rw [if_neg hn]; have h1 := szLit_le x l; obtain ⟨h2, h3, h4⟩ := szB_all xs _ h (by omega); obtain ⟨h5, h6, ⟨l1, h7, h8⟩, ⟨l2, h9, h10⟩⟩ := szLit_len h3; refine ⟨?_, by omega, fun y hy => ?_⟩
    ·simp only [List.length_cons, List.flatMap_cons, List.length_append]; omega
    ·rcases List.mem_cons.1 hy with rfl | hy
     ·exact ⟨by omega, Sm.of h7 (by omega), Sm.of h9 (by omega), by omega⟩
     ·exact h4 y hy
structure SmRule (x : GRule) : Prop where
 args : x.head.args.length ≤ 1500
 body : x.body.length ≤ 1500
 lits : ∀ y ∈ x.body, SmLit y
 all : x.head.args.length + (x.body.flatMap (fun x => x.atom.args ++ (leavesE x.l ++ leavesE x.r))).length ≤ 1500
theorem szR_all {x : GRule} {l : Int} (h : 0 ≤ szR x l) (hl : l ≤ 1500) : SmRule x ∧ 1 ≤ l ∧ szR x l + 1 ≤ l := by
 unfold szR at h ⊢; have h0 := szA_le x.head l; obtain ⟨h1, h2, h3⟩ := szB_all _ _ h (by omega); have h4 := szA_len h2; exact ⟨⟨by omega, by omega, h3, by omega⟩, h4.2, by omega⟩
theorem szRs_all : ∀ (xs : List GRule) (l : Int), 0 ≤ szRs xs l → l ≤ 1500 → (xs.length : Int) ≤ l - szRs xs l ∧ ∀ x ∈ xs, SmRule x
 | [], l, h, hl => ⟨by rw [szRs]; simp, fun _ h => by cases h⟩
 | x :: xs, l, h, hl => by
   rw [szRs] at h ⊢; split at h
   ·omega
   ·rename_i hn
    rw [if_neg hn]; obtain ⟨h1, h2, h3⟩ := szR_all (x := x) (l := l - 1) (by omega) (by omega); obtain ⟨h4, h5⟩ := szRs_all xs _ h (by omega); refine ⟨by simp only [List.length_cons]; omega, fun y hy => ?_⟩; rcases List.mem_cons.1 hy with rfl | hy
    ·exact h1
    ·exact h5 y hy
theorem szD_all : ∀ (xs : List GDecl) (l : Int), 0 ≤ szD xs l → (xs.length : Int) ≤ l - szD xs l ∧ 0 ≤ l ∧ ∀ x ∈ xs, (x.kinds.length : Int) ≤ l
 | [], l, h => by rw [szD] at h ⊢; exact ⟨by simp, h, fun _ h => by cases h⟩
 | x :: xs, l, h => by
   rw [szD] at h ⊢; split at h
   ·omega
   ·rename_i hn
    rw [if_neg hn]; obtain ⟨h1, h2, h3⟩ := szD_all xs _ h; refine ⟨by simp only [List.length_cons]; omega, by omega, fun y hy => ?_⟩; rcases List.mem_cons.1 hy with rfl | hy
    ·omega
    ·have := h3 y hy; omega
structure SmProg (p : GProg) : Prop where
 decls : p.decls.length ≤ 1500
 kinds : ∀ x ∈ p.decls, x.kinds.length ≤ 1500
 rules : p.rules.length ≤ 1500
 each : ∀ x ∈ p.rules, SmRule x
theorem SmLit.nar {x : GLit} (h : SmLit x) : NarLit x := ⟨h.args, h.l.nar, h.r.nar⟩
theorem SmRule.nar {x : GRule} (h : SmRule x) : NarRule x := ⟨h.args, h.body, fun y hy => (h.lits y hy).nar⟩
theorem SmProg.nar {p : GProg} (h : SmProg p) : NarProg p := ⟨h.decls, h.kinds, h.rules, fun x hx => (h.each x hx).nar⟩
theorem szP_all {p : GProg} (h : 0 ≤ szP p 1500) : SmProg p := by
 unfold szP at h; split at h
 ·omega
 ·rename_i hn
  obtain ⟨h1, h2, h3⟩ := szD_all p.decls 1500 (by omega); obtain ⟨h4, h5⟩ := szRs_all p.rules _ h (by omega); exact ⟨by omega, fun x hx => by have := h3 x hx; omega, by omega, h5⟩
end Go.Proofs.YtaeedepojpablaaGreatDoor

namespace Go.Proofs.YtaeedepojpablaaGreatDoor
open Go.RowKit
theorem wpList_new3y {P : Program} {ops : Array Oper} {rest : List Oper} {o1 o2 o3 : Oper} {a : Act} {w : World} {Q : Exit → Act → World → Prop} (g1 : o1.guard = none) (g2 : o2.guard = none) (g3 : o3.guard = none) (ty : TypeId) (d : Tmp) (x : Operand) (h1 : o1.op = .alloc ty) (hd1 : o1.dst = some d) (h3 : o3.op = .store ty (.tmp d) x) (hd3 : o3.dst = none)
 (d2 : Tmp) (y : Operand) (h2 : o2.op = .assign y) (hd2 : o2.dst = some d2) (zs : Array Value) (cells : Array Value) (hi : (P.info? ty).map (fun i => (i.zero, i.size)) = some (some (.agg zs), zs.size)) (hs : zs.size = cells.size) (hone : cells.all (·.oneCell') = true) (v : Value)
 (hv : (a.put (some d) (.pointer (some ⟨w.heap.size, 0, none⟩))).eval y = v)
 (hp : ((a.put (some d) (.pointer (some ⟨w.heap.size, 0, none⟩))).put (some d2) v).eval (.tmp d) = .pointer (some ⟨w.heap.size, 0, none⟩)) (hx : ((a.put (some d) (.pointer (some ⟨w.heap.size, 0, none⟩))).put (some d2) v).eval x = .agg cells)
 (h : wpList P ops Q rest ((a.put (some d) (.pointer (some ⟨w.heap.size, 0, none⟩))).put (some d2) v) (w.alloc (.cells cells ty))) : wpList P ops Q (o1 :: o2 :: o3 :: rest) a w := by
 refine Go.Great.wpList_allocTo g1 (some d) hd1 _ _ (run_alloc_ty _ w o1 ty h1 zs _ hi) ?_; refine wpList_plain g2 fun K hK => ?_
 refine op_assign y (.inl h2) v hv ?_; rw [hd2]; refine hK _ _ ?_; refine wpList_store_rowTo g3 ty (.tmp d) x h3 hd3 w.heap.size cells hp hx ty zs (Go.heap_alloc_new w _) ?_ hs hone ?_
 ·obtain ⟨i, hi1, hi2⟩ := Option.map_eq_some_iff.1 hi; injection hi2 with h3 h4
  rw [hi1]; simp [h4, hs]
 ·rw [setRow_new]; exact h
theorem KOk.get {l : Kinds} (h : KOk l) {p : ByteArray × Int} (hp : p ∈ l) : kget l p.1 = p.2 := by
 obtain ⟨k, hk, rfl⟩ := List.mem_iff_getElem.1 hp; refine kget_hit (List.getElem?_eq_getElem hk) rfl fun y hy e => ?_
 obtain ⟨j, hj, rfl⟩ := List.mem_iff_getElem.1 hy; simp only [List.length_take] at hj; rw [List.getElem_take] at e
 have h1 : (l.map Prod.fst)[j]? = (l.map Prod.fst)[k]? := by
  rw [List.getElem?_map, List.getElem?_map, List.getElem?_eq_getElem (by omega), List.getElem?_eq_getElem hk]; simp [e]
 have := (List.getElem?_inj (by simp; omega) h.nod).1 h1; omega
theorem nilmap_len (W : World) (ty : TypeId) : (Builtin.len_ #[67] ty #[.map none]).run Tryz.prog W = .ok (.int .i64 0) W := by
 simp [Builtin.len_, run_underlying Tryz.underlying67, goInt]
theorem lawKinds_any (v : Value) (A : Option Addr) (n c : Nat) (l : Kinds) (w : World) (hm : KMap w v l) (ho : KOk l) (hl : SliceIs Enc.kp w w.heap.size A n c l) :
 Calls Tryz.prog 19 #[v, .slice A n c] w (RetBool true w) := by
 have hn := hl.bound; have Hlen := hZ9 hl.1; have HL := hZ9 hl; have Ho := hZ9 ho; rcases hm with ⟨rfl, rfl⟩ | ⟨km, rfl, hm⟩
 ·obtain rfl : n = 0 := Hlen.out.symm; have hml := nilmap_len w; clear hl ho; go_enter Tryz.func19, Tryz.ntmps19
  go_wp2_with fail
  go_loopw [14] (fun i wr => i = .int .i64 0 ∧ wr = w) (fun _ _ => 0)
  case atStart => exact ⟨rfl, rfl⟩
  case round =>
   obtain ⟨rfl, rfl⟩ := hrel; go_wp2_with fail
   go_ret; exact ⟨rfl, Below.refl _ _⟩
 ·have hml := fun ty => hm.len (P := Tryz.prog) Tryz.underlying67 ty
  have hkl : (kvsOf l).length = n := by unfold kvsOf; rw [List.length_map]; exact Hlen.out
  rw [hkl] at hml; have HM := hZ9 hm; have e0 : ((n : Int) != (n : Int)) = false := by simp
  clear hl ho hm hkl; go_enter Tryz.func19, Tryz.ntmps19
  go_wp2_with fail
  clear hml; go_loopw [6, 14] (fun _ i wr => ∃ k : Nat, k ≤ n ∧ i = .int .i64 (k : Int) ∧ Hid (Below w.heap.size w wr)) (fun _ i _ => n - (intOf i).toNat)
  case atStart => exact ⟨0, by omega, rfl, Below.refl _ _⟩
  case round =>
   obtain ⟨k, hk, rfl, HB⟩ := hrel; have i0 : (0 : Int) ≤ (k : Int) := by omega
   by_cases hlt : k < n
   ·have i1 : (k : Int) < (n : Int) := by omega
    obtain ⟨b, o, x, rfl, hbb, hx, z0, z1⟩ := (HL.out.keep HB.out).kp_at hlt; obtain ⟨Q, hQ⟩ : ∃ Q, Q = wr.alloc (.cells #[.string x.1, .int .i64 x.2] 121) := ⟨_, rfl⟩
    have HQe := hZ9 hQ.symm; have hbQ : Below wr.heap.size wr Q := by rw [hQ]; exact belowA (Below.refl _ _) _
    have hrQ : Q.heap[wr.heap.size]? = some (.cells #[.string x.1, .int .i64 x.2] 121 (0, 0)) := by rw [hQ]; exact heapNew rfl
    obtain ⟨y0, y1⟩ := facts2 hrQ; have HBQ : Hid (Below w.heap.size w Q) := HB.out.trans (hbQ.mono HB.out.size)
    have hlk : (Instr.lookup 67 (.map (some km)) (.string x.1) false).run Tryz.prog Q = .ok (.int .i64 x.2) Q := by
     have h1 := (HM.out.below HBQ.out HM.out.lt).lookup (P := Tryz.prog) Tryz.underlying67 Tryz.underlying9 (z := .int .i64 0) (zero_kind Q) x.1; rw [show (kvGet (kvsOf l) x.1).getD (.int .i64 0) = kindOf (kvsOf l) x.1 from rfl, kvsOf_kind, Ho.out.get (List.mem_of_getElem? hx.out)] at h1; exact h1
    have e1 : (x.2 != x.2) = false := by simp
    clear hQ hbQ hrQ hx; go_wp2_with (rw [HQe.out])
    go_roundw
    case rel => exact ⟨k + 1, by omega, by go_num, HBQ⟩
    case measure => simp [intOf]; omega
   ·have i1 : ¬ (k : Int) < (n : Int) := by omega
    go_wp2_with fail
    go_ret; exact ⟨rfl, HB.out⟩
end Go.Proofs.YtaeedepojpablaaGreatDoor

namespace Go.Proofs.YtaeedepojpablaaGreatDoor
open Go.RowKit
theorem typesChecks_walk (d : Nat) (x : GProg) (aA : Option Addr) (an ac : Nat) (bA : Option Addr) (bn bc : Nat) (w : World) (hx : ProgAt d w w.heap.size x ⟨aA, an, ac⟩ ⟨bA, bn, bc⟩) (hW : ParW w) :
 Calls Tryz.prog 4 #[.agg (progC ⟨aA, an, ac⟩ ⟨bA, bn, bc⟩).toArray] w (RetBool true w) := by
 obtain ⟨V, hV⟩ : ∃ V, V = w.alloc (.cells #[.slice aA an ac, .slice bA bn bc] 26) := ⟨_, rfl⟩
 have HVe := hZ9 hV.symm; have hg : V.heap[w.heap.size]? = some (.cells #[.slice aA an ac, .slice bA bn bc] 26 (0, 0)) := by rw [hV]; exact heapNew rfl
 have hbV : Below w.heap.size w V := by rw [hV]; exact belowA (Below.refl _ _) _
 have hgl : w.heap.size < V.heap.size := (glt hg)
 have HbV := hZ9 hbV; have HC : Hid (∀ W, Below V.heap.size V W → W.cell? ⟨w.heap.size, 0, none⟩ = some (.slice aA an ac) ∧ W.cell? ⟨w.heap.size, 1, none⟩ = some (.slice bA bn bc)) := fun W hW => facts2 ((hW.block _ hgl).trans hg)
 have HX : Hid (∀ W, Below V.heap.size V W → ProgAt d W W.heap.size x ⟨aA, an, ac⟩ ⟨bA, bn, bc⟩) := fun W hWb => (hx.keep hbV).keep hWb
 have HPW : Hid (∀ W, Below V.heap.size V W → ParW W) := fun W hWb => hW.on (hbV.trans (hWb.mono hbV.size))
 have HAl := hZ9 (alive8_any V (HPW.out V (Below.refl _ _))); have hbn := hx.rules.bound; have Hbl : Hid (x.rules.length = bn) := hx.rules.1; clear hx hW hV hg hbV; go_enter Tryz.func4, Tryz.ntmps4
 go_wp2_with (rw [HVe.out])
 refine HAl.out.mono ?_; rintro e w1 ⟨rfl, hb1⟩; have HB1 := hZ9 hb1; have HSz := hZ9 (size_any d x ⟨aA, an, ac⟩ ⟨bA, bn, bc⟩ w1 (HX.out w1 hb1)); obtain ⟨c0, c1⟩ := HC.out w1 hb1; clear hb1 HAl; go_wp2_with fail
 refine HSz.out.mono ?_; rintro e w2 ⟨R, rfl, hR, hb2⟩; have HB2 : Hid (Below V.heap.size V w2) := HB1.out.trans (hb2.mono HB1.out.size); have HE2 : Hid (Below w.heap.size w w2) := HbV.out.trans (HB2.out.mono HbV.out.size); have HRi := hZ9 hR; clear hb2 HSz hR c0 c1; by_cases hs : R < 0
 ·go_wp2_with fail
  go_ret; exact ⟨rfl, HE2.out⟩
 have hsm : SmProg x := szP_all (HRi.out.1 (by omega)); have HDo := hZ9 (copyProg_any d x ⟨aA, an, ac⟩ ⟨bA, bn, bc⟩ w2 (HX.out w2 HB2.out) hsm.nar); obtain ⟨c0, c1⟩ := HC.out w2 HB2.out; clear hsm; go_wp2_with fail
 refine HDo.out.mono ?_; rintro e w4 ⟨⟨a2, n2, k2⟩, ⟨b2, m2, l2⟩, rfl, hp4, hb4⟩; have HB4 : Hid (Below V.heap.size V w4) := HB2.out.trans (hb4.mono HB2.out.size); obtain ⟨M, hM⟩ : ∃ M, M = w4.alloc (.cells #[.slice a2 n2 k2, .slice b2 m2 l2] 34) := ⟨_, rfl⟩
 have HMe := hZ9 hM.symm; have hbM : Below w4.heap.size w4 M := by rw [hM]; exact belowA (Below.refl _ _) _
 have hgM : M.heap[w4.heap.size]? = some (.cells #[.slice a2 n2 k2, .slice b2 m2 l2] 34 (0, 0)) := by rw [hM]; exact heapNew rfl
 have hglM := (glt hgM)
 have hBM : Below V.heap.size V M := HB4.out.trans (hbM.mono HB4.out.size); have HBM := hZ9 hBM; have HD : Hid (∀ W, Below M.heap.size M W → W.cell? ⟨w4.heap.size, 0, none⟩ = some (.slice a2 n2 k2) ∧ W.cell? ⟨w4.heap.size, 1, none⟩ = some (.slice b2 m2 l2)) := fun W hW => facts2 ((hW.block _ hglM).trans hgM)
 have HX2 : Hid (∀ W, Below M.heap.size M W → ProgAt d W W.heap.size x ⟨a2, n2, k2⟩ ⟨b2, m2, l2⟩) := fun W hWb => (hp4.keep hbM).keep hWb
 have Hm2 : Hid (m2 = bn) := by show _ = _; rw [← Hbl.out]; exact hp4.rules.1.symm
 have hm2 : m2 = bn := Hm2.out; subst hm2; have HCk := hZ9 (tyCheck_any d x aA an ac bA m2 bc M (HX.out M hBM) (HPW.out M hBM).lex); obtain ⟨d0, d1⟩ := HC.out M hBM; obtain ⟨r, Hr⟩ : ∃ r, Hid (tyErr x = r) := ⟨_, rfl⟩
 rw [Hr.out] at HCk; obtain ⟨r1, r2⟩ := r; unfold TyPost at HCk; dsimp only at HCk; obtain ⟨ev, Hev⟩ : ∃ ev, Hid (errV 89 r2 = ev) := ⟨_, rfl⟩
 rw [Hev.out] at HCk; clear hb4 hp4 hM hbM hgM hBM HDo c0 c1; go_wp2_with (rw [HMe.out])
 refine HCk.out.mono ?_; rintro e w5 ⟨rfl, hb5⟩; have HB5 := hZ9 hb5; have HRc := hZ9 (refTyCheck_any d x a2 n2 k2 b2 m2 l2 w5 (HX2.out w5 hb5)); rw [Hr.out] at HRc; unfold AtPost at HRc; dsimp only at HRc; obtain ⟨e0, e1⟩ := HD.out w5 hb5; clear hb5 HCk d0 d1; go_wp2_with fail
 refine HRc.out.mono ?_; rintro e w6 ⟨rfl, hb6⟩; have HB6 : Hid (Below M.heap.size M w6) := HB5.out.trans (hb6.mono HB5.out.size); have HNm := hZ9 (num_any r2 w6); rw [Hev.out] at HNm; clear hb6 HRc e0 e1; go_wp2_with fail
 refine HNm.out.mono ?_; rintro e w7 ⟨rfl, hb7⟩; have HB7 : Hid (Below M.heap.size M w7) := HB6.out.trans (hb7.mono HB6.out.size); have f1 : (r1 != r1) = false := by simp
 have f2 : (r2 != r2) = false := by simp
 obtain ⟨-, d1⟩ := HC.out w7 (HBM.out.trans (HB7.out.mono HBM.out.size)); clear hb7 HNm; go_wp2_with fail
 clear d1; have HBw : Hid (∀ W, Below M.heap.size M W → Below w.heap.size w W) := fun W hW => HbV.out.trans ((HBM.out.trans (hW.mono HBM.out.size)).mono HbV.out.size)
 go_loopw [8, 9, 10, 40] (fun _ _ _ i wr => ∃ k : Nat, k ≤ m2 ∧ i = .int .i64 (k : Int) ∧ Hid (Below M.heap.size M wr)) (fun _ _ _ i _ => m2 - (intOf i).toNat)
 case atStart => exact ⟨0, by omega, rfl, HB7⟩
 case round =>
  clear HB7 HB6 HB5; obtain ⟨k, hk, rfl, HB⟩ := hrel; have i0 : (0 : Int) ≤ (k : Int) := by omega
  by_cases hlt : k < m2
  ·have i1 : (k : Int) < (m2 : Int) := by omega
   have hBV : Below V.heap.size V wr := HBM.out.trans (HB.out.mono HBM.out.size); obtain ⟨rb, ro, y, cs, hbA, hrb, hy, ⟨a, m, rfl, hyA⟩, hcs⟩ := (HX.out wr hBV).rules.cells_at hlt; dsimp only at hbA; subst hbA; obtain ⟨mA, mn, mc⟩ := m; obtain ⟨hA, hn, hc⟩ := a; have HCs : Hid (∀ j' v, (ruleC y ⟨hA, hn, hc⟩ ⟨mA, mn, mc⟩)[j']? = some v → wr.cell? ⟨rb, ro + k * 6 + j', none⟩ = some v) := hcs; obtain ⟨U, hU⟩ : ∃ U, U = wr.alloc (.cells (ruleC y ⟨hA, hn, hc⟩ ⟨mA, mn, mc⟩).toArray 56) := ⟨_, rfl⟩
   have HUe := hZ9 hU.symm; have hbU : Below wr.heap.size wr U := by rw [hU]; exact belowA (Below.refl _ _) _
   have hrU : U.heap[wr.heap.size]? = some (.cells (ruleC y ⟨hA, hn, hc⟩ ⟨mA, mn, mc⟩).toArray 56 (0, 0)) := by rw [hU]; exact heapNew rfl
   have hgU := (glt hrU)
   have hBU : Below M.heap.size M U := HB.out.trans (hbU.mono HB.out.size); have HBU := hZ9 hBU; have HRc : Hid (∀ W, Below U.heap.size U W → ∀ j' v, (ruleC y ⟨hA, hn, hc⟩ ⟨mA, mn, mc⟩)[j']? = some v → W.cell? ⟨wr.heap.size, 0 + j', none⟩ = some v) := fun W hW => row_cells ((hW.block _ hgU).trans hrU)
   have HyU := hZ9 (hyA.keep hbU); have Hy := hZ9 hy.out; have HF := hZ9 (refFormed_any d x ⟨a2, n2, k2⟩ ⟨b2, m2, l2⟩ U (HX2.out U hBU)); obtain ⟨e0, e1⟩ := HD.out U hBU; have HE := hZ9 (HBw.out U hBU); clear hU hbU hrU hyA hcs hy hBV hBU; by_cases h70 : (70 : Int) < (k : Int)
   ·go_wp2_with (first
     | rw [HUe.out]
     | refine wpList_load_at rb (ro + k * 6) (ruleC y ⟨hA, hn, hc⟩ ⟨mA, mn, mc⟩) _ HCs.out Tryz.underlying56 rfl (rule_sizeY _ _ _) rfl rfl ?_
     | refine wpList_new3y rfl rfl rfl 56 9 (.tmp 44) rfl rfl rfl rfl 8 (.tmp 42) rfl rfl _ (ruleC y ⟨hA, hn, hc⟩ ⟨mA, mn, mc⟩).toArray rule_infoY rfl (rule_oneY _ _ _) _ rfl rfl rfl ?_)
    go_ret; exact ⟨rfl, HE.out⟩
   go_wp2_with (first
    | rw [HUe.out]
    | refine wpList_load_at rb (ro + k * 6) (ruleC y ⟨hA, hn, hc⟩ ⟨mA, mn, mc⟩) _ HCs.out Tryz.underlying56 rfl (rule_sizeY _ _ _) rfl rfl ?_
    | refine wpList_new3y rfl rfl rfl 56 9 (.tmp 44) rfl rfl rfl rfl 8 (.tmp 42) rfl rfl _ (ruleC y ⟨hA, hn, hc⟩ ⟨mA, mn, mc⟩).toArray rule_infoY rfl (rule_oneY _ _ _) _ rfl rfl rfl ?_)
   refine HF.out.mono ?_; rintro e w8 ⟨rfl, hb8⟩; have HB8 := hZ9 hb8; have hbM8 : Below M.heap.size M w8 := HBU.out.trans (hb8.mono HBU.out.size); have HBM8 := hZ9 hbM8; clear hb8 HF e0 e1; cases hfo : formedB x with
   | false =>
     have HKi := hZ9 (tyKinds_any d x aA an ac (some ⟨rb, ro, none⟩) m2 bc y ⟨hA, hn, hc⟩ ⟨mA, mn, mc⟩ w8 (HX.out w8 (HBM.out.trans (hbM8.mono HBM.out.size))) (HyU.out.keep HB8.out) (HPW.out w8 (HBM.out.trans (hbM8.mono HBM.out.size))).lex); have hk0 : (if (formedB x && rightRule y) = true then kindsR x.decls y else []) = [] := by rw [hfo]; rfl
     rw [hk0] at HKi; have HRw := hZ9 (HRc.out w8 HB8.out); obtain ⟨c0, c1⟩ := HC.out w8 (HBM.out.trans (hbM8.mono HBM.out.size)); clear hfo hk0 hbM8; go_wp2_with (refine wpList_load_at wr.heap.size 0 (ruleC y ⟨hA, hn, hc⟩ ⟨mA, mn, mc⟩) _ HRw.out Tryz.underlying56 rfl (rule_sizeY _ _ _) rfl rfl ?_)
     refine HKi.out.mono ?_; rintro e w9 ⟨v, rfl, hm9, hb9⟩; have HLk := hZ9 (lawKinds_any v none 0 0 [] w9 hm9 KOk.nil SliceIs.nil); have HB9 : Hid (Below M.heap.size M w9) := HBM8.out.trans (hb9.mono HBM8.out.size); clear hm9 hb9 HKi c0 c1; go_wp2_with fail
     refine HLk.out.mono ?_; rintro e wa ⟨rfl, hba⟩; have HBa : Hid (Below M.heap.size M wa) := HB9.out.trans (hba.mono HB9.out.size); clear hba HLk; go_wp2_with fail
     go_roundw
     case rel => exact ⟨k + 1, by omega, by go_num, HBa⟩
     case measure => simp [intOf]; omega
   | true =>
     have hry := (formed_rules hfo).2 y (List.mem_of_getElem? Hy.out); have hk0 : (if (formedB x && rightRule y) = true then kindsR x.decls y else []) = kindsR x.decls y := by rw [hfo, hry]; rfl
     obtain ⟨rb2, ro2, y', cs2, hbA2, hrb2, hy2, ⟨a', m', rfl, hyA2⟩, hcs2⟩ := (HX2.out w8 hbM8).rules.cells_at hlt; dsimp only at hbA2; subst hbA2; obtain rfl : y = y' := by have h1 := hy2.out; rw [Hy.out] at h1; injection h1
     obtain ⟨mA2, mn2, mc2⟩ := m'; obtain ⟨hA2, hn2, hc2⟩ := a'; have z0 : w8.cell? ⟨rb2, ro2 + k * 6, none⟩ = some (.string y.head.rel) := hcs2 0 _ rfl; have z1 : w8.cell? ⟨rb2, ro2 + k * 6 + 1, none⟩ = some (.slice hA2 hn2 hc2) := hcs2 1 _ rfl; have z2 : w8.cell? ⟨rb2, ro2 + k * 6 + 2, none⟩ = some (.int .i64 y.agg) := hcs2 2 _ rfl; have z3 : w8.cell? ⟨rb2, ro2 + k * 6 + 3, none⟩ = some (.int .i64 y.col) := hcs2 3 _ rfl; have z4 : w8.cell? ⟨rb2, ro2 + k * 6 + 4, none⟩ = some (.slice mA2 mn2 mc2) := hcs2 4 _ rfl; have z5 : w8.cell? ⟨rb2, ro2 + k * 6 + 5, none⟩ = some (.int .i64 y.pos) := hcs2 5 _ rfl; obtain ⟨e0, e1⟩ := HD.out w8 hbM8; have hbd : Below w8.heap.size w8 w8.drew := (Below.refl _ _).drew; have HRk := hZ9 (refKinds_any d a2 n2 k2 (.slice (some ⟨rb2, ro2, none⟩) m2 l2) x.decls y ⟨hA2, hn2, hc2⟩ ⟨mA2, mn2, mc2⟩ w8.drew (((HX2.out w8 hbM8).keep hbd).decls) (hyA2.keep hbd) hry); have Hkm : Hid ((kindsR x.decls y).length ≤ 20000000) := Nat.le_trans kindsR_told.most (right_varsR hry); have HKi := hZ9 (fun (W : World) (hW : Below w8.heap.size w8 W) => tyKinds_any d x aA an ac (some ⟨rb, ro, none⟩) m2 bc y ⟨hA, hn, hc⟩ ⟨mA, mn, mc⟩ W (HX.out W (HBM.out.trans ((hbM8.trans (hW.mono hbM8.size)).mono HBM.out.size))) (HyU.out.keep (HB8.out.trans (hW.mono HB8.out.size))) (HPW.out W (HBM.out.trans ((hbM8.trans (hW.mono hbM8.size)).mono HBM.out.size))).lex); rw [hk0] at HKi; have HOk : Hid (KOk (kindsR x.decls y)) := kindsR_told.ok KOk.nil; obtain ⟨l, Hl⟩ : ∃ l, Hid (kindsR x.decls y = l) := ⟨_, rfl⟩
     rw [Hl.out] at HRk Hkm HKi HOk; clear hfo hk0 hry hcs2 hyA2 hy2 hbd; go_wp2_with fail
     go_region_held3 (fun W => W.cell? ⟨w4.heap.size, 0, none⟩ = some (.slice a2 n2 k2) ∧ W.cell? ⟨w4.heap.size, 1, none⟩ = some (.slice (some ⟨rb2, ro2, none⟩) m2 l2) ∧ W.cell? ⟨rb2, ro2 + k * 6, none⟩ = some (.string y.head.rel) ∧ W.cell? ⟨rb2, ro2 + k * 6 + 1, none⟩ = some (.slice hA2 hn2 hc2) ∧ W.cell? ⟨rb2, ro2 + k * 6 + 2, none⟩ = some (.int .i64 y.agg) ∧ W.cell? ⟨rb2, ro2 + k * 6 + 3, none⟩ = some (.int .i64 y.col) ∧ W.cell? ⟨rb2, ro2 + k * 6 + 4, none⟩ = some (.slice mA2 mn2 mc2) ∧ W.cell? ⟨rb2, ro2 + k * 6 + 5, none⟩ = some (.int .i64 y.pos))
      (go_keep)
      ((first
        | (go_at_call 18
           refine HRk.out.mono ?_; rintro e w9 ⟨lA, lc, rfl, ho9, hb9⟩; have HL9 := hZ9 (ho9.is (by have := Hkm.out; omega)); have h9 : Below w8.heap.size w8 w9 := ((Below.refl w8.heap.size w8).drew).trans hb9; have HB9 := hZ9 h9; have q0 := below_cell h9 e0; have q1 := below_cell h9 e1; have q2 := below_cell h9 z0; have q3 := below_cell h9 z1; have q4 := below_cell h9 z2; have q5 := below_cell h9 z3; have q6 := below_cell h9 z4; have q7 := below_cell h9 z5
           clear ho9 hb9 h9)))
     all_goals
      have hbM9 : Below M.heap.size M w9 := hbM8.trans (HB9.out.mono hbM8.size); have HBM9 := hZ9 hbM9; have HRw := hZ9 (HRc.out w9 (HB8.out.trans (HB9.out.mono HB8.out.size))); have HK9 := hZ9 (HKi.out w9 HB9.out); obtain ⟨c0, c1⟩ := HC.out w9 (HBM.out.trans (hbM9.mono HBM.out.size)); obtain ⟨ln, Hln⟩ : ∃ ln, Hid (l.length = ln) := ⟨_, rfl⟩
      rw [Hln.out] at HL9 ⊢; clear e0 e1 z0 z1 z2 z3 z4 z5 q0 q1 q2 q3 q4 q5 q6 q7 HKi HRk hbM9 hbM8; go_wp2_with (refine wpList_load_at wr.heap.size 0 (ruleC y ⟨hA, hn, hc⟩ ⟨mA, mn, mc⟩) _ HRw.out Tryz.underlying56 rfl (rule_sizeY _ _ _) rfl rfl ?_)
      refine HK9.out.mono ?_; rintro e wa ⟨v, rfl, hma, hba⟩; have HLk := hZ9 (lawKinds_any v lA ln lc l wa hma HOk.out (HL9.out.keep hba)); have HBa : Hid (Below M.heap.size M wa) := HBM9.out.trans (hba.mono HBM9.out.size); clear hma hba HK9 c0 c1; go_wp2_with fail
      refine HLk.out.mono ?_; rintro e wb ⟨rfl, hbb⟩; have HBb : Hid (Below M.heap.size M wb) := HBa.out.trans (hbb.mono HBa.out.size); clear hbb HLk; go_wp2_with fail
      go_roundw
      case rel => exact ⟨k + 1, by omega, by go_num, HBb⟩
      case measure => simp [intOf]; omega
  ·have i1 : ¬ (k : Int) < (m2 : Int) := by omega
   have HE := hZ9 (HBw.out wr HB.out); go_wp2_with fail
   go_ret; exact ⟨rfl, HE.out⟩
end Go.Proofs.YtaeedepojpablaaGreatDoor

namespace Go.Proofs.YtaeedepojpablaaGreatDoor
open Go.ChangeShapes Go.WideShapes Go.ChangeAt Go.RowKit
set_option linter.unusedVariables false
theorem params : Tryz.f4.params = #[26] := by kernel_rfl
theorem lifted (os : Os) (started : os.Started) (H : Type) (enc : TypeId × Value → H) :
 ReturnsInHanded {} Tryz.checked os 4 .any (fun w args => (Rows.typesChecksSpec.pre enc Tryz.prog Tryz.f4 Rows.typesChecksRow.domain false w args ∧ laidMet Tryz.prog laidP w) ∧ sizedMet enc Tryz.prog Tryz.f4 (OpenSpec.ofChange Rows.typesChecksSpec) false w args)
  (Rows.typesChecksSpec.post enc Tryz.prog Tryz.f4 false true false false) := by
 refine returnsInHanded_of_change_and (C := Tryz.checked) (X := fun w _ => laidMet Tryz.prog laidP w) (fun _ _ _ hh h => h.of_heap hh) own started (by kernel_rfl) Tryz.func4
  (ChangeSpec.witness_at (enc := enc) (C := Tryz.checked) (os := os) (X := fun w _ => laidMet Tryz.prog laidP w) false (laidWorldP os) #[.agg #[.slice none 0 0, .slice none 0 0]] 8 rfl (by kernel_rfl) (by kernel_rfl) (by kernel_rfl) (by kernel_rfl) (by kernel_rfl) (laidWorldP_met os _)) ?_
 intro W base args ds gs before hval0 hW hcnd hsz0 hL _; have hval : ∀ (j : Nat) t v, Tryz.f4.params[j]? = some t → args[j]? = some v → Value.okWide Tryz.prog W .any base t v := hval0; have hW' := hW; obtain ⟨p, q, hA0, hV, rfl, hfz, hnd⟩ := hW; have hA : DataW.TrodAll enc Tryz.prog W 0 (fun _ => true) true Tryz.f4.params.toList args.toList ds p := hA0; have hsz : (DataW.weightsEach Tryz.prog (Tryz.f4.params.toList ++ Rows.typesChecksSpec.plain.varTypes Tryz.prog) (ds ++ gs)).all (· ≤ reachBytes) = true := hsz0; rw [params] at hA hval hsz; obtain ⟨v0, vs0, d0, ds0, p0, q0, hargs, rfl, rfl, h0, r0⟩ := trodAll_cons hA; obtain ⟨rfl, rfl, rfl⟩ := trodAll_nil r0; obtain rfl : args = #[v0] := by cases args; simp_all
 obtain ⟨rfl, rfl⟩ := trodVars_none hV
 have hwt : ∀ (j : Nat) (t : TypeId) (d : DataW H), [26][j]? = some t → [d0][j]? = some d → ∀ n ∈ d.weights Tryz.prog t, n ≤ reachBytes := fun j t d ht hd n hn => by
  have := List.all_eq_true.1 hsz n (DataW.weights_mem_each (j := j) (by rw [List.getElem?_append_left (by simpa using (List.getElem?_eq_some_iff.1 ht).1)]; exact ht) (by rw [List.getElem?_append_left (by simpa using (List.getElem?_eq_some_iff.1 hd).1)]; exact hd) n hn); simpa using this
 have lt0 : ∀ x ∈ p0, x.block < W.heap.size := by obtain ⟨m, hm⟩ := h0; exact DataW.trod_lt m _ _ _ hm
 obtain ⟨N0, a0, cs0, rfl, A0, B0, rfl, k0⟩ := open_encB u_prog o_prog (hval 0 26 v0 rfl rfl) h0 (hwt 0 _ _ rfl rfl); clear hA0 hval0; refine (typesChecks_walk N0 a0 A0.A A0.n A0.c B0.A B0.n B0.c W k0 (parW_of_laidP hL)).mono fun e W' ⟨he, bel⟩ => ?_
 subst he
 exact ⟨_, rfl, _, _, _, [], _, [], hW', trodAll_mk1 (shut_bool u_bool _),
  (trodAll_cons_mk (Below.trod laidOut (by kernel_rfl) (of_decide_eq_true (by kernel_rfl)) h0 bel lt0)
   trodAll_mk0), rfl, bel.frame _, fun h => by cases h⟩
end Go.Proofs.YtaeedepojpablaaGreatDoor

namespace Go.Proofs.YtaeedepojpablaaGreatDoor
theorem closedF : joinedFacts Tryz.prog 4 Tryz.f4 Rows.typesChecksSpec Rows.typesChecksRow = true := by
 unfold joinedFacts; simp only [Bool.and_eq_true]; repeat' (with_reducible refine And.intro ?_ ?_)
 all_goals (as_aux_lemma => kernel_rfl)
end Go.Proofs.YtaeedepojpablaaGreatDoor
