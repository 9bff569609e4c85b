/- My own texts PaPr, TEvK, as far as this claim needs them. -/
import Derived.Test.YtaeedepojpablaaGreatDoorZq20
import Derived.Test.YtaeedepojpablaaGreatDoorZq21
set_option linter.unusedVariables false
set_option linter.unusedSimpArgs false
set_option maxRecDepth 1000000
set_option maxHeartbeats 16000000
namespace Go.Proofs.YtaeedepojpablaaGreatDoor
open Go.RowKit
theorem rule_upE {d d' : Nat} (hd : d ≤ d') {w : World} {B : Nat} {cs : List Value} {x : GRule} (h : (Enc.rule d).ok w B cs x) : (Enc.rule d').ok w B cs x := by
 obtain ⟨a, b, h1, h2⟩ := h; exact ⟨a, b, h1, ⟨h2.rel, h2.args, h2.agg, h2.col, SliceIs.up (E := Enc.lit d) (E' := Enc.lit d') rfl (fun cs x hx => lit_up hd hx) h2.body, h2.pos⟩⟩
abbrev oB (A : Option Addr) (k c : Nat) : List Nat := (Value.slice A k c).ownBlock.toList
structure PgR (b1 : Nat) (W : World) (A1 : Option Addr) (k1 c1 : Nat) (L1 : List (GDecl × List Value)) (A2 : Option Addr) (k2 c2 : Nat) (L2 : List (GRule × List Value)) (d : Nat) : Prop where
 own1 : W.ownsRow b1 94 3 (.slice A1 k1 c1) k1 (L1.flatMap (·.2))
 len1 : L1.length = k1
 own2 : W.ownsRow b1 56 6 (.slice A2 k2 c2) k2 (L2.flatMap (·.2))
 len2 : L2.length = k2
 far1 : ∀ p ∈ L1, Enc.decl.ok (sans W (List.range b1 ++ (oB A1 k1 c1 ++ oB A2 k2 c2))) W.heap.size p.2 p.1
 far2 : ∀ p ∈ L2, (Enc.rule d).ok (sans W (List.range b1 ++ (oB A1 k1 c1 ++ oB A2 k2 c2))) W.heap.size p.2 p.1
section
variable {b1 : Nat} {W V : World} {A1 : Option Addr} {k1 c1 : Nat} {L1 : List (GDecl × List Value)} {A2 : Option Addr} {k2 c2 : Nat} {L2 : List (GRule × List Value)} {d : Nat}
theorem PgR.apart (h : PgR b1 W A1 k1 c1 L1 A2 k2 c2 L2 d) {b : Nat} (h1 : (Value.slice A1 k1 c1).ownBlock = some b) (h2 : (Value.slice A2 k2 c2).ownBlock = some b) : False := by
 obtain ⟨x, hx⟩ := own_typeR h.own1 h1; obtain ⟨y, hy⟩ := own_typeR h.own2 h2; rw [hx] at hy; injection hy with hy
 injection hy with _ h3 _
 exact absurd h3 (by decide)
theorem PgR.b1le (h : PgR b1 W A1 k1 c1 L1 A2 k2 c2 L2 d) : ∀ b ∈ oB A1 k1 c1 ++ oB A2 k2 c2, b1 ≤ b ∧ b < W.heap.size := fun b hb => by
 rcases List.mem_append.1 hb with hb | hb
 ·exact own_blk h.own1 (by simpa using hb)
 ·exact own_blk h.own2 (by simpa using hb)
theorem PgR.out (h : PgR b1 W A1 k1 c1 L1 A2 k2 c2 L2 d) {S : List Nat} (ho : Out S W V) (hS : ∀ b ∈ S, b < W.heap.size → b < b1) : PgR b1 V A1 k1 c1 L1 A2 k2 c2 L2 d := by
 have hk := ho.kept (T := List.range b1 ++ (oB A1 k1 c1 ++ oB A2 k2 c2)) (U := List.range b1 ++ (oB A1 k1 c1 ++ oB A2 k2 c2)) (fun b hb hl => List.mem_append_left _ (List.mem_range.2 (hS b hb hl))) (fun _ h _ => h); have ho2 : Out (S.filter (fun b => decide (b < W.heap.size))) W V := ⟨ho.os, ho.tape, ho.output, ho.size, fun b hb hn => ho.block b hb (fun hs => hn (List.mem_filter.2 ⟨hs, by simpa using hb⟩))⟩
 have hno : ∀ b, b1 ≤ b → b ∉ S.filter (fun b => decide (b < W.heap.size)) := fun b hb hm => by
  obtain ⟨h2, h3⟩ := List.mem_filter.1 hm; have := hS b h2 (by simpa using h3); omega
 exact ⟨own_out' h.own1 ho2 (fun b hb => hno b (own_blk h.own1 hb).1), h.len1, own_out' h.own2 ho2 (fun b hb => hno b (own_blk h.own2 hb).1), h.len2, fun p hp => Enc.decl.mono ho.size hk (h.far1 p hp), fun p hp => (Enc.rule d).mono ho.size hk (h.far2 p hp)⟩
theorem PgR.push1 (h : PgR b1 W A1 k1 c1 L1 A2 k2 c2 L2 d) (hb : b1 ≤ W.heap.size) {g : Nat} (hg : g < b1) {A' : Option Addr} {c' : Nat} {vcs : List Value} {x : GDecl} (hown : V.ownsRow b1 94 3 (.slice A' (k1 + 1) c') (k1 + 1) (L1.flatMap (·.2) ++ vcs))
 (hblk : ∀ b, (Value.slice A' (k1 + 1) c').ownBlock = some b → b ∈ oB A1 k1 c1 ∨ W.heap.size ≤ b) (ho : Out (g :: oB A1 k1 c1) W V) (hx : Enc.decl.ok (sans V (List.range W.heap.size ++ oB A' (k1 + 1) c')) V.heap.size vcs x) : PgR b1 V A' (k1 + 1) c' (L1 ++ [(x, vcs)]) A2 k2 c2 L2 d := by
 have hk := ho.kept (T := List.range b1 ++ (oB A1 k1 c1 ++ oB A2 k2 c2)) (U := List.range b1 ++ (oB A' (k1 + 1) c' ++ oB A2 k2 c2)) (fun b hb hl => by
  rcases List.mem_cons.1 hb with rfl | hb
  ·exact List.mem_append_left _ (List.mem_range.2 hg)
  ·exact List.mem_append_right _ (List.mem_append_left _ hb)) (fun b hb hl => by
  rcases List.mem_append.1 hb with hb | hb
  ·exact List.mem_append_left _ hb
  ·rcases List.mem_append.1 hb with hb | hb
   ·rcases hblk b (by simpa using hb) with h1 | h1
    ·exact List.mem_append_right _ (List.mem_append_left _ h1)
    ·omega
   ·exact List.mem_append_right _ (List.mem_append_right _ hb))
 refine ⟨by simpa using hown, by simp [h.len1], own_out' h.own2 ho (fun b hb hm => ?_), h.len2, fun p hp => ?_, fun p hp => (Enc.rule d).mono ho.size hk (h.far2 p hp)⟩
 ·rcases List.mem_cons.1 hm with rfl | hm
  ·have := (own_blk h.own2 hb).1; omega
  ·exact h.apart (by simpa using hm) hb
 ·rcases List.mem_append.1 hp with hp | hp
  ·exact Enc.decl.mono ho.size hk (h.far1 p hp)
  ·obtain rfl : p = (x, vcs) := by simpa using hp
   refine Enc.decl.mono (Nat.le_refl _) ((Out.refl [] V).kept (fun _ h _ => by cases h) (fun b hb' _ => ?_)) hx; rcases List.mem_append.1 hb' with hb' | hb'
   ·exact List.mem_append_left _ (List.mem_range.2 (by have := List.mem_range.1 hb'; omega))
   ·rcases List.mem_append.1 hb' with hb' | hb'
    ·exact List.mem_append_right _ hb'
    ·exact List.mem_append_left _ (List.mem_range.2 (h.b1le b (List.mem_append_right _ hb')).2)
theorem PgR.push2 (h : PgR b1 W A1 k1 c1 L1 A2 k2 c2 L2 d) (hb : b1 ≤ W.heap.size) {g : Nat} (hg : g < b1) {A' : Option Addr} {c' : Nat} {vcs : List Value} {x : GRule} {d2 : Nat} (hown : V.ownsRow b1 56 6 (.slice A' (k2 + 1) c') (k2 + 1) (L2.flatMap (·.2) ++ vcs))
 (hblk : ∀ b, (Value.slice A' (k2 + 1) c').ownBlock = some b → b ∈ oB A2 k2 c2 ∨ W.heap.size ≤ b) (ho : Out (g :: oB A2 k2 c2) W V) (hx : (Enc.rule d2).ok (sans V (List.range W.heap.size ++ oB A' (k2 + 1) c')) V.heap.size vcs x) : PgR b1 V A1 k1 c1 L1 A' (k2 + 1) c' (L2 ++ [(x, vcs)]) (max d d2) := by
 have hk := ho.kept (T := List.range b1 ++ (oB A1 k1 c1 ++ oB A2 k2 c2)) (U := List.range b1 ++ (oB A1 k1 c1 ++ oB A' (k2 + 1) c')) (fun b hb hl => by
  rcases List.mem_cons.1 hb with rfl | hb
  ·exact List.mem_append_left _ (List.mem_range.2 hg)
  ·exact List.mem_append_right _ (List.mem_append_right _ hb)) (fun b hb hl => by
  rcases List.mem_append.1 hb with hb | hb
  ·exact List.mem_append_left _ hb
  ·rcases List.mem_append.1 hb with hb | hb
   ·exact List.mem_append_right _ (List.mem_append_left _ hb)
   ·rcases hblk b (by simpa using hb) with h1 | h1
    ·exact List.mem_append_right _ (List.mem_append_right _ h1)
    ·omega)
 refine ⟨own_out' h.own1 ho (fun b hb hm => ?_), h.len1, by simpa using hown, by simp [h.len2], fun p hp => Enc.decl.mono ho.size hk (h.far1 p hp), fun p hp => ?_⟩
 ·rcases List.mem_cons.1 hm with rfl | hm
  ·have := (own_blk h.own1 hb).1; omega
  ·exact h.apart hb (by simpa using hm)
 ·rcases List.mem_append.1 hp with hp | hp
  ·exact rule_upE (Nat.le_max_left d d2) ((Enc.rule d).mono ho.size hk (h.far2 p hp))
  ·obtain rfl : p = (x, vcs) := by simpa using hp
   refine rule_upE (Nat.le_max_right d d2) ((Enc.rule d2).mono (Nat.le_refl _) ((Out.refl [] V).kept (fun _ h _ => by cases h) (fun b hb' _ => ?_)) hx); rcases List.mem_append.1 hb' with hb' | hb'
   ·exact List.mem_append_left _ (List.mem_range.2 (by have := List.mem_range.1 hb'; omega))
   ·rcases List.mem_append.1 hb' with hb' | hb'
    ·exact List.mem_append_left _ (List.mem_range.2 (h.b1le b (List.mem_append_left _ hb')).2)
    ·exact List.mem_append_right _ hb'
theorem PgR.is (h : PgR b1 W A1 k1 c1 L1 A2 k2 c2 L2 d) (h1 : k1 ≤ reachN) (h2 : k2 ≤ reachN) {base : Nat} (hb : base ≤ b1) : SliceFar Enc.decl W (List.range base) A1 k1 c1 (L1.map (·.1)) ∧ SliceFar (Enc.rule d) W (List.range base) A2 k2 c2 (L2.map (·.1)) := by
 have hr1 : Rows Enc.decl b1 94 W A1 k1 c1 L1 := ⟨h.own1, h.len1, fun p hp => Enc.decl.mono (Nat.le_refl _) ((Out.refl [] W).kept (fun _ h _ => by cases h) (fun b hb' _ => by
  rcases List.mem_append.1 hb' with hb' | hb'
  ·exact List.mem_append_left _ hb'
  ·exact List.mem_append_right _ (List.mem_append_left _ hb'))) (h.far1 p hp)⟩
 have hr2 : Rows (Enc.rule d) b1 56 W A2 k2 c2 L2 := ⟨h.own2, h.len2, fun p hp => (Enc.rule d).mono (Nat.le_refl _) ((Out.refl [] W).kept (fun _ h _ => by cases h) (fun b hb' _ => by
  rcases List.mem_append.1 hb' with hb' | hb'
  ·exact List.mem_append_left _ hb'
  ·exact List.mem_append_right _ (List.mem_append_right _ hb'))) (h.far2 p hp)⟩
 exact ⟨hr1.is h1 hb, hr2.is h2 hb⟩
end
section
variable {B g : Nat} {A : Option Addr} {c : Nat} {T : List GTok} {E : Nat}
structure PgJ (B g : Nat) (A : Option Addr) (c : Nat) (T : List GTok) (E : Nat) (w : World) (pb b1 : Nat) (x : PS × GProg) (W : World) : Prop where
 rd : Rd B g A c T E x.1 W
 deep : x.1.deep = 0
 out : Out [g] w W
 row : ∃ A1 c1 L1 A2 c2 L2 d, W.heap[pb]? = some (.cells #[.slice A1 x.2.decls.length c1, .slice A2 x.2.rules.length c2] 26 (0, 0)) ∧ PgR b1 W A1 x.2.decls.length c1 L1 A2 x.2.rules.length c2 L2 d ∧ L1.map (·.1) = x.2.decls ∧ L2.map (·.1) = x.2.rules
 rr : W.heap[w.heap.size]? = some (.cells #[.slice none 0 0, .slice none 0 0] 26 (0, 0))
 b1 : b1 ≤ W.heap.size
 n1 : x.2.decls.length ≤ 32
 n2 : x.2.rules.length ≤ 64
structure PgB (B g : Nat) (w : World) (pb b1 : Nat) : Prop where
 B : B ≤ w.heap.size
 g : g < w.heap.size
 x : w.heap.size < pb
 b : pb < b1
theorem PgJ.go {w W W' : World} {pb b1 : Nat} {x : PS × GProg} {s' : PS} (hb : PgB B g w pb b1) (h : PgJ B g A c T E w pb b1 x W) (hr : Rd B g A c T E s' W') (ho : Out [g] W W') (hd : s'.deep = x.1.deep) : PgJ B g A c T E w pb b1 (s', x.2) W' := by
 obtain ⟨A1, c1, L1, A2, c2, L2, d, h1, h2, h3, h4⟩ := h.row; have hg := hb.g; have hx := hb.x; have hbb := hb.b
 exact ⟨hr, by dsimp only; rw [hd]; exact h.deep, out_next h.out ho, ⟨A1, c1, L1, A2, c2, L2, d, (ho.block _ (glt h1) (by simp; omega)).trans h1, h2.out ho (fun b hb _ => by simp at hb; omega), h3, h4⟩,
  (ho.block _ (glt h.rr) (by simp; omega)).trans h.rr, Nat.le_trans h.b1 ho.size, h.n1, h.n2⟩
theorem PgJ.on {w W W' : World} {pb b1 : Nat} {x : PS × GProg} (hb : PgB B g w pb b1) (h : PgJ B g A c T E w pb b1 x W) (hB : Below W.heap.size W W') : PgJ B g A c T E w pb b1 x W' :=
 h.go hb (h.rd.on hB) (Out.of_below hB [g]) rfl
def ProgRes (B g : Nat) (A : Option Addr) (c : Nat) (T : List GTok) (E : Nat) (y : PS × GProg) (w : World) (e : Ending) (w' : World) : Prop :=
 ∃ (d : Nat) (a b : Hd), e = .returned (.agg #[a.v, b.v]) ∧ Rd B g A c T E y.1 w' ∧ Out [g] w w' ∧ SliceFar Enc.decl w' (List.range w.heap.size) a.A a.n a.c y.2.decls ∧ SliceFar (Enc.rule d) w' (List.range w.heap.size) b.A b.n b.c y.2.rules
theorem declT_info : (Tryz.prog.info? 94).map (fun i => (i.zero, i.size, i.bytes)) = some (some (.agg #[.string ⟨#[]⟩, .slice none 0 0, .int .i64 0]), 3, 48) := by kernel_rfl
theorem ruleT_info : (Tryz.prog.info? 56).map (fun i => (i.zero, i.size, i.bytes)) = some (some (.agg zrC.toArray), 6, 88) := by kernel_rfl
theorem progL_err (T : List GTok) (E : Nat) {x : PS × GProg} (h : ¬ (x.1.err = 0 ∧ x.1.next < T.length)) : ∀ f, progL T E f x = x
 | 0 => rfl
 | f + 1 => by rw [progL, if_neg h]
theorem PgJ.push1 {w W V : World} {pb b1 : Nat} {s s2 : PS} {p : GProg} {z : GDecl} {A1 A2 A' : Option Addr} {c1 c2 c' : Nat} {L1 : List (GDecl × List Value)} {L2 : List (GRule × List Value)} {d : Nat} {vcs : List Value} (hb : PgB B g w pb b1) (h : PgJ B g A c T E w pb b1 (s, p) W)
 (hP : PgR b1 W A1 p.decls.length c1 L1 A2 p.rules.length c2 L2 d) (hL1 : L1.map (·.1) = p.decls) (hL2 : L2.map (·.1) = p.rules) (hrd : Rd B g A c T E s2 V) (hd : s2.deep = 0)
 (hx : Enc.decl.ok (sans V (List.range W.heap.size ++ (Value.slice A' (p.decls.length + 1) c').ownBlock.toList)) V.heap.size vcs z)
 (hown : V.ownsRow b1 94 3 (.slice A' (p.decls.length + 1) c') (p.decls.length + 1) (L1.flatMap (·.2) ++ vcs)) (hblk : ∀ b, (Value.slice A' (p.decls.length + 1) c').ownBlock = some b → b ∈ (Value.slice A1 p.decls.length c1).ownBlock.toList ∨ W.heap.size ≤ b)
 (ho : Out (g :: (Value.slice A1 p.decls.length c1).ownBlock.toList) W V) (hrow : V.heap[pb]? = some (.cells #[.slice A1 p.decls.length c1, .slice A2 p.rules.length c2] 26 (0, 0))) (hn : p.decls.length + 1 ≤ 32) :
 PgJ B g A c T E w pb b1 (s2, ⟨p.decls ++ [z], p.rules⟩) (V.setCell ⟨pb, 0, none⟩ (.slice A' (p.decls.length + 1) c')) := by
 have hB := hb.B; have hg := hb.g; have hxx := hb.x; have hbb := hb.b; have hb1 := h.b1; have hlen : (p.decls ++ [z]).length = p.decls.length + 1 := by simp
 have hSn : ∀ b ∈ (Value.slice A1 p.decls.length c1).ownBlock.toList, b1 ≤ b := fun b hb => (own_blk hP.own1 (b := b) (by simpa using hb)).1
 have hoS := set_out V pb 0 (.slice A' (p.decls.length + 1) c'); have hP2 := (hP.push1 h.b1 (g := g) (by omega) hown (fun b hb => hblk b hb) ho hx).out hoS (fun b hb _ => by simp at hb; omega); refine ⟨hrd.out hoS (fun b hb _ => by simp at hb; omega), hd, ?_, ⟨A', c', L1 ++ [(z, vcs)], A2, c2, L2, d, ?_, ?_, by simp [hL1], hL2⟩, ?_, ?_, by show (p.decls ++ [z]).length ≤ 32; rw [hlen]; exact hn, h.n2⟩
 ·exact (h.out.trans ho (fun b hb hl => by
   rcases List.mem_cons.1 hb with rfl | hb
   ·simp
   ·have := hSn b hb; omega)).trans hoS (fun b hb hl => by simp at hb; omega)
 ·dsimp only; rw [hlen]; simp [World.setCell, Array.getElem?_modify, hrow]
 ·dsimp only; rw [hlen]; exact hP2
 ·exact (World.heap_setCells_other' (by omega)).trans ((ho.block _ (glt h.rr) (by
   simp only [List.mem_cons, not_or]
   exact ⟨by omega, fun hm => by have := hSn _ hm; omega⟩)).trans h.rr)
 ·rw [World.size_setCell']; exact Nat.le_trans h.b1 ho.size
theorem PgJ.push2 {w W V : World} {pb b1 : Nat} {s s2 : PS} {p : GProg} {z : GRule} {A1 A2 A' : Option Addr} {c1 c2 c' : Nat} {L1 : List (GDecl × List Value)} {L2 : List (GRule × List Value)} {d : Nat} {d2 : Nat} {vcs : List Value} (hb : PgB B g w pb b1) (h : PgJ B g A c T E w pb b1 (s, p) W)
 (hP : PgR b1 W A1 p.decls.length c1 L1 A2 p.rules.length c2 L2 d) (hL1 : L1.map (·.1) = p.decls) (hL2 : L2.map (·.1) = p.rules) (hrd : Rd B g A c T E s2 V) (hd : s2.deep = 0)
 (hx : (Enc.rule d2).ok (sans V (List.range W.heap.size ++ (Value.slice A' (p.rules.length + 1) c').ownBlock.toList)) V.heap.size vcs z)
 (hown : V.ownsRow b1 56 6 (.slice A' (p.rules.length + 1) c') (p.rules.length + 1) (L2.flatMap (·.2) ++ vcs)) (hblk : ∀ b, (Value.slice A' (p.rules.length + 1) c').ownBlock = some b → b ∈ (Value.slice A2 p.rules.length c2).ownBlock.toList ∨ W.heap.size ≤ b)
 (ho : Out (g :: (Value.slice A2 p.rules.length c2).ownBlock.toList) W V) (hrow : V.heap[pb]? = some (.cells #[.slice A1 p.decls.length c1, .slice A2 p.rules.length c2] 26 (0, 0))) (hn : p.rules.length + 1 ≤ 64) :
 PgJ B g A c T E w pb b1 (s2, ⟨p.decls, p.rules ++ [z]⟩) (V.setCell ⟨pb, 1, none⟩ (.slice A' (p.rules.length + 1) c')) := by
 have hB := hb.B; have hg := hb.g; have hxx := hb.x; have hbb := hb.b; have hb1 := h.b1; have hlen : (p.rules ++ [z]).length = p.rules.length + 1 := by simp
 have hSn : ∀ b ∈ (Value.slice A2 p.rules.length c2).ownBlock.toList, b1 ≤ b := fun b hb => (own_blk hP.own2 (b := b) (by simpa using hb)).1
 have hoS := set_out V pb 1 (.slice A' (p.rules.length + 1) c'); have hP2 := (hP.push2 h.b1 (g := g) (by omega) hown (fun b hb => hblk b hb) ho hx).out hoS (fun b hb _ => by simp at hb; omega); refine ⟨hrd.out hoS (fun b hb _ => by simp at hb; omega), hd, ?_, ⟨A1, c1, L1, A', c', L2 ++ [(z, vcs)], max d d2, ?_, ?_, hL1, by simp [hL2]⟩, ?_, ?_, h.n1, by show (p.rules ++ [z]).length ≤ 64; rw [hlen]; exact hn⟩
 ·exact (h.out.trans ho (fun b hb hl => by
   rcases List.mem_cons.1 hb with rfl | hb
   ·simp
   ·have := hSn b hb; omega)).trans hoS (fun b hb hl => by simp at hb; omega)
 ·dsimp only; rw [hlen]; simp [World.setCell, Array.getElem?_modify, hrow]
 ·dsimp only; rw [hlen]; exact hP2
 ·exact (World.heap_setCells_other' (by omega)).trans ((ho.block _ (glt h.rr) (by
   simp only [List.mem_cons, not_or]
   exact ⟨by omega, fun hm => by have := hSn _ hm; omega⟩)).trans h.rr)
 ·rw [World.size_setCell']; exact Nat.le_trans h.b1 ho.size
theorem rprogram_any {s : PS} {w : World} (h : Rd B g A c T E s w) (hd : s.deep = 0) : Calls Tryz.prog 26 #[.pointer (some ⟨g, 0, none⟩)] w (ProgRes B g A c T E (programP T E s) w) := by
 have mixed : Tryz.prog.follows .mixedOrders = true := by kernel_rfl
 have hB := h.size; have hgl := h.glt; have hW := h.within; have hT4 := h.tlen; obtain ⟨Z, HZ⟩ : ∃ Z, Hid (Z = programP T E s) := ⟨_, rfl⟩
 have HZ1 : Hid (progL T E T.length (s, ⟨[], []⟩) = Z) := by show _ = _; rw [HZ.out]; rfl
 have trel : (⟨#[114, 101, 108]⟩ : ByteArray).toList = relW := toList_mk _; have HIs := hZ9 (fun (s' : PS) (V : World) (hR : Rd B g A c T E s' V) => ris_any hR ⟨#[114, 101, 108]⟩); rw [trel] at HIs; obtain ⟨P, HP⟩ : ∃ P : Ending → World → Prop, Hid (P = ProgRes B g A c T E Z w) := ⟨_, rfl⟩
 have HF0 := hZ9 (((Fr.start h).alloc (.cells #[.slice none 0 0, .slice none 0 0] 26)).alloc (.cells #[.slice none 0 0, .slice none 0 0] 26)); rw [← HZ.out, ← HP.out]
 have HFin : Hid (∀ (W V : World) (A1 : Option Addr) (c1 : Nat) (L1 : List (GDecl × List Value)) (A2 : Option Addr) (c2 : Nat) (L2 : List (GRule × List Value)) (d : Nat), PgJ B g A c T E w (w.heap.size + 1) (w.heap.size + 2) Z W → PgR (w.heap.size + 2) W A1 Z.2.decls.length c1 L1 A2 Z.2.rules.length c2 L2 d → L1.map (·.1) = Z.2.decls → L2.map (·.1) = Z.2.rules → Below W.heap.size W V → P (.returned (.agg #[.slice A1 Z.2.decls.length c1, .slice A2 Z.2.rules.length c2])) ((V.setCell ⟨w.heap.size, 0, none⟩ (.slice A1 Z.2.decls.length c1)).setCell ⟨w.heap.size, 1, none⟩ (.slice A2 Z.2.rules.length c2))) := by
  intro W V A1 c1 L1 A2 c2 L2 d hJ hR hL1 hL2 hB1; have ho9 := set2_out V w.heap.size (.slice A1 Z.2.decls.length c1) (.slice A2 Z.2.rules.length c2); have hoV : Out [g] W V := Out.of_below hB1 [g]; have hb1 := hJ.b1; have hR9 := (hR.out hoV (fun b hb _ => by simp at hb; omega)).out ho9 (fun b hb _ => by simp at hb; omega); obtain ⟨k1, k2⟩ := hR9.is (Nat.le_trans hJ.n1 (by decide)) (Nat.le_trans hJ.n2 (by decide)) (base := w.heap.size) (by omega); rw [hL1] at k1; rw [hL2] at k2; rw [HP.out]; exact ⟨d, ⟨A1, _, c1⟩, ⟨A2, _, c2⟩, rfl, (hJ.rd.on hB1).out ho9 (fun b hb _ => by simp at hb; omega), (out_next hJ.out hoV).trans ho9 (fun b hb hl => by simp at hb; omega), k1, k2⟩
 clear h trel HZ; go_enter Tryz.func26, Tryz.ntmps26
 go_wp2_with fail
 have hPB : PgB B g w (w.heap.size + 1) (w.heap.size + 2) := ⟨hB, hgl, by omega, by omega⟩
 have Hpb := hZ9 hPB; obtain ⟨b1, Hb1⟩ : ∃ b1, Hid (b1 = w.heap.size + 2) := ⟨_, rfl⟩
 obtain ⟨pb, Hpb1⟩ : ∃ pb, Hid (pb = w.heap.size + 1) := ⟨_, rfl⟩
 go_loopg [] T.length (fun gk wr => ∃ x, T.length ≤ x.1.next + gk ∧ Hid (progL T E gk x = Z) ∧ Hid (PgJ B g A c T E w (w.heap.size + 1) (w.heap.size + 2) x wr))
 case atStart =>
  refine ⟨(s, ⟨[], []⟩), by dsimp only; omega, HZ1, ?_⟩; refine ⟨HF0.out.rd, hd, HF0.out.out, ⟨none, 0, [], none, 0, [], 0, ?_, ⟨World.ownsRow_nil _ _ _ _, rfl, World.ownsRow_nil _ _ _ _, rfl, fun _ h => (by cases h), fun _ h => (by cases h)⟩, rfl, rfl⟩, ?_, by simp, Nat.zero_le _, Nat.zero_le _⟩
  ·exact HF0.out.row (p := (w.heap.size + 1, _)) (by simp)
  ·exact HF0.out.row (p := (w.heap.size, Obj.cells #[.slice none 0 0, .slice none 0 0] 26 (0, 0))) (by simp)
 case round =>
  clear HF0 HZ1; obtain ⟨x, hgk, HL, HJ⟩ := hrel; have HRd := hZ9 HJ.out.rd; obtain ⟨c0, c1, c2, c3, c4, c5⟩ := HRd.out.cells; have hfn := HRd.out.fine.next; obtain ⟨A1, c1, L1, A2, c2, L2, d, hrow, hR, hL1, hL2⟩ := HJ.out.row; obtain ⟨q0, q1⟩ := facts2 hrow; have hrr := HJ.out.rr; have rf := froz4 hrr; obtain ⟨r0, r1⟩ := facts2 hrr; have HR := hZ9 hR; have HL1 := hZ9 hL1; have HL2 := hZ9 hL2; have Hrw := hZ9 hrow; clear hR hL1 hL2 hrow; by_cases he : x.1.err = 0
  rotate_left
  ·have e0 : (x.1.err == 0) = false := by simp [he]
   have hx : x = Z := by rw [← HL.out]; exact (progL_err T E (fun h => he h.1) _).symm
   subst hx; clear HL; go_wp2_with fail
   go_quiet (fail)
   go_wp2_with fail
   exact bodyPost_ret (v := .agg #[.slice A1 x.2.decls.length c1, .slice A2 x.2.rules.length c2]) (by simp [results, Tryz.results26, go_sem, r0, r1]) rfl (HFin.out _ _ A1 c1 L1 A2 c2 L2 d HJ.out HR.out HL1.out HL2.out (below_drewN _ _ _))
  have e0 : (x.1.err == 0) = true := by simp [he]
  by_cases hlt : x.1.next < T.length
  rotate_left
  ·have i1 : ¬ (x.1.next : Int) < (T.length : Int) := by omega
   have hx : x = Z := by rw [← HL.out]; exact (progL_err T E (fun h => hlt h.2) _).symm
   subst hx; clear HL; go_wp2_with fail
   go_quiet (fail)
   go_wp2_with fail
   exact bodyPost_ret (v := .agg #[.slice A1 x.2.decls.length c1, .slice A2 x.2.rules.length c2]) (by simp [results, Tryz.results26, go_sem, r0, r1]) rfl (HFin.out _ _ A1 c1 L1 A2 c2 L2 d HJ.out HR.out HL1.out HL2.out (below_drewN _ _ _))
  have i1 : (x.1.next : Int) < (T.length : Int) := by omega
  obtain ⟨f, rfl⟩ : ∃ f, gk = f + 1 := ⟨gk - 1, by omega⟩
  have hL := HL.out; rw [progL, if_pos ⟨he, hlt⟩] at hL; clear HL; have HHL := hZ9 hL; clear hL; obtain ⟨xs, p⟩ := x; dsimp only at he hlt HHL HRd c0 c1 c2 c3 c4 c5 e0 i1 hgk hfn q0 q1 HR HL1 HL2 Hrw; obtain ⟨b, Hbb⟩ : ∃ b, Hid (b = isP T E xs relW) := ⟨_, rfl⟩
  rw [← Hbb.out] at HHL; have HI := hZ9 (HIs.out xs); rw [← Hbb.out] at HI; go_wp2_with fail
  go_quiet (fail)
  go_wp2_with fail
  refine (HI.out _ (HRd.out.on (below_drewN _ _ _))).mono ?_; rintro e w1 ⟨rfl, hb1⟩; have HJ1 := hZ9 ((HJ.out.on hPB (below_drewN _ _ _)).on hPB hb1); clear c0 c1 c2 c3 c4 c5 q0 q1 r0 r1 rf hrr HR HL1 HL2 Hrw hb1 HJ HRd; obtain ⟨A1, c1, L1, A2, c2, L2, d, hrow, hR, hL1, hL2⟩ := HJ1.out.row; obtain ⟨q0, q1⟩ := facts2 hrow; dsimp only at hrow hR hL1 hL2 q0 q1; clear hrow hR hL1 hL2; cases b with
  | true =>
    have hX := HHL.out; rw [if_pos rfl] at hX; clear HHL; have HPl := hZ9 (fun (V : World) (hR : Rd B g A c T E xs V) => rplace_any hR); have HFl := hZ9 (fun (V : World) (hR : Rd B g A c T E xs V) => rfail_any hR (peekP T E xs 0).a (peek_le hR.within _ _) 3 (by omega)); have hdf : (failP T xs (peekP T E xs 0).a 3).deep = xs.deep := (fail_adv (E := E) xs HJ1.out.rd.fine.next (peek_le hW _ _) (by omega)).deep; have hfe : (failP T xs (peekP T E xs 0).a 3).next = T.length ∧ ¬ (failP T xs (peekP T E xs 0).a 3).err = 0 := by unfold failP; rw [if_pos he]; exact ⟨rfl, by show ¬ (3 : Int) = 0; decide⟩
    have hdx : xs.deep = 0 := HJ1.out.deep; have hfx : Fine T E xs := HJ1.out.rd.fine; by_cases hk : 32 ≤ p.decls.length
    ·have i2 : (32 : Int) ≤ (p.decls.length : Int) := by omega
     rw [if_pos hk] at hX; have HX := hZ9 hX; clear hX; go_wp2_with fail
     refine (HPl.out _ HJ1.out.rd).mono ?_; rintro e w8 ⟨rfl, hb8⟩; have HJ8 := hZ9 (HJ1.out.on hPB hb8); clear hb8 HJ1; go_wp2_with fail
     refine (HFl.out _ HJ8.out.rd).mono ?_; rintro e w9 ⟨rfl, hr9, ho9⟩; have HJ9 := hZ9 (PgJ.go (s' := failP T xs (peekP T E xs 0).a 3) hPB HJ8.out hr9 ho9 hdf); clear hr9 ho9 HJ8; go_wp2_with fail
     go_roundg f
     case measure => omega
     case rel => exact ⟨_, by dsimp only; rw [hfe.1]; omega, by rw [progL_err T E (fun h => hfe.2 h.1)]; exact HX.out, HJ9.out⟩
    ·have i2 : ¬ (32 : Int) ≤ (p.decls.length : Int) := by omega
     rw [if_neg hk] at hX; have HX := hZ9 hX; clear hX; obtain ⟨z, Hz⟩ : ∃ z, Hid (z = declP T E xs) := ⟨_, rfl⟩
     have HC := hZ9 (fun (V : World) (hR : Rd B g A c T E xs V) => rdecl_any hR); have hdz : z.1.deep = 0 := by rw [Hz.out, (decl_goes hW xs hfx).deep, hdx]
     have hmz : xs.next < z.1.next := by rw [Hz.out]; exact decl_more hW hfx Hbb.out.symm
     rw [← Hz.out] at HC HX; clear Hz; go_wp2_with fail
     refine (HI.out _ HJ1.out.rd).mono ?_; rintro e w2 ⟨rfl, hb2⟩; have HJ2 := hZ9 (HJ1.out.on hPB hb2); clear hb2 HJ1 q0 q1; go_wp2_with fail
     refine (HI.out _ HJ2.out.rd).mono ?_; rintro e w3 ⟨rfl, hb3⟩; have HJ3 := hZ9 (HJ2.out.on hPB hb3); clear hb3 HJ2; go_wp2_with fail
     obtain ⟨A1, c1, L1, A2, c2, L2, d, hrow, hR, hL1, hL2⟩ := HJ3.out.row; obtain ⟨q0, q1⟩ := facts2 hrow; dsimp only at hrow hR hL1 hL2 q0 q1; clear q0 q1; have HR := hZ9 hR; have HL1 := hZ9 hL1; have HL2 := hZ9 hL2; have Hrw := hZ9 hrow; have hb1w := HJ3.out.b1; clear hR hL1 hL2 hrow HI HIs HPl HFl; have hSn : ∀ b ∈ (Value.slice A1 p.decls.length c1).ownBlock.toList, w.heap.size + 2 ≤ b := fun b hb => (own_blk HR.out.own1 (b := b) (by simpa using hb)).1
     have hSl : ∀ b ∈ (Value.slice A1 p.decls.length c1).ownBlock.toList, b < w3.heap.size := fun b hb => (own_blk HR.out.own1 (b := b) (by simpa using hb)).2
     have hnm : ∀ b, b < w.heap.size + 2 → b ∉ (Value.slice A1 p.decls.length c1).ownBlock.toList := fun b hb hm => by have := hSn b hm; omega
     refine pushC_region (n := 61) 0 mixed rfl rfl (by kernel_rfl) (by kernel_rfl) (by kernel_rfl) (w.heap.size + 1) g 0 (w.heap.size + 2) 94 3 48 p.decls.length (.agg #[.string ⟨#[]⟩, .slice none 0 0, .int .i64 0]) A1 c1 (L1.flatMap (·.2)) #[.slice A1 p.decls.length c1, .slice A2 p.rules.length c2] (.pointer (some ⟨g, 0, none⟩)) (.pointer (some ⟨g, 0, none⟩))
      (fun vcs W' => Enc.decl.ok (sans W' (List.range w3.heap.size)) W'.heap.size vcs z.2 ∧ Rd B g A c T E z.1 W') (fun S vcs W' => Enc.decl.ok (sans W' (List.range w3.heap.size ++ S)) W'.heap.size vcs z.2 ∧ Rd B g A c T E z.1 W')
      rfl rfl Hrw.out (by omega) ?_ rfl (fun w => by simp [go_sem]) Tryz.underlying23 (by kernel_rfl) declT_info rfl (by decide) (by decide) HR.out.own1 (hnm _ (by omega)) (hnm _ (by omega)) (by simp [maxLen]; omega) (by omega) hb1w _ Tryz.func53 (by kernel_rfl) (by kernel_rfl) ?_ ?_ ?_ ?_ ?_ ?_
     ·intro a' V hx hbV; simp [execOp, Act.eval, hx, go_sem]
     ·rintro vcs V V' ⟨h1, h2⟩ hb; exact ⟨Enc.decl.mono hb.size ((Out.of_below hb []).kept (fun _ h _ => by cases h) (fun _ h _ => h)) h1, h2.on hb⟩
     ·rintro S vcs V V' ⟨h1, h2⟩ hb; exact ⟨Enc.decl.mono hb.size ((Out.of_below hb []).kept (fun _ h _ => by cases h) (fun _ h _ => h)) h1, h2.on hb⟩
     ·rintro S vcs V V' ⟨h1, h2⟩ hz ho hS; refine ⟨Enc.decl.mono ho.size (ho.kept (T := List.range w3.heap.size) (fun b hb _ => List.mem_range.2 ?_) (fun b hb hl => ?_)) h1, h2.out ho (fun b hb _ => by have := hSn b hb; omega)⟩
      ·exact hSl b hb
      ·rcases List.mem_append.1 hb with hb | hb
       ·exact hb
       ·rcases hS b hb with h3 | h3
        ·exact List.mem_range.2 (hSl b h3)
        ·omega
     ·rintro vcs V V' ⟨h1, h2⟩ hz ho; exact ⟨Enc.decl.mono ho.size (ho.kept (T := List.range w3.heap.size) (fun b hb _ => List.mem_range.2 (hSl b hb)) (fun b hb hl => hb)) h1, h2.out ho (fun b hb _ => by have := hSn b hb; omega)⟩
     ·intro V hbV hzV; refine (HC.out V (HJ3.out.rd.on hbV)).mono ?_; rintro r V' ⟨a2, rfl, h1, h2, h3⟩; rw [hzV] at h3; exact ⟨declC z.2 a2, rfl, rfl, by simp [Value.oneCell'], ⟨⟨a2, rfl, h3⟩, h1⟩, h2⟩
     ·rintro u V vcs A' c' hl ⟨hx, hrd⟩ hown hblk ho hrow; have HJ9 := hZ9 (PgJ.push1 hPB HJ3.out HR.out HL1.out HL2.out hrd hdz hx hown hblk ho hrow (by omega)); clear hx hrd hown hblk ho hrow HR HL1 HL2 Hrw HC hSn hSl hnm hl HJ3; simp only [List.foldl_cons, List.foldl_nil, Act.put, List.setIfInBounds_toArray, List.set_cons_zero, List.set_cons_succ]; generalize V.setCell ⟨w.heap.size + 1, 0, none⟩ (.slice A' (p.decls.length + 1) c') = V2 at *; go_wp2_with fail
      go_roundg f
      case measure => omega
      case rel => exact ⟨_, by dsimp only; omega, HX.out, HJ9.out⟩
  | false =>
    have hX := HHL.out; rw [if_neg (by decide)] at hX; clear HHL; have HPl := hZ9 (fun (V : World) (hR : Rd B g A c T E xs V) => rplace_any hR); have HFl := hZ9 (fun (V : World) (hR : Rd B g A c T E xs V) => rfail_any hR (peekP T E xs 0).a (peek_le hR.within _ _) 3 (by omega)); have hdf : (failP T xs (peekP T E xs 0).a 3).deep = xs.deep := (fail_adv (E := E) xs HJ1.out.rd.fine.next (peek_le hW _ _) (by omega)).deep; have hfe : (failP T xs (peekP T E xs 0).a 3).next = T.length ∧ ¬ (failP T xs (peekP T E xs 0).a 3).err = 0 := by unfold failP; rw [if_pos he]; exact ⟨rfl, by show ¬ (3 : Int) = 0; decide⟩
    have hdx : xs.deep = 0 := HJ1.out.deep; have hfx : Fine T E xs := HJ1.out.rd.fine; go_wp2_with fail
    refine (HI.out _ HJ1.out.rd).mono ?_; rintro e w2 ⟨rfl, hb2⟩; have HJ2 := hZ9 (HJ1.out.on hPB hb2); clear hb2 HJ1 q0 q1; obtain ⟨A1, c1, L1, A2, c2, L2, d, hrow, hR, hL1, hL2⟩ := HJ2.out.row; obtain ⟨q0, q1⟩ := facts2 hrow; dsimp only at hrow hR hL1 hL2 q0 q1; by_cases hk : 64 ≤ p.rules.length
    ·have i2 : (64 : Int) ≤ (p.rules.length : Int) := by omega
     rw [if_pos hk] at hX; have HX := hZ9 hX; clear hX; go_wp2_with fail
     refine (HPl.out _ HJ2.out.rd).mono ?_; rintro e w8 ⟨rfl, hb8⟩; have HJ8 := hZ9 (HJ2.out.on hPB hb8); clear hb8 HJ2; go_wp2_with fail
     refine (HFl.out _ HJ8.out.rd).mono ?_; rintro e w9 ⟨rfl, hr9, ho9⟩; have HJ9 := hZ9 (PgJ.go (s' := failP T xs (peekP T E xs 0).a 3) hPB HJ8.out hr9 ho9 hdf); clear hr9 ho9 HJ8; go_wp2_with fail
     go_roundg f
     case measure => omega
     case rel => exact ⟨_, by dsimp only; rw [hfe.1]; omega, by rw [progL_err T E (fun h => hfe.2 h.1)]; exact HX.out, HJ9.out⟩
    ·have i2 : ¬ (64 : Int) ≤ (p.rules.length : Int) := by omega
     rw [if_neg hk] at hX; have HX := hZ9 hX; clear hX; obtain ⟨z, Hz⟩ : ∃ z, Hid (z = ruleP T E xs) := ⟨_, rfl⟩
     have HC := hZ9 (fun (V : World) (hR : Rd B g A c T E xs V) => rrule_any hR hdx); have hdz : z.1.deep = 0 := by rw [Hz.out, (rule_goes hW xs hfx).deep, hdx]
     have hmz : xs.next < z.1.next := by rw [Hz.out]; exact rule_more hW hfx hlt
     rw [← Hz.out] at HC HX; clear Hz; go_wp2_with fail
     clear hrow hR hL1 hL2; refine (HI.out _ HJ2.out.rd).mono ?_; rintro e w3 ⟨rfl, hb3⟩; have HJ3 := hZ9 (HJ2.out.on hPB hb3); clear hb3 HJ2 q0 q1; go_wp2_with fail
     obtain ⟨A1, c1, L1, A2, c2, L2, d, hrow, hR, hL1, hL2⟩ := HJ3.out.row; obtain ⟨q0, q1⟩ := facts2 hrow; dsimp only at hrow hR hL1 hL2 q0 q1; clear q0 q1; have HR := hZ9 hR; have HL1 := hZ9 hL1; have HL2 := hZ9 hL2; have Hrw := hZ9 hrow; have hb1w := HJ3.out.b1; clear hR hL1 hL2 hrow HI HIs HPl HFl; have hSn : ∀ b ∈ (Value.slice A2 p.rules.length c2).ownBlock.toList, w.heap.size + 2 ≤ b := fun b hb => (own_blk HR.out.own2 (b := b) (by simpa using hb)).1
     have hSl : ∀ b ∈ (Value.slice A2 p.rules.length c2).ownBlock.toList, b < w3.heap.size := fun b hb => (own_blk HR.out.own2 (b := b) (by simpa using hb)).2
     have hnm : ∀ b, b < w.heap.size + 2 → b ∉ (Value.slice A2 p.rules.length c2).ownBlock.toList := fun b hb hm => by have := hSn b hm; omega
     refine pushC_region (n := 61) 0 mixed rfl rfl (by kernel_rfl) (by kernel_rfl) (by kernel_rfl) (w.heap.size + 1) g 1 (w.heap.size + 2) 56 6 88 p.rules.length (.agg zrC.toArray) A2 c2 (L2.flatMap (·.2)) #[.slice A1 p.decls.length c1, .slice A2 p.rules.length c2] (.pointer (some ⟨g, 0, none⟩)) (.pointer (some ⟨g, 0, none⟩))
      (fun vcs W' => (∃ d2, (Enc.rule d2).ok (sans W' (List.range w3.heap.size)) W'.heap.size vcs z.2) ∧ Rd B g A c T E z.1 W') (fun S vcs W' => (∃ d2, (Enc.rule d2).ok (sans W' (List.range w3.heap.size ++ S)) W'.heap.size vcs z.2) ∧ Rd B g A c T E z.1 W')
      rfl rfl Hrw.out (by omega) ?_ rfl (fun w => by simp [go_sem]) Tryz.underlying24 (by kernel_rfl) ruleT_info rfl (by decide) (by decide) HR.out.own2 (hnm _ (by omega)) (hnm _ (by omega)) (by simp [maxLen]; omega) (by omega) hb1w _ Tryz.func54 (by kernel_rfl) (by kernel_rfl) ?_ ?_ ?_ ?_ ?_ ?_
     ·intro a' V hx hbV; simp [execOp, Act.eval, hx, go_sem]
     ·rintro vcs V V' ⟨⟨d2, h1⟩, h2⟩ hb; exact ⟨⟨d2, (Enc.rule d2).mono hb.size ((Out.of_below hb []).kept (fun _ h _ => by cases h) (fun _ h _ => h)) h1⟩, h2.on hb⟩
     ·rintro S vcs V V' ⟨⟨d2, h1⟩, h2⟩ hb; exact ⟨⟨d2, (Enc.rule d2).mono hb.size ((Out.of_below hb []).kept (fun _ h _ => by cases h) (fun _ h _ => h)) h1⟩, h2.on hb⟩
     ·rintro S vcs V V' ⟨⟨d2, h1⟩, h2⟩ hz ho hS; refine ⟨⟨d2, (Enc.rule d2).mono ho.size (ho.kept (T := List.range w3.heap.size) (fun b hb _ => List.mem_range.2 ?_) (fun b hb hl => ?_)) h1⟩, h2.out ho (fun b hb _ => by have := hSn b hb; omega)⟩
      ·exact hSl b hb
      ·rcases List.mem_append.1 hb with hb | hb
       ·exact hb
       ·rcases hS b hb with h3 | h3
        ·exact List.mem_range.2 (hSl b h3)
        ·omega
     ·rintro vcs V V' ⟨⟨d2, h1⟩, h2⟩ hz ho; exact ⟨⟨d2, (Enc.rule d2).mono ho.size (ho.kept (T := List.range w3.heap.size) (fun b hb _ => List.mem_range.2 (hSl b hb)) (fun b hb hl => hb)) h1⟩, h2.out ho (fun b hb _ => by have := hSn b hb; omega)⟩
     ·intro V hbV hzV; refine (HC.out V (HJ3.out.rd.on hbV)).mono ?_; rintro r V' ⟨d2, a2, p2, rfl, h1, h2, h3⟩; rw [hzV] at h3; exact ⟨ruleC z.2 a2 p2, rfl, rfl, by simp [Value.oneCell'], ⟨⟨d2, a2, p2, rfl, h3⟩, h1⟩, h2⟩
     ·rintro u V vcs A' c' hl ⟨⟨d2, hx⟩, hrd⟩ hown hblk ho hrow; have HJ9 := hZ9 (PgJ.push2 hPB HJ3.out HR.out HL1.out HL2.out hrd hdz hx hown hblk ho hrow (by omega)); clear hx hrd hown hblk ho hrow HR HL1 HL2 Hrw HC hSn hSl hnm hl HJ3; simp only [List.foldl_cons, List.foldl_nil, Act.put, List.setIfInBounds_toArray, List.set_cons_zero, List.set_cons_succ]; generalize V.setCell ⟨w.heap.size + 1, 1, none⟩ (.slice A' (p.rules.length + 1) c') = V2 at *; go_wp2_with fail
      go_roundg f
      case measure => omega
      case rel => exact ⟨_, by dsimp only; omega, HX.out, HJ9.out⟩
end
end Go.Proofs.YtaeedepojpablaaGreatDoor

namespace Go.Proofs.YtaeedepojpablaaGreatDoor
open Go.RowKit
def kindB (k : Int) : Bool := decide (k = 1) || decide (k = 2)
theorem kind_any (k : Int) (w : World) : Calls Tryz.prog 94 #[.int .i64 k] w (RetBool (kindB k) w) := by
 by_cases h1 : k = 1
 ·subst h1; go_enter Tryz.func94, Tryz.ntmps94
  go_wp2
  go_ret; exact ⟨rfl, Below.refl _ _⟩
 ·have e1 : (k == 1) = false := by simp [h1]
  have HB : Hid (kindB k = (k == 2)) := by show _ = _; simp [kindB, h1]; rw [Bool.eq_iff_iff]; simp
  clear h1; go_enter Tryz.func94, Tryz.ntmps94
  go_wp2
  go_ret; exact ⟨by rw [HB.out]; rfl, Below.refl _ _⟩
theorem ev1K_any (x : Int) (g : Nat) (w : World) (hg : w.cell? ⟨g, 0, none⟩ = some (.func (.func 94) #[] #[])) (HC : Hid (∀ W, Below w.heap.size w W → Calls Tryz.prog 94 #[.int .i64 x] W (RetBool (kindB x) W))) :
 Calls Tryz.prog 137 #[.int .i64 x, .pointer (some ⟨g, 0, none⟩)] w (RetBool (!kindB x) w) := by
 have cg := hg; clear hg; generalize kindB x = B at *; go_enter Tryz.func137, Tryz.ntmps137
 go_wp2_with fail
 refine (HC.out _ (by first | exact Below.refl _ _ | exact belowA (Below.refl _ _) _)).mono ?_; rintro e w1 ⟨rfl, hb⟩; have Hb := hZ9 hb; clear hb; go_wp2_with fail
 go_ret; exact ⟨rfl, Hb.out⟩
theorem evIK_any (A : Option Addr) (n c : Nat) (l : List Int) (g : Nat) (w : World) (hl : SliceIs Enc.int w w.heap.size A n c l) (hg : w.cell? ⟨g, 0, none⟩ = some (.func (.func 94) #[] #[]))
 (HC : Hid (∀ (x : Int) W, fits x → Below w.heap.size w W → Calls Tryz.prog 94 #[.int .i64 x] W (RetBool (kindB x) W))) :
 Calls Tryz.prog 170 #[.slice A n c, .func (.func 137) #[] #[.pointer (some ⟨g, 0, none⟩)]] w (fun e w' => ∃ k : Int, e = .returned (.int .i64 k) ∧ decide (0 ≤ k) = !(l.all kindB) ∧ Below w.heap.size w w') := by
 have hn := hl.bound; have HL := hZ9 hl; have hlen := hZ9 hl.1; have Hg := hZ9 hg; clear hl hg; go_enter Tryz.func170, Tryz.ntmps170
 go_wp2_with fail
 go_loopw [5, 8] (fun _ i wr => ∃ k : Nat, k ≤ n ∧ i = .int .i64 k ∧ Hid ((l.take k).all kindB = true) ∧ Below w.heap.size w wr) (fun _ i _ => n - (intOf i).toNat)
 case atStart => exact ⟨0, by omega, rfl, by simp [Hid], Below.refl _ _⟩
 case round =>
  obtain ⟨k, hk, rfl, hpre, hbr⟩ := hrel; by_cases hlt : k < n
  ·have HLr := (HL.out.below hbr)
   obtain ⟨b, o, x, rfl, hbb, hx, z0, f0⟩ := HLr.int_at hlt; have hokx : fits x := f0; have C := hZ9 (ev1K_any x g wr (below_cell hbr Hg.out) (fun W hW => HC.out x W (hokx) (below_next hbr hW))); have i0 : (0 : Int) ≤ (k : Int) := by omega
   have i1 : (k : Int) < (n : Int) := by omega
   have HT : Hid ((l.take (k + 1)).all kindB = kindB x) := by
    show _ = _; obtain ⟨g1, g2⟩ := List.getElem?_eq_some_iff.1 hx.out; rw [List.take_succ_eq_append_getElem g1, g2, List.all_append, hpre.out]; simp
   have HF : Hid (kindB x = false → l.all kindB = false) := fun h => by
    rw [List.all_eq_false]; exact ⟨x, List.mem_of_getElem? hx.out, by simp [h]⟩
   clear HLr hokx; generalize kindB x = B at *; cases B with
   | true =>
     clear HF; go_wp2_with fail
     refine C.out.mono ?_; rintro e w1 ⟨rfl, hb⟩; have Hb := hZ9 hb; clear hb; go_wp2_with fail
     go_roundw
     case rel => exact ⟨k + 1, by omega, by go_num, HT, below_next hbr Hb.out⟩
     case measure => simp [intOf]; omega
   | false =>
     have HF' : Hid (l.all kindB = false) := HF.out rfl; clear HF; go_wp2_with fail
     refine C.out.mono ?_; rintro e w1 ⟨rfl, hb⟩; have Hb := hZ9 hb; clear hb; go_wp2_with fail
     go_ret; exact ⟨_, rfl, by rw [HF'.out]; simp, below_next hbr Hb.out⟩
  ·have i1 : ¬ (k : Int) < (n : Int) := by omega
   have HA : Hid (l.all kindB = true) := by
    show _ = _; have h := hpre.out; rw [List.take_of_length_le (by have := hlen.out; omega)] at h; exact h
   go_wp2_with fail
   go_ret; exact ⟨_, rfl, by rw [HA.out]; rfl, hbr⟩
theorem everyK_any (A : Option Addr) (n c : Nat) (l : List Int) (w : World) (hl : SliceIs Enc.int w w.heap.size A n c l)
 (HC : Hid (∀ (x : Int) W, fits x → Below w.heap.size w W → Calls Tryz.prog 94 #[.int .i64 x] W (RetBool (kindB x) W))) :
 Calls Tryz.prog 96 #[.slice A n c, .func (.func 94) #[] #[]] w (RetBool (l.all kindB) w) := by
 have hba : Below w.heap.size w (w.alloc (.cells #[.func (.func 94) #[] #[]] 188)) := belowA (Below.refl _ _) _; have C := hZ9 (evIK_any A n c l w.heap.size (w.alloc (.cells #[.func (.func 94) #[] #[]] 188)) (hl.keep hba) ((cell_of_row _ _ 0 _ _ _ (heapNew rfl)).trans rfl) (fun x W h hW => HC.out x W h (below_next hba hW))); generalize l.all kindB = B at *; clear hl HC
 have CC : Hid (Calls Tryz.prog 136 #[.slice A n c, .func (.func 137) #[] #[.pointer (some ⟨w.heap.size, 0, none⟩)]] (w.alloc (.cells #[.func (.func 94) #[] #[]] 188)) (RetBool (!B) (w.alloc (.cells #[.func (.func 94) #[] #[]] 188)))) := by
  show Calls _ _ _ _ _; generalize w.alloc (.cells #[.func (.func 94) #[] #[]] 188) = wb at *; go_enter Tryz.func136, Tryz.ntmps136
  go_wp2_with fail
  refine C.out.mono ?_; rintro e w1 ⟨k, rfl, hk, hb⟩; have Hb := hZ9 hb; have Hk := hZ9 hk; clear hb hk; go_wp2_with fail
  go_ret; exact ⟨by rw [← Hk.out]; rfl, Hb.out⟩
 clear C; go_enter Tryz.func96, Tryz.ntmps96
 go_wp2_with fail
 refine CC.out.mono ?_; rintro e w1 ⟨rfl, hb⟩; have Hb := hZ9 hb; clear hb CC; go_wp2_with fail
 go_ret; exact ⟨by cases B <;> rfl, below_next hba Hb.out⟩
end Go.Proofs.YtaeedepojpablaaGreatDoor
