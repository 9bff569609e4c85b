/- My own texts TyLaw, TyPl, TyLw, TyKi, TyFa, as far as this claim needs them. -/
import Derived.Test.YtaeedepojpablaaGreatDoorZqa2
set_option linter.unusedVariables false
set_option linter.unusedSimpArgs false
set_option maxRecDepth 1000000
set_option maxHeartbeats 16000000
namespace Go.Proofs.YtaeedepojpablaaGreatDoor
open Go.RowKit
theorem kput_told {l : Kinds} (ho : KOk l) {v : ByteArray} {k : Int} (hv : v.size ≠ 0) (hk : k ≠ 0) : kget (kput l v k) v ≠ 0 := by
 by_cases h : kget l v = 0
 ·have hm := (kget_none ho).1 h
  have hn : kvGet l v = none := by
   cases hx : kvGet l v with
   | none => rfl
   | some x =>
     exfalso; unfold kvGet at hx; cases hf : l.find? (fun p => p.1 == v) with
     | none => rw [hf] at hx; cases hx
     | some p =>
       have h1 := List.mem_of_find?_eq_some hf; have h2 := List.find?_some hf; exact hm (List.mem_map.2 ⟨p, h1, by simpa using h2⟩)
  unfold kput; rw [if_neg (by simp [hv, hk, h]), kget_snoc, if_pos hn, if_pos rfl]; exact hk
 ·rw [kput_keep h]; exact h
theorem argsK_keep {ks : List Int} {but : Int} {v : ByteArray} : ∀ {l : Kinds} (r : List GTold) (i : Nat), kget l v ≠ 0 → kget (argsK ks but l r i) v = kget l v
 | _, [], _, _ => rfl
 | l, t :: r, i, h => by
   rw [argsK]; split
   ·have h1 := kput_keep (w := t.x) (k := ks.getD i 0) h; rw [argsK_keep r (i + 1) (by rw [h1]; exact h), h1]
   ·exact argsK_keep r (i + 1) h
theorem argsK_told {ks : List Int} {but : Int} (hks : ∀ k ∈ ks, k ≠ 0) : ∀ {l : Kinds} (r : List GTold) (i j : Nat) (t : GTold), KOk l → r[j]? = some t → t.x.size ≠ 0 → ((i + j : Nat) : Int) ≠ but → i + j < ks.length → kget (argsK ks but l r i) t.x ≠ 0
 | _, [], _, _, _, _, hj, _, _, _ => by simp at hj
 | l, u :: r, i, 0, t, ho, hj, hx, hb, hl => by
   simp only [List.getElem?_cons_zero, Option.some.injEq] at hj; subst hj; rw [argsK, if_pos ⟨by simpa using hb, by simpa using hl⟩]
   have h1 : kget (kput l u.x (ks.getD i 0)) u.x ≠ 0 := kput_told ho hx (by
    rw [List.getD_eq_getElem?_getD, List.getElem?_eq_getElem (by simpa using hl)]
    exact hks _ (List.getElem_mem _))
   rw [argsK_keep r (i + 1) h1]; exact h1
 | l, u :: r, i, j + 1, t, ho, hj, hx, hb, hl => by
   rw [argsK]; refine argsK_told hks r (i + 1) j t ?_ (by simpa using hj) hx (by rw [show i + 1 + j = i + (j + 1) by omega]; exact hb) (by omega); split
   ·exact ho.put _ _
   ·exact ho
theorem fitsK_kind {l : Kinds} {t : GTold} {k : Int} (h : fitsK l t k = true) : (t.x.size ≠ 0 → kget l t.x ≠ 0 → kget l t.x = k) ∧ (t.x.size = 0 → t.v.k ≠ 0 → t.v.k = k) := by
 unfold fitsK at h; simp only [Bool.or_eq_true, decide_eq_true_eq] at h; constructor
 ·intro h1 h2; rw [if_pos h1] at h; rcases h with h | h
  ·exact absurd h h2
  ·exact h
 ·intro h1 h2; rw [if_neg (by simp [h1])] at h; rcases h with h | h
  ·exact absurd h h2
  ·exact h
end Go.Proofs.YtaeedepojpablaaGreatDoor

namespace Go.Proofs.YtaeedepojpablaaGreatDoor
theorem litErr_none {ds : List GDecl} {l : Kinds} {y : GLit} {r : List GLit} (h : litErr ds l y = 0) : bodyErr ds l (y :: r) = bodyErr ds l r := by
 show (if _ then _ else _) = _; rw [if_neg (by simp [h])]
theorem litErr_some {ds : List GDecl} {l : Kinds} {y : GLit} {r : List GLit} (h : litErr ds l y ≠ 0) : bodyErr ds l (y :: r) = (y.pos, litErr ds l y) := by
 show (if _ then _ else _) = _; rw [if_pos h]
end Go.Proofs.YtaeedepojpablaaGreatDoor

namespace Go.Proofs.YtaeedepojpablaaGreatDoor
theorem okArgs_at {l : Kinds} {agg col : Int} {ks : List Int} : ∀ {r : List GTold} {i j : Nat} {t : GTold}, okArgs l agg col ks r i = true → r[j]? = some t → okArg l agg col (i + j) t (ks.getD (i + j) 0) = true
 | [], _, _, _, _, h => by simp at h
 | u :: r, i, 0, t, h, hj => by
   simp only [List.getElem?_cons_zero, Option.some.injEq] at hj; subst hj; rw [okArgs, Bool.and_eq_true] at h; exact h.1
 | u :: r, i, j + 1, t, h, hj => by
   rw [okArgs, Bool.and_eq_true] at h; have := okArgs_at (j := j) h.2 (by simpa using hj); rw [show i + 1 + j = i + (j + 1) by omega] at this; exact this
theorem atom_fit {ds : List GDecl} {l : Kinds} {a : GAtom} {agg col : Int} (h : atomErr ds l a agg col = 0) :
 idxD ds a.rel ≠ none ∧ (kindsD ds a.rel).length = a.args.length ∧ okArgs l agg col (kindsD ds a.rel) a.args 0 = true := by
 unfold atomErr at h; split at h
 ·cases h
 ·rename_i h1
  split at h
  ·cases h
  ·rename_i h2
   split at h
   ·rename_i h3; exact ⟨h1, by simpa using h2, h3⟩
   ·cases h
theorem ruleErr_none {ds : List GDecl} {x : GRule} (h : (ruleErr ds x).2 = 0) : atomErr ds (kindsR ds x) x.head x.agg (colK x) = 0 ∧ ∀ y ∈ x.body, litErr ds (kindsR ds x) y = 0 := by
 unfold ruleErr at h; dsimp only at h; split at h
 ·rename_i h1; exact absurd h h1
 ·rename_i h1
  refine ⟨by simpa using h1, ?_⟩; generalize kindsR ds x = l at h
  have : ∀ b : List GLit, (bodyErr ds l b).2 = 0 → ∀ y ∈ b, litErr ds l y = 0 := by
   intro b; induction b with
   | nil => intro _ y hy; cases hy
   | cons z b ih =>
     intro hb y hy; by_cases hz : litErr ds l z = 0
     ·rw [litErr_none hz] at hb; rcases List.mem_cons.1 hy with rfl | hy
      ·exact hz
      ·exact ih hb y hy
     ·rw [litErr_some hz] at hb; exact absurd hb hz
  exact this _ h
theorem rulesErr_none {ds : List GDecl} : ∀ {l : List GRule}, (rulesErr ds l).2 = 0 → ∀ x ∈ l, (ruleErr ds x).2 = 0
 | [], _, x, hx => by cases hx
 | y :: l, h, x, hx => by
   rw [rulesErr] at h; by_cases hy : (ruleErr ds y).2 = 0
   ·rw [if_neg (by simp [hy])] at h; rcases List.mem_cons.1 hx with rfl | hx
    ·exact hy
    ·exact rulesErr_none h x hx
   ·rw [if_pos hy] at h; exact absurd h hy
theorem tyErr_none {p : GProg} (h : (tyErr p).2 = 0) : formedB p = true ∧ ∀ x ∈ p.rules, (ruleErr p.decls x).2 = 0 := by
 unfold tyErr at h; split at h
 ·cases h
 ·rename_i h1
  refine ⟨by simpa using h1, ?_⟩; split at h
  ·cases h
  ·exact rulesErr_none h
theorem kinds_nz {p : GProg} (hf : formedB p = true) (r : ByteArray) : ∀ k ∈ kindsD p.decls r, k ≠ 0 := by
 intro k hk; cases hi : idxD p.decls r with
 | none => rw [kindsD_none hi] at hk; cases hk
 | some i =>
   have hlt := idxD_lt hi; rw [kindsD_some hi (List.getElem?_eq_getElem hlt)] at hk; have hd := (formed_decl hf).2 _ (List.getElem_mem hlt); unfold declB at hd; simp only [Bool.and_eq_true, decide_eq_true_eq] at hd; have := List.all_eq_true.1 hd.2.2 k hk; unfold kindB at this; intro h0; subst h0; simp at this
theorem fit_kind {l : Kinds} {t : GTold} {k : Int} (h : fitsK l t k = true) (ht : t.x.size ≠ 0 → kget l t.x ≠ 0) (hv : t.x.size = 0 → t.v.k ≠ 0) : (if t.x.size = 0 then t.v.k else kget l t.x) = k := by
 obtain ⟨h1, h2⟩ := fitsK_kind h; split
 ·exact h2 ‹_› (hv ‹_›)
 ·exact h1 ‹_› (ht ‹_›)
theorem atom_told {ds : List GDecl} {l0 l : Kinds} {a : GAtom} {agg col but : Int} {vs : List ByteArray} (ho : KOk l0) (hnz : ∀ k ∈ kindsD ds a.rel, k ≠ 0) (hk : Told vs (atomK ds l0 a but) l) (h : atomErr ds l a agg col = 0) (hv : ∀ t ∈ a.args, t.x.size = 0 → t.v.k ≠ 0)
 {j : Nat} {t : GTold} (hj : a.args[j]? = some t) (hb : (j : Int) ≠ but) (hc : ¬ ((j : Int) = col ∧ (agg = 1 ∨ agg = 2))) : (if t.x.size = 0 then t.v.k else kget l t.x) = (kindsD ds a.rel).getD j 0 := by
 obtain ⟨-, h2, h3⟩ := atom_fit h; have hlt := (List.getElem?_eq_some_iff.1 hj).1; have h4 := okArgs_at h3 hj; rw [Nat.zero_add] at h4
 have h5 : fitsK l t ((kindsD ds a.rel).getD j 0) = true := by
  unfold okArg at h4; rw [if_neg (fun e => hc ⟨e.1, .inl e.2⟩), if_neg (fun e => hc ⟨e.1, .inr e.2⟩)] at h4; exact h4
 refine fit_kind h5 (fun hx => ?_) (hv t (List.mem_of_getElem? hj)); have h6 : kget (atomK ds l0 a but) t.x ≠ 0 := argsK_told hnz a.args 0 j t ho hj hx (by simpa using hb) (by omega); rw [hk.keep _ h6]; exact h6
theorem bodyS_at {ds : List GDecl} {x : GRule} {i : Nat} {y : GLit} (hy : x.body[i]? = some y) : ∃ l0, KOk l0 ∧ Told (varsR x) (atomK ds l0 y.atom (-1)) (kindsR ds x) := by
 obtain ⟨hi, he⟩ := List.getElem?_eq_some_iff.1 hy; have hb : x.body = x.body.take i ++ y :: x.body.drop (i + 1) := by rw [← he, List.getElem_cons_drop, List.take_append_drop]
 refine ⟨(x.body.take i).foldl (fun l y => atomK ds l y.atom (-1)) (atomK ds [] x.head (colK x)), ?_, ?_⟩
 ·exact (Told.head.trans (Told.bodyS _ _ fun z hz => varsR_body z (List.mem_of_mem_take hz))).ok KOk.nil
 ·have h1 : startK ds x = (x.body.drop (i + 1)).foldl (fun l y => atomK ds l y.atom (-1)) (atomK ds ((x.body.take i).foldl (fun l y => atomK ds l y.atom (-1)) (atomK ds [] x.head (colK x))) y.atom (-1)) := by
   unfold startK; conv => lhs; rw [hb]
   rw [List.foldl_append, List.foldl_cons]
  unfold kindsR; refine Told.trans ?_ (Told.rounds varsR_body _ _); rw [h1]; exact Told.bodyS _ _ fun z hz => varsR_body z (List.mem_of_mem_drop hz)
theorem headS_at {ds : List GDecl} {x : GRule} : Told (varsR x) (atomK ds [] x.head (colK x)) (kindsR ds x) :=
 (Told.bodyS _ _ varsR_body).trans (Told.rounds varsR_body _ _)
end Go.Proofs.YtaeedepojpablaaGreatDoor

namespace Go.Proofs.YtaeedepojpablaaGreatDoor
open Go.RowKit
theorem KMap.below {w w' : World} {v : Value} {l : Kinds} (h : KMap w v l) (hb : Below w.heap.size w w') : KMap w' v l := by
 rcases h with h | ⟨km, h1, h2⟩
 ·exact .inl h
 ·exact .inr ⟨km, h1, h2.below hb h2.lt⟩
end Go.Proofs.YtaeedepojpablaaGreatDoor

namespace Go.Proofs.YtaeedepojpablaaGreatDoor
open Go.RowKit
def Enc.atm : Enc (GAtom × Hd) where
 sz := 2
 ok w B cs p := cs = [.string p.1.rel, p.2.v] ∧ SliceIs Enc.told w B p.2.A p.2.n p.2.c p.1.args
 mono hB hk h := ⟨h.1, h.2.mono' hB hk⟩
 len h := by rw [h.1]; rfl
theorem SliceIs.atm_at {w : World} {B : Nat} {A : Option Addr} {n c : Nat} {l : List (GAtom × Hd)} (h : SliceIs Enc.atm w B A n c l) {i : Nat} (hi : i < n) :
 ∃ b o x, A = some ⟨b, o, none⟩ ∧ b < B ∧ Hid (l[i]? = some x) ∧ w.cell? ⟨b, o + i * 2, none⟩ = some (.string x.1.rel) ∧ w.cell? ⟨b, o + i * 2 + 1, none⟩ = some x.2.v ∧ SliceIs Enc.told w B x.2.A x.2.n x.2.c x.1.args := by
 obtain ⟨b, o, x, cs, hA, hb, hx, ⟨rfl, hs⟩, hc⟩ := h.at_ hi; exact ⟨b, o, x, hA, hb, hx, by simpa [Enc.atm] using hc 0 _ rfl, by simpa [Enc.atm] using hc 1 _ rfl, hs⟩
def atC (p : GAtom × Hd) : List Value := [.string p.1.rel, p.2.v]
theorem atom_info : (Tryz.prog.info? 53).map (fun i => (i.zero, i.size, i.bytes)) = some (some (.agg #[.string ⟨#[]⟩, .slice none 0 0]), 2, 40) := by kernel_rfl
def AOwn (w : World) (base : Nat) (A : Option Addr) (c : Nat) (l : List (GAtom × Hd)) : Prop := w.ownsRow base 53 2 (.slice A l.length c) l.length (l.flatMap atC)
theorem AOwn.is {w : World} {base : Nat} {A : Option Addr} {c : Nat} {l : List (GAtom × Hd)} (h : AOwn w base A c l) (hn : l.length ≤ 1000000) (hok : ∀ p ∈ l, SliceIs Enc.told w w.heap.size p.2.A p.2.n p.2.c p.1.args) : SliceIs Enc.atm w w.heap.size A l.length c l :=
 SliceIs.of_flat (E := Enc.atm) atC (fun _ => rfl) h rfl (by simp [reachN]; omega) (fun p hp => ⟨rfl, hok p hp⟩)
theorem atom_push {W : World} {base : Nat} {A : Option Addr} {c : Nat} {l : List (GAtom × Hd)} (hown : AOwn W base A c l) (r : ByteArray) (a : List GTold) (hA : Option Addr) (hn hc : Nat) (hl : l.length ≤ 1000000) (hb : base ≤ W.heap.size) :
 ∃ A' c' w', (∀ ty, (Builtin.append_ #[70, 70] ty #[.slice A l.length c, .slice (some ⟨W.heap.size, 0, none⟩) 1 1]).run Tryz.prog (W.alloc (.cells #[.string r, .slice hA hn hc] 53)) = .ok (.slice A' (l ++ [((⟨r, a⟩ : GAtom), (⟨hA, hn, hc⟩ : Hd))]).length c') w') ∧
   AOwn w' base A' c' (l ++ [((⟨r, a⟩ : GAtom), (⟨hA, hn, hc⟩ : Hd))]) ∧ Below base W w' ∧ W.heap.size ≤ w'.heap.size ∧ ∀ (b : Nat) es cl, W.heap[b]? = some (Obj.map es cl) → w'.heap[b]? = some (Obj.map es cl) := by
 have ho : (W.alloc (.cells #[.string r, .slice hA hn hc] 53)).ownsRow base 53 2 (.slice A l.length c) l.length (l.flatMap atC) := own_below hown (belowA (Below.refl _ _) _)
 obtain ⟨v', w', h1, h2, h3, h4⟩ := run_push_at (P := Tryz.prog) (ty := 70) (W.alloc (.cells #[.string r, .slice hA hn hc] 53)) (base := base) Tryz.underlying70 atom_info rfl (by decide) ho W.heap.size (atC ((⟨r, a⟩ : GAtom), (⟨hA, hn, hc⟩ : Hd))) rfl (heapNew rfl) (by intro u hu; simp [atC, Hd.v] at hu; rcases hu with rfl | rfl <;> rfl)
  (by simp [maxLen]; omega) (by omega) (by simp; omega)
 obtain ⟨A', c', rfl⟩ := own_form h2; have hll : (l ++ [((⟨r, a⟩ : GAtom), (⟨hA, hn, hc⟩ : Hd))]).length = l.length + 1 := by simp
 refine ⟨A', c', w', fun _ => by rw [hll]; exact h1, ?_, ?_, ?_, ?_⟩
 ·unfold AOwn; rw [hll, List.flatMap_append]; simpa using h2
 ·exact ((Below.refl base W).alloc hb _).trans h4
 ·have := h3.size; simp at this; omega
 ·intro b es cl hb; have hbl := (glt hb)
  have hba : (W.alloc (.cells #[.string r, .slice hA hn hc] 53)).heap[b]? = some (Obj.map es cl) := ((belowA (Below.refl W.heap.size W) _).block b hbl).trans hb; refine ((grown_out h3).block b (glt hba) (fun hbo => ?_)).trans hba; obtain ⟨cur, hc'⟩ := own_type ho (b := b) (by simpa using hbo); rw [hc'] at hba; cases hba
structure Fit (ds : List GDecl) (l : Kinds) (a : GAtom) (skip : Int → Prop) : Prop where
 known : idxD ds a.rel ≠ none
 len : (kindsD ds a.rel).length = a.args.length
 kind : ∀ (j : Nat) (t : GTold), a.args[j]? = some t → ¬ skip j → (if t.x.size = 0 then t.v.k else kget l t.x) = (kindsD ds a.rel).getD j 0
theorem right_told {t : GTold} (h : rightT t = true) (hx : t.x.size = 0) : t.v.k ≠ 0 := by
 unfold rightT at h; rw [if_pos hx] at h; unfold rightB at h; intro h0; rw [h0] at h; simp at h
theorem atomB_args {a : GAtom} (h : atomB a = true) : ∀ t ∈ a.args, t.x.size = 0 → t.v.k ≠ 0 := fun t ht => by
 unfold atomB at h; simp only [Bool.and_eq_true] at h; exact right_told (List.all_eq_true.1 h.2.2 t ht)
theorem fit_body {p : GProg} {y : GRule} (ht : (tyErr p).2 = 0) (hy : y ∈ p.rules) {i : Nat} {z : GLit} (hz : y.body[i]? = some z) (hk : z.k ≠ 3) : Fit p.decls (kindsR p.decls y) z.atom (fun _ => False) := by
 obtain ⟨hf, hr⟩ := tyErr_none ht; obtain ⟨-, hb⟩ := ruleErr_none (hr y hy); have hm := List.mem_of_getElem? hz; have hL := hb z hm; unfold litErr at hL; rw [if_neg hk] at hL; have hrz := (right_body ((formed_rules hf).2 y hy)).2 z hm
 have hat : atomB z.atom = true := by
  unfold rightLit at hrz; split at hrz
  ·simp only [Bool.and_eq_true] at hrz; exact hrz.1
  ·simp only [Bool.and_eq_true, decide_eq_true_eq] at hrz; exact absurd hrz.1 hk
 obtain ⟨h1, h2, -⟩ := atom_fit hL; obtain ⟨l0, ho, htd⟩ := bodyS_at (ds := p.decls) hz; exact ⟨h1, h2, fun j t hj _ => atom_told ho (kinds_nz hf _) htd hL (atomB_args hat) hj (by omega) (fun q => by have := q.1; omega)⟩
theorem fit_head {p : GProg} {y : GRule} (ht : (tyErr p).2 = 0) (hy : y ∈ p.rules) : Fit p.decls (kindsR p.decls y) y.head (fun j => 0 < y.agg ∧ j = y.col) := by
 obtain ⟨hf, hr⟩ := tyErr_none ht; obtain ⟨hh, -⟩ := ruleErr_none (hr y hy); have hrr := (formed_rules hf).2 y hy
 have hat : atomB y.head = true := by
  unfold rightRule at hrr; simp only [Bool.and_eq_true] at hrr; exact hrr.1
 obtain ⟨h1, h2, -⟩ := atom_fit hh; refine ⟨h1, h2, fun j t hj hs => atom_told KOk.nil (kinds_nz hf _) headS_at hh (atomB_args hat) hj ?_ ?_⟩
 ·unfold colK; split
  ·exact fun e => hs ⟨‹_›, e⟩
  ·omega
 ·rintro ⟨e, hg⟩; unfold colK at e; split at e
  ·exact hs ⟨‹_›, e⟩
  ·omega
theorem KMap.same {w w' : World} {v : Value} {l : Kinds} (h : KMap w v l) (hs : ∀ (b : Nat) es cl, w.heap[b]? = some (Obj.map es cl) → w'.heap[b]? = some (Obj.map es cl)) : KMap w' v l := by
 rcases h with h | ⟨km, h1, ⟨es, cl, hb, hr⟩, hk⟩
 ·exact .inl h
 ·exact .inr ⟨km, h1, ⟨es, cl, hs _ _ _ hb, hr⟩, hk⟩
theorem KMap.look {w : World} {v : Value} {l : Kinds} (h : KMap w v l) (s : ByteArray) : (Instr.lookup 67 v (.string s) false).run Tryz.prog w = .ok (.int .i64 (kget l s)) w := by
 rcases h with ⟨rfl, rfl⟩ | ⟨km, rfl, hm⟩
 ·simp [Instr.lookup, run_underlying Tryz.underlying67, run_checkKey_str Tryz.underlying9, MapKept.run_findKey (l := []) (a := none) Tryz.underlying9 rfl, kget, kvGet]
 ·rw [← kvsOf_kind]; exact hm.lookup (P := Tryz.prog) Tryz.underlying67 Tryz.underlying9 (z := .int .i64 0) (zero_kind w) s
end Go.Proofs.YtaeedepojpablaaGreatDoor
