/- Sameness of expressions, atoms, literals, rules, programs: the plain words; slices.Equal at terms and kinds. -/
import Derived.Test.YtiffmiabhapfnaaGreatDoorTSize
import Derived.Test.YtiffmiabhapfnaaGreatDoorTDeep
namespace Go.Proofs.YtiffmiabhapfnaaGreatDoor
open Go.RowKit

def eqL {α : Type} (f : α → α → Bool) : List α → List α → Bool
  | [], [] => true
  | a :: l, b :: m => f a b && eqL f l m
  | _, _ => false
theorem eqL_len {α : Type} {f : α → α → Bool} : ∀ {l m : List α}, l.length ≠ m.length → eqL f l m = false
  | [], [], h => absurd rfl h
  | [], _ :: _, _ => rfl
  | _ :: _, [], _ => rfl
  | a :: l, b :: m, h => by
    rw [eqL, eqL_len (l := l) (m := m) (fun e => h (by simp [e]))]; simp
theorem eqL_drop {α : Type} {f : α → α → Bool} {l m : List α} {k : Nat} {a b : α} (ha : l[k]? = some a) (hb : m[k]? = some b) : eqL f (l.drop k) (m.drop k) = (f a b && eqL f (l.drop (k + 1)) (m.drop (k + 1))) := by
  obtain ⟨h1, h2⟩ := List.getElem?_eq_some_iff.1 ha
  obtain ⟨h3, h4⟩ := List.getElem?_eq_some_iff.1 hb
  rw [List.drop_eq_getElem_cons h1, List.drop_eq_getElem_cons h3, h2, h4, eqL]
theorem eqL_dec {α : Type} [DecidableEq α] : ∀ (l m : List α), eqL (fun a b => decide (a = b)) l m = decide (l = m)
  | [], [] => by simp [eqL]
  | [], _ :: _ => by simp [eqL]
  | _ :: _, [] => by simp [eqL]
  | a :: l, b :: m => by rw [eqL, eqL_dec l m]; by_cases h1 : a = b <;> by_cases h2 : l = m <;> simp [h1, h2]
theorem eqL_refl {α : Type} {f : α → α → Bool} : ∀ (l : List α), (∀ x ∈ l, f x x = true) → eqL f l l = true
  | [], _ => rfl
  | a :: l, h => by rw [eqL, h a (by simp), eqL_refl l (fun x hx => h x (by simp [hx]))]; rfl
mutual
def sameE : GExp → GExp → Bool
  | .mk o t ks, e => decide (o = e.op) && (decide (t = e.t) && sameEs ks e.kids)
def sameEs : List GExp → List GExp → Bool
  | [], [] => true
  | [], _ :: _ => false
  | _ :: _, [] => false
  | k :: ks, q :: qs => sameE k q && sameEs ks qs
end
theorem sameEs_eq : ∀ (l m : List GExp), sameEs l m = eqL sameE l m
  | [], [] => by rw [sameEs, eqL]
  | [], _ :: _ => by rw [sameEs, eqL] <;> simp
  | _ :: _, [] => by rw [sameEs, eqL] <;> simp
  | k :: ks, q :: qs => by rw [sameEs, eqL, sameEs_eq ks qs]
theorem sameE_def (e e' : GExp) : sameE e e' = (decide (e.op = e'.op) && (decide (e.t = e'.t) && eqL sameE e.kids e'.kids)) := by
  cases e with
  | mk o t ks => rw [sameE, sameEs_eq]; rfl
mutual
theorem sameE_refl : ∀ (e : GExp), sameE e e = true
  | .mk o t ks => by
    rw [sameE]
    show (decide (o = o) && (decide (t = t) && sameEs ks ks)) = true
    rw [sameEs_refl ks]; simp
theorem sameEs_refl : ∀ (l : List GExp), sameEs l l = true
  | [] => by rw [sameEs]
  | k :: ks => by rw [sameEs, sameE_refl k, sameEs_refl ks]; rfl
end
def sameA (x y : GAtom) : Bool := decide (x.rel = y.rel) && decide (x.args = y.args)
def sameD (x y : GDecl) : Bool := decide (x.rel = y.rel) && decide (x.kinds = y.kinds)
def sameLt (x y : GLit) : Bool := decide (x.k = y.k) && (sameA x.atom y.atom && (decide (x.op = y.op) && (sameE x.l y.l && sameE x.r y.r)))
def sameR (x y : GRule) : Bool := sameA x.head y.head && (decide (x.agg = y.agg ∧ x.col = y.col) && eqL sameLt x.body y.body)
def sameP (x y : GProg) : Bool := eqL sameD x.decls y.decls && eqL sameR x.rules y.rules
theorem sameP_refl (x : GProg) : sameP x x = true := by
  unfold sameP
  rw [eqL_refl _ (fun x _ => by simp [sameD]), eqL_refl _ (fun x _ => by
    unfold sameR
    rw [eqL_refl _ (fun y _ => by simp [sameLt, sameA, sameE_refl])]
    simp [sameA])]
  rfl

theorem run_told_eq (x y : GTold) (w : World) : (binOp .eql 26 (.agg #[.string x.x, .int .i64 x.v.k, .int .i64 x.v.n, .string x.v.s]) (.agg #[.string y.x, .int .i64 y.v.k, .int .i64 y.v.n, .string y.v.s])).run Tryz.prog w = .ok (.bool (decide (x = y))) w := by
  rw [run_eql_struct, run_equalIn_agg (ht := by kernel_rfl) (hp := by kernel_rfl)]
  simp [go_sem]
  cases x with
  | mk x v => cases y with
    | mk x' v' => cases v with
      | mk k n s => cases v' with
        | mk k' n' s' =>
          simp only [GTold.mk.injEq, GV.mk.injEq, ← toList_inj]
          by_cases h1 : x.toList = x'.toList <;> by_cases h2 : k = k' <;> by_cases h3 : n = n' <;> by_cases h4 : s.toList = s'.toList <;> simp [h1, h2, h3, h4]
theorem run_told_ne (x y : GTold) (w : World) : (binOp .neq 26 (.agg #[.string x.x, .int .i64 x.v.k, .int .i64 x.v.n, .string x.v.s]) (.agg #[.string y.x, .int .i64 y.v.k, .int .i64 y.v.n, .string y.v.s])).run Tryz.prog w = .ok (.bool (!decide (x = y))) w := by
  rw [run_neq_struct, run_equalIn_agg (ht := by kernel_rfl) (hp := by kernel_rfl)]
  simp [go_sem]
  cases x with
  | mk x v => cases y with
    | mk x' v' => cases v with
      | mk k n s => cases v' with
        | mk k' n' s' =>
          simp only [GTold.mk.injEq, GV.mk.injEq, ← toList_inj]
          by_cases h1 : x.toList = x'.toList <;> by_cases h2 : k = k' <;> by_cases h3 : n = n' <;> by_cases h4 : s.toList = s'.toList <;> simp [h1, h2, h3, h4]
end Go.Proofs.YtiffmiabhapfnaaGreatDoor
