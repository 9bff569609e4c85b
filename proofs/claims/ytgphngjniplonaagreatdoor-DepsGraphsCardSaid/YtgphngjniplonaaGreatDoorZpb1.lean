/- My own texts DgB1, DgB2, DgB5, as far as this claim needs them. -/
import Derived.Test.YtgphngjniplonaaGreatDoorZp27
set_option linter.unusedVariables false
set_option linter.unusedSimpArgs false
set_option maxRecDepth 1000000
set_option maxHeartbeats 16000000
namespace Go.Proofs.YtgphngjniplonaaGreatDoor
open Go.RowKit
theorem order_any (x y : GEdge) (w : World) : Calls Tryz.prog 43 #[x.v, y.v] w (RetInt (ordE x y) w) := by
  rw [← ordE_first]
  have hK := Lib.hid (fun p q w => cmpIE_any p q w)
  have hI := Lib.hid (fun b w => number_any b w)
  have f1 := cmpNE_fits x.a y.a
  have f2 := cmpNE_fits x.b y.b
  have f3 := cmpNE_fits (numbB x.n) (numbB y.n)
  have hO := Lib.hid (fun W => orE_any (some ⟨W.heap.size, 0, none⟩) 3 3 [cmpNE x.a y.a, cmpNE x.b y.b, cmpNE (numbB x.n) (numbB y.n)] (W.alloc (.cells #[.int .i64 (cmpNE x.a y.a), .int .i64 (cmpNE x.b y.b), .int .i64 (cmpNE (numbB x.n) (numbB y.n))] 3)).drew (ints3E (W := W) f1 f2 f3))
  generalize firstNZE [cmpNE x.a y.a, cmpNE x.b y.b, cmpNE (numbB x.n) (numbB y.n)] = res at hO ⊢
  clear f1 f2 f3
  go_enter Tryz.func43, Tryz.ntmps43
  go_wp2_with fail
  have hbw : Below w.heap.size w ((w.alloc (.cells #[.int .i64 x.a, .int .i64 x.b, .bool x.n] 71)).alloc (.cells #[.int .i64 y.a, .int .i64 y.b, .bool y.n] 71)) := belowA (belowA (Below.refl _ _) _) _
  have hg0 : ((w.alloc (.cells #[.int .i64 x.a, .int .i64 x.b, .bool x.n] 71)).alloc (.cells #[.int .i64 y.a, .int .i64 y.b, .bool y.n] 71)).heap[w.heap.size]? = some (.cells #[.int .i64 x.a, .int .i64 x.b, .bool x.n] 71 (0, 0)) := heapOld (heapNew rfl)
  have hg1 : ((w.alloc (.cells #[.int .i64 x.a, .int .i64 x.b, .bool x.n] 71)).alloc (.cells #[.int .i64 y.a, .int .i64 y.b, .bool y.n] 71)).heap[w.heap.size + 1]? = some (.cells #[.int .i64 y.a, .int .i64 y.b, .bool y.n] 71 (0, 0)) := heapNew (by simp)
  generalize (w.alloc (.cells #[.int .i64 x.a, .int .i64 x.b, .bool x.n] 71)).alloc (.cells #[.int .i64 y.a, .int .i64 y.b, .bool y.n] 71) = wb at hbw hg0 hg1 ⊢
  have hl0 := (Array.getElem?_eq_some_iff.1 hg0).1
  have hl1 := (Array.getElem?_eq_some_iff.1 hg1).1
  have Hk := Lib.hid (fun W (h : Below wb.heap.size wb W) => show W.cell? ⟨w.heap.size, 0, none⟩ = some (.int .i64 x.a) ∧ W.cell? ⟨w.heap.size, 1, none⟩ = some (.int .i64 x.b) ∧ W.cell? ⟨w.heap.size, 2, none⟩ = some (.bool x.n) ∧ W.cell? ⟨w.heap.size + 1, 0, none⟩ = some (.int .i64 y.a) ∧ W.cell? ⟨w.heap.size + 1, 1, none⟩ = some (.int .i64 y.b) ∧ W.cell? ⟨w.heap.size + 1, 2, none⟩ = some (.bool y.n) from
    ⟨(cell_of_row _ _ 0 _ _ _ ((h.block _ hl0).trans hg0)).trans rfl, (cell_of_row _ _ 1 _ _ _ ((h.block _ hl0).trans hg0)).trans rfl, (cell_of_row _ _ 2 _ _ _ ((h.block _ hl0).trans hg0)).trans rfl, (cell_of_row _ _ 0 _ _ _ ((h.block _ hl1).trans hg1)).trans rfl, (cell_of_row _ _ 1 _ _ _ ((h.block _ hl1).trans hg1)).trans rfl, (cell_of_row _ _ 2 _ _ _ ((h.block _ hl1).trans hg1)).trans rfl⟩)
  clear hg0 hg1 hl0 hl1
  go_region_held3 (fun w' => w'.cell? ⟨w.heap.size, 0, none⟩ = some (.int .i64 x.a) ∧ w'.cell? ⟨w.heap.size, 1, none⟩ = some (.int .i64 x.b) ∧ w'.cell? ⟨w.heap.size, 2, none⟩ = some (.bool x.n) ∧ w'.cell? ⟨w.heap.size + 1, 0, none⟩ = some (.int .i64 y.a) ∧ w'.cell? ⟨w.heap.size + 1, 1, none⟩ = some (.int .i64 y.b) ∧ w'.cell? ⟨w.heap.size + 1, 2, none⟩ = some (.bool y.n))
    (first
      | (refine Hk.out _ ?_; (repeat (first | with_reducible exact Below.refl _ _ | with_reducible assumption | with_reducible refine Below.drew ?_ | with_reducible refine belowA ?_ _)))
      | go_keep)
    ((first
      | (go_at_call 70
         refine (hK.out _ _ _).mono ?_
         rintro e w1 ⟨rfl, rfl⟩)
      | (go_at_call 71
         refine (hI.out _ _).mono ?_
         rintro e w1 ⟨rfl, rfl⟩)
      | (go_at_call 69
         refine (hO.out _).mono ?_
         rintro e w1 ⟨rfl, rfl⟩)))
  all_goals
    go_wp2_with fail
    go_ret
    refine ⟨by simp, hbw.trans (Below.mono ?_ hbw.size)⟩
    repeat (first | with_reducible exact Below.refl _ _ | with_reducible assumption | with_reducible refine Below.drew ?_ | with_reducible refine belowA ?_ _)
theorem refWithin_any (x : GEdge) (n : Int) (w : World) : Calls Tryz.prog 15 #[x.v, .int .i64 n] w (RetBool (withinE x n) w) := by
  by_cases h1 : (0 : Int) ≤ x.a
  · by_cases h2 : x.a < n
    · by_cases h3 : (0 : Int) ≤ x.b
      · by_cases h4 : x.b < n <;>
        · rw [show withinE x n = decide (x.b < n) by simp [withinE, h1, h2, h3]]
          simp only [h4, decide_true, decide_false]
          go_enter Tryz.func15, Tryz.ntmps15
          go_wp2_with fail
          go_ret
          exact ⟨by simp, belowA (Below.refl _ _) _⟩
      · rw [show withinE x n = false by simp [withinE, h3]]
        go_enter Tryz.func15, Tryz.ntmps15
        go_wp2_with fail
        go_ret
        exact ⟨by simp, belowA (Below.refl _ _) _⟩
    · rw [show withinE x n = false by simp [withinE, h2]]
      by_cases h3 : (0 : Int) ≤ x.b <;>
      · go_enter Tryz.func15, Tryz.ntmps15
        go_wp2_with fail
        go_ret
        exact ⟨by simp, belowA (Below.refl _ _) _⟩
  · rw [show withinE x n = false by simp [withinE, h1]]
    go_enter Tryz.func15, Tryz.ntmps15
    go_wp2_with fail
    go_ret
    exact ⟨by simp, belowA (Below.refl _ _) _⟩
end Go.Proofs.YtgphngjniplonaaGreatDoor
namespace Go.Proofs.YtgphngjniplonaaGreatDoor
end Go.Proofs.YtgphngjniplonaaGreatDoor
namespace Go.Proofs.YtgphngjniplonaaGreatDoor
section
variable {has : Nat → Nat → Bool}
end
end Go.Proofs.YtgphngjniplonaaGreatDoor
namespace Go.Proofs.YtgphngjniplonaaGreatDoor
open Go.RowKit
structure RowOf {α : Type} (E : Enc α) (w : World) (B e : Nat) (S : List Nat) (A : Option Addr) (n c : Nat) (l : List α) : Prop where
  len : l.length = n
  ex : ∃ xs, w.ownsRow B e E.sz (.slice A n c) n xs ∧ ∀ i x, l[i]? = some x → E.ok (sans w S) w.heap.size ((xs.drop (i * E.sz)).take E.sz) x
section
variable {α : Type} {E : Enc α} {w w' : World} {B e : Nat} {S T U : List Nat} {A : Option Addr} {n c : Nat} {l : List α}
theorem RowOf.nil (w : World) : RowOf E w B e S none 0 0 ([] : List α) := ⟨rfl, [], World.ownsRow_nil _ _ _ _, fun i x h => by simp at h⟩
theorem RowOf.blk (h : RowOf E w B e S A n c l) {b : Nat} (hb : b ∈ blkOf A) : B ≤ b ∧ b < w.heap.size ∧ ∃ cur, w.heap[b]? = some (.cells cur e (0, 0)) := by
  obtain ⟨-, xs, h1, -⟩ := h
  rw [← ownBlock_blk A n c] at hb
  have hb' := Option.mem_toList.1 hb
  exact ⟨(own_blk h1 hb').1, (own_blk h1 hb').2, own_typeR h1 hb'⟩
theorem RowOf.out (h : RowOf E w B e S A n c l) (ho : Out T w w') (hv : ∀ b ∈ blkOf A, b ∉ T) (hT : ∀ b ∈ T, b < w.heap.size → b ∈ S) (hU : ∀ b ∈ U, b < w.heap.size → b ∈ S) : RowOf E w' B e U A n c l := by
  obtain ⟨h0, xs, h1, h2⟩ := h
  refine ⟨h0, xs, own_out' h1 ho (fun b hb => hv b ?_), fun i x hx => E.mono ho.size (ho.kept hT hU) (h2 i x hx)⟩
  rw [← ownBlock_blk A n c]; exact Option.mem_toList.2 hb
theorem RowOf.below (h : RowOf E w B e S A n c l) (hb : Below w.heap.size w w') : RowOf E w' B e S A n c l :=
  h.out (T := []) (Out.of_below hb []) (fun b _ hb => by cases hb) (fun b hb _ => by cases hb) (fun _ hb _ => hb)
theorem RowOf.push {P : Program} {t ty size bytes : Nat} {z : Value} (h : RowOf E w B e S A n c l) (ht : P.underlying t = some (.slice e)) (hi : (P.info? e).map (fun i => (i.zero, i.size, i.bytes)) = some (some z, size, bytes)) (hsE : E.sz = size)
    (hzs : z.cells.size = size) (hsz : 0 < size) (x : α) (g : Nat) (cs : List Value) (hg : w.heap[g]? = some (.cells cs.toArray e (0, 0))) (hok : E.ok (sans w S) w.heap.size cs x) (h1 : ∀ u ∈ cs, u.oneCell' = true)
    (h63 : n + 1 ≤ maxLen) (hbytes : (n + 1) * bytes ≤ 140737488355328) (hbase : B ≤ w.heap.size) (hA : ∀ b ∈ blkOf A, b ∈ S) :
    ∃ A' c' w', (Builtin.append_ #[t, t] ty #[.slice A n c, .slice (some ⟨g, 0, none⟩) 1 1]).run P w = .ok (.slice A' (n + 1) c') w' ∧ (∀ U : List Nat, (∀ b ∈ U, b < w.heap.size → b ∈ S) → RowOf E w' B e U A' (n + 1) c' (l ++ [x])) ∧ Out (blkOf A) w w' ∧
      (∀ b ∈ blkOf A', b ∈ blkOf A ∨ w.heap.size ≤ b) := by
  subst hsE
  obtain ⟨h0, xs, h2, h3⟩ := h
  have hcl := E.len hok
  obtain ⟨A', c', w', q1, q2, q3, q4⟩ := push_more (P := P) (ty := ty) w ht hi hzs hsz h2 g cs hcl hg h1 h63 hbytes hbase
  rw [ownBlock_blk] at q3
  refine ⟨A', c', w', q1, fun U hU => ⟨by simp [h0], xs ++ cs, q2, fun i y hy => ?_⟩, q3, fun b hb => ?_⟩
  · have hk := q3.kept (T := S) (U := U) (fun b hb _ => hA b hb) hU
    have hxl := h2.1
    rcases Nat.lt_trichotomy i l.length with hlt | rfl | hgt
    · rw [List.getElem?_append_left hlt] at hy
      have hle : i * E.sz + E.sz ≤ xs.length := by
        rw [hxl, ← h0]
        calc i * E.sz + E.sz = (i + 1) * E.sz := by rw [Nat.add_mul, Nat.one_mul]
          _ ≤ l.length * E.sz := Nat.mul_le_mul_right _ hlt
      rw [List.drop_append_of_le_length (by omega), List.take_append_of_le_length (by rw [List.length_drop]; omega)]
      exact E.mono q3.size hk (h3 i y hy)
    · rw [List.getElem?_append_right (Nat.le_refl _), Nat.sub_self] at hy
      obtain rfl : x = y := by simpa using hy
      rw [h0, ← hxl, List.drop_append_of_le_length (Nat.le_refl _), List.drop_length, List.nil_append, ← hcl, List.take_length]
      exact E.mono q3.size hk hok
    · rw [List.getElem?_eq_none (by simp; omega)] at hy
      cases hy
  · rw [← ownBlock_blk A' (n + 1) c'] at hb
    rcases q4 b (Option.mem_toList.1 hb) with hh | hh
    · left; rw [← ownBlock_blk A n c]; exact Option.mem_toList.2 hh
    · exact .inr hh
theorem RowOf.slice (h : RowOf E w B e S A n c l) (hr : n ≤ reachN) (hA : ∀ b ∈ blkOf A, b ∉ T) (hT : ∀ b ∈ T, b < w.heap.size → b ∈ S) : SliceFar E w T A n c l := by
  obtain ⟨h0, xs, h1, h2⟩ := h
  have hs : (sans w T).ownsRow B e E.sz (.slice A n c) n xs := by
    refine ⟨h1.1, ?_⟩
    rcases h1.2 with hn | ⟨g, cap, cur, hv, hg, hh, r⟩
    · exact .inl hn
    · refine .inr ⟨g, cap, cur, hv, hg, (sans_out (hA g ?_)).trans hh, r⟩
      simp only [Value.slice.injEq] at hv
      rw [hv.1]; simp [blkOf]
  have := SliceIs.of_own (E := E) hs h0 hr (fun i x hx => by
    rw [sans_size]
    exact E.mono (Nat.le_refl _) ((Out.refl (S := []) w).kept (T := S) (U := T) (fun _ hb _ => by cases hb) hT) (h2 i x hx))
  rw [sans_size] at this
  exact this
end
section
variable {P : Program} {w : World} {g n : Nat} {f : Nat → Nat} {t k e : TypeId}
end
end Go.Proofs.YtgphngjniplonaaGreatDoor
namespace Go.Proofs.YtgphngjniplonaaGreatDoor
open Go.RowKit Go.Sort
end Go.Proofs.YtgphngjniplonaaGreatDoor

namespace Go.Proofs.YtgphngjniplonaaGreatDoor
open Go.RowKit Go.Sort Go.Shelf Go.Lib
end Go.Proofs.YtgphngjniplonaaGreatDoor
namespace Go.Proofs.YtgphngjniplonaaGreatDoor
open Go.RowKit
def okE (n : Int) (l : List GEdge) (k : Nat) : Bool := match l[k]? with
  | none => false
  | some x => withinE x n && (match k with
    | 0 => true
    | j + 1 => match l[j]? with
      | none => false
      | some p => lessE p x)
def rightG (n : Int) (l : List GEdge) : Bool := decide (0 ≤ n) && decide (n ≤ 32) && (List.range l.length).all (okE n l)
theorem rightG_all {n : Int} {l : List GEdge} (h0 : 0 ≤ n) (h1 : n ≤ 32) (h : ∀ k, k < l.length → okE n l k = true) : rightG n l = true := by
  simp only [rightG, h0, h1, decide_true, Bool.true_and, List.all_eq_true, List.mem_range]
  exact h
theorem rightG_not {n : Int} {l : List GEdge} {k : Nat} (hk : k < l.length) (h : okE n l k = false) : rightG n l = false := by
  rw [Bool.eq_false_iff]
  intro hh
  simp only [rightG, Bool.and_eq_true, List.all_eq_true, List.mem_range] at hh
  rw [hh.2 k hk] at h
  cases h
theorem ordE_lt (x y : GEdge) : (0 : Int) ≤ ordE x y ↔ lessE x y = false := by
  unfold ordE
  cases lessE x y with
  | true => simp
  | false => simp; split <;> omega
theorem rightG_any (n : Int) (A : Option Addr) (m c : Nat) (l : List GEdge) (w : World) (h : SliceIs Enc.edge w w.heap.size A m c l) : Calls Tryz.prog 19 #[graphV n A m c] w (RetBool (rightG n l) w) := by
  by_cases h0 : n < 0
  · rw [show rightG n l = false by simp [rightG]; omega]
    clear h
    go_enter Tryz.func19, Tryz.ntmps19
    go_wp2_with fail
    go_ret
    exact ⟨rfl, belowA (Below.refl _ _) _⟩
  by_cases h1 : (32 : Int) < n
  · rw [show rightG n l = false by simp [rightG]; omega]
    clear h
    go_enter Tryz.func19, Tryz.ntmps19
    go_wp2_with fail
    go_ret
    exact ⟨rfl, belowA (Below.refl _ _) _⟩
  have mixed : Tryz.prog.follows .mixedOrders = true := by kernel_rfl
  have hm := h.bound
  have Hlen := Lib.hid h.1
  obtain ⟨r, Hr⟩ : ∃ r, Hid (rightG n l = r) := ⟨_, rfl⟩
  rw [Hr.out]
  have HT : Hid ((∀ k, k < l.length → okE n l k = true) → r = true) := fun h => by rw [← Hr.out]; exact rightG_all (by omega) (by omega) h
  have HF : Hid (∀ k, k < l.length → okE n l k = false → r = false) := fun k hk h => by rw [← Hr.out]; exact rightG_not hk h
  have HS := Lib.hid h
  clear h Hr
  go_enter Tryz.func19, Tryz.ntmps19
  go_wp2_with fail
  have hb0 : Below w.heap.size w (w.alloc (.cells #[.int .i64 n, .slice A m c] 31)) := belowA (Below.refl _ _) _
  have hg0 : (w.alloc (.cells #[.int .i64 n, .slice A m c] 31)).heap[w.heap.size]? = some (.cells #[.int .i64 n, .slice A m c] 31 (0, 0)) := heapNew rfl
  generalize w.alloc (.cells #[.int .i64 n, .slice A m c] 31) = wa at hb0 hg0 ⊢
  have Hb0 := Lib.hid hb0
  have Hg0 := Lib.hid hg0
  clear hb0 hg0
  go_loopw [3, 4, 16] (fun _ _ i wr => ∃ k : Nat, k ≤ m ∧ i = .int .i64 k ∧ Hid (∀ j, j < k → okE n l j = true) ∧ Hid (Below w.heap.size w wr) ∧ Hid (wr.heap[w.heap.size]? = some (.cells #[.int .i64 n, .slice A m c] 31 (0, 0)))) (fun _ _ i _ => m - (intOf i).toNat)
  case atStart => exact ⟨0, by omega, rfl, (fun j hj => by omega), Hb0, Hg0⟩
  case round =>
    obtain ⟨k, hk, rfl, Hp, Hb, Hg⟩ := hrel
    have i0 : (0 : Int) ≤ (k : Int) := by omega
    by_cases hlt : k < m
    · have i1 : (k : Int) < (m : Int) := by omega
      obtain ⟨b, o, x, rfl, hb, hx, x0, x1, x2, -⟩ := (HS.out.mono Hb.out.size Hb.out.block).edge_at hlt
      have HW := Lib.hid (fun W => withinE_any x n W)
      have hla : Below wr.heap.size wr (wr.alloc (.cells #[.int .i64 x.a, .int .i64 x.b, .bool x.n] 71)) := belowA (Below.refl _ _) _
      have Hb2 : Hid (Below w.heap.size w (wr.alloc (.cells #[.int .i64 x.a, .int .i64 x.b, .bool x.n] 71))) := Hb.out.trans (hla.mono Hb.out.size)
      have gl := (Array.getElem?_eq_some_iff.1 Hg.out).1
      have HK : Hid (∀ V, Below (wr.heap.size + 1) (wr.alloc (.cells #[.int .i64 x.a, .int .i64 x.b, .bool x.n] 71)) V → V.cell? ⟨w.heap.size, 0, none⟩ = some (.int .i64 n) ∧ V.cell? ⟨w.heap.size, 1, none⟩ = some (.slice (some ⟨b, o, none⟩) m c) ∧
          V.cell? ⟨wr.heap.size, 0, none⟩ = some (.int .i64 x.a) ∧ V.cell? ⟨wr.heap.size, 1, none⟩ = some (.int .i64 x.b) ∧ V.cell? ⟨wr.heap.size, 2, none⟩ = some (.bool x.n)) := by
        intro V hV
        have r1 := (hV.block w.heap.size (by omega)).trans (heapOld (o := .cells #[.int .i64 x.a, .int .i64 x.b, .bool x.n] 71) Hg.out)
        have r2 := (hV.block wr.heap.size (by omega)).trans (heapNew (w := wr) (o := .cells #[.int .i64 x.a, .int .i64 x.b, .bool x.n] 71) (g := wr.heap.size) rfl)
        exact ⟨(cell_of_row _ _ 0 _ _ _ r1).trans rfl, (cell_of_row _ _ 1 _ _ _ r1).trans rfl, (cell_of_row _ _ 0 _ _ _ r2).trans rfl, (cell_of_row _ _ 1 _ _ _ r2).trans rfl, (cell_of_row _ _ 2 _ _ _ r2).trans rfl⟩
      cases hw : withinE x n with
      | false =>
        rw [hw] at HW
        obtain rfl : r = false := HF.out k (by rw [Hlen.out]; exact hlt) (by unfold okE; rw [hx.out]; simp [hw])
        clear hw hla gl hx
        go_wp2_with fail
        refine drawnS mixed _ (Below (wr.heap.size + 1) (wr.alloc (.cells #[.int .i64 x.a, .int .i64 x.b, .bool x.n] 71))) rfl (by kernel_rfl) rfl (Below.drew (Below.refl _ _)) ?_
        iterate 3
          apply seqS_op
          · intro W hW
            obtain ⟨k1, k2, k3, k4, k5⟩ := HK.out W hW
            go_wp2_with fail
            exact ⟨rfl, rfl, fun d hd => by cases hd; simp only [List.getElem?_toArray, List.getElem?_cons_succ, List.getElem?_cons_zero]; rfl, hW⟩
          simp only [Act.put, List.setIfInBounds_toArray, List.set_cons_succ, List.set_cons_zero]
        apply seqS_op
        · intro W hW
          go_wp2_with fail
          refine (HW.out W).mono ?_
          rintro e w1 ⟨rfl, hb1⟩
          go_wp2_with fail
          exact ⟨rfl, rfl, fun d hd => by cases hd; simp only [List.getElem?_toArray, List.getElem?_cons_succ, List.getElem?_cons_zero]; rfl, hW.trans (hb1.mono (by have := hW.size; simp at this; omega))⟩
        simp only [Act.put, List.setIfInBounds_toArray, List.set_cons_succ, List.set_cons_zero]
        have hyu : undef = Value.tuple #[] := rfl
        iterate 16
          apply seqS_op
          · intro W hW
            go_wp2_with fail
            exact ⟨rfl, rfl, fun d hd => by cases hd; simp only [List.getElem?_toArray, List.getElem?_cons_succ, List.getElem?_cons_zero]; rfl, hW⟩
          simp only [Act.put, List.setIfInBounds_toArray, List.set_cons_succ, List.set_cons_zero]
        clear hyu
        apply seqS_end
        intro W hW
        go_wp2_with fail
        go_ret
        exact ⟨rfl, Hb2.out.trans (hW.mono (by have := Hb2.out.size; simp at this; omega))⟩
      | true =>
        rw [hw] at HW
        have Hok : Hid ((k = 0 ∨ ∃ (j : Nat) (y : GEdge), k = j + 1 ∧ l[j]? = some y ∧ lessE y x = true) → okE n l k = true) := by
          intro hh
          unfold okE; rw [hx.out]
          rcases hh with rfl | ⟨j, y, rfl, hy, hl⟩
          · simp [hw]
          · simp [hw, hy, hl]
        by_cases hk0 : k = 0
        · have Hp1 : Hid (∀ j, j < k + 1 → okE n l j = true) := fun j hj => by
            rcases Nat.lt_or_ge j k with hh | hh
            · exact Hp.out j hh
            · obtain rfl : j = k := by omega
              exact Hok.out (.inl hk0)
          have k6 : ¬ ((0 : Int) < (k : Int)) := by omega
          have HN : Hid (∀ W, (Below (wr.heap.size + 1) (wr.alloc (.cells #[.int .i64 x.a, .int .i64 x.b, .bool x.n] 71))) W → Below w.heap.size w W ∧ W.heap[w.heap.size]? = some (.cells #[.int .i64 n, .slice (some ⟨b, o, none⟩) m c] 31 (0, 0))) := fun W hW =>
            ⟨Hb2.out.trans (hW.mono (by have := Hb2.out.size; simp at this; omega)), (hW.block w.heap.size (by omega)).trans (heapOld (o := .cells #[.int .i64 x.a, .int .i64 x.b, .bool x.n] 71) Hg.out)⟩
          clear hw hla gl hx Hp hk0 Hok
          go_wp2_with fail
          refine drawnS mixed _ (Below (wr.heap.size + 1) (wr.alloc (.cells #[.int .i64 x.a, .int .i64 x.b, .bool x.n] 71))) rfl (by kernel_rfl) rfl (Below.drew (Below.refl _ _)) ?_
          have hyu : undef = Value.tuple #[] := rfl
          iterate 3
            apply seqS_op
            · intro W hW
              obtain ⟨k1, k2, k3, k4, k5⟩ := HK.out W hW
              go_wp2_with fail
              exact ⟨rfl, rfl, fun d hd => by cases hd; simp only [List.getElem?_toArray, List.getElem?_cons_succ, List.getElem?_cons_zero]; rfl, hW⟩
            simp only [Act.put, List.setIfInBounds_toArray, List.set_cons_succ, List.set_cons_zero]
          apply seqS_op
          · intro W hW
            go_wp2_with fail
            refine (HW.out W).mono ?_
            rintro e w1 ⟨rfl, hb1⟩
            go_wp2_with fail
            exact ⟨rfl, rfl, fun d hd => by cases hd; simp only [List.getElem?_toArray, List.getElem?_cons_succ, List.getElem?_cons_zero]; rfl, hW.trans (hb1.mono (by have := hW.size; simp at this; omega))⟩
          simp only [Act.put, List.setIfInBounds_toArray, List.set_cons_succ, List.set_cons_zero]
          iterate 16
            apply seqS_op
            · intro W hW
              go_wp2_with fail
              exact ⟨rfl, rfl, fun d hd => by cases hd; simp only [List.getElem?_toArray, List.getElem?_cons_succ, List.getElem?_cons_zero]; rfl, hW⟩
            simp only [Act.put, List.setIfInBounds_toArray, List.set_cons_succ, List.set_cons_zero]
          clear hyu
          apply seqS_end
          intro W hW
          obtain ⟨hn1, hn2⟩ := HN.out W hW
          have Hn1 := Lib.hid hn1
          have Hn2 := Lib.hid hn2
          clear hn1 hn2 hW HN
          go_wp2_with fail
          go_roundw
          case rel => exact ⟨k + 1, by omega, by go_num, Hp1, Hn1, Hn2⟩
          case measure => simp [intOf]; omega
        · have k6 : (0 : Int) < (k : Int) := by omega
          obtain ⟨j, hj⟩ : ∃ j : Nat, (k : Int) - 1 = (j : Int) := ⟨k - 1, by omega⟩
          have j0 : (0 : Int) ≤ (j : Int) := by omega
          have j1 : (j : Int) < (m : Int) := by omega
          obtain ⟨b', o', y, hA, hbw, hy, y0, y1, y2, -⟩ := HS.out.edge_at (i := j) (by omega)
          obtain ⟨rfl, rfl⟩ : b = b' ∧ o = o' := by injection hA with hA; injection hA with h1 h2; exact ⟨h1, h2⟩
          have hkj : k = j + 1 := by omega
          have HO := Lib.hid (fun W => order_any y x W)
          have HY : Hid (∀ V, (Below (wr.heap.size + 1) (wr.alloc (.cells #[.int .i64 x.a, .int .i64 x.b, .bool x.n] 71))) V → V.cell? ⟨b, o + j * 3, none⟩ = some (.int .i64 y.a) ∧ V.cell? ⟨b, o + j * 3 + 1, none⟩ = some (.int .i64 y.b) ∧ V.cell? ⟨b, o + j * 3 + 2, none⟩ = some (.bool y.n)) := by
            intro V hV
            have hbV : Below w.heap.size w V := Hb2.out.trans (hV.mono (by have := Hb2.out.size; simp at this; omega))
            exact ⟨below_cell hbV y0, below_cell hbV y1, below_cell hbV y2⟩
          have HN : Hid (∀ W, (Below (wr.heap.size + 1) (wr.alloc (.cells #[.int .i64 x.a, .int .i64 x.b, .bool x.n] 71))) W → Below w.heap.size w W ∧ W.heap[w.heap.size]? = some (.cells #[.int .i64 n, .slice (some ⟨b, o, none⟩) m c] 31 (0, 0))) := fun W hW =>
            ⟨Hb2.out.trans (hW.mono (by have := Hb2.out.size; simp at this; omega)), (hW.block w.heap.size (by omega)).trans (heapOld (o := .cells #[.int .i64 x.a, .int .i64 x.b, .bool x.n] 71) Hg.out)⟩
          have Hgo : Hid ((0 : Int) ≤ ordE y x → r = false) := fun h => HF.out k (by rw [Hlen.out]; exact hlt) (by
            unfold okE; rw [hx.out, hkj]; simp only [hy.out]
            have := (ordE_lt y x).1 h
            simp [this])
          have Hp1 : Hid (¬ (0 : Int) ≤ ordE y x → ∀ i, i < k + 1 → okE n l i = true) := fun h i hi => by
            rcases Nat.lt_or_ge i k with hh | hh
            · exact Hp.out i hh
            · obtain rfl : i = k := by omega
              refine Hok.out (.inr ⟨j, y, hkj, hy.out, ?_⟩)
              cases hle : lessE y x with
              | true => rfl
              | false => exact absurd ((ordE_lt y x).2 hle) h
          generalize ordE y x = oz at *
          clear hw hla gl hx Hp hk0 Hok hy hA hkj hbw y0 y1 y2
          by_cases hoz : (0 : Int) ≤ oz
          · obtain rfl : r = false := Hgo.out hoz
            go_wp2_with fail
            refine drawnS mixed _ (Below (wr.heap.size + 1) (wr.alloc (.cells #[.int .i64 x.a, .int .i64 x.b, .bool x.n] 71))) rfl (by kernel_rfl) rfl (Below.drew (Below.refl _ _)) ?_
            iterate 3
              apply seqS_op
              · intro W hW
                obtain ⟨k1, k2, k3, k4, k5⟩ := HK.out W hW
                go_wp2_with fail
                exact ⟨rfl, rfl, fun d hd => by cases hd; simp only [List.getElem?_toArray, List.getElem?_cons_succ, List.getElem?_cons_zero]; rfl, hW⟩
              simp only [Act.put, List.setIfInBounds_toArray, List.set_cons_succ, List.set_cons_zero]
            apply seqS_op
            · intro W hW
              go_wp2_with fail
              refine (HW.out W).mono ?_
              rintro e w1 ⟨rfl, hb1⟩
              go_wp2_with fail
              exact ⟨rfl, rfl, fun d hd => by cases hd; simp only [List.getElem?_toArray, List.getElem?_cons_succ, List.getElem?_cons_zero]; rfl, hW.trans (hb1.mono (by have := hW.size; simp at this; omega))⟩
            simp only [Act.put, List.setIfInBounds_toArray, List.set_cons_succ, List.set_cons_zero]
            iterate 6
              apply seqS_op
              · intro W hW
                go_wp2_with fail
                exact ⟨rfl, rfl, fun d hd => by cases hd; simp only [List.getElem?_toArray, List.getElem?_cons_succ, List.getElem?_cons_zero]; rfl, hW⟩
              simp only [Act.put, List.setIfInBounds_toArray, List.set_cons_succ, List.set_cons_zero]
            apply seqS_op
            · intro W hW
              have k2 := (HK.out W hW).2.1
              go_wp2_with fail
              exact ⟨rfl, rfl, fun d hd => by cases hd; simp only [List.getElem?_toArray, List.getElem?_cons_succ, List.getElem?_cons_zero]; rfl, hW⟩
            simp only [Act.put, List.setIfInBounds_toArray, List.set_cons_succ, List.set_cons_zero]
            iterate 3
              apply seqS_op
              · intro W hW
                go_wp2_with fail
                exact ⟨rfl, rfl, fun d hd => by cases hd; simp only [List.getElem?_toArray, List.getElem?_cons_succ, List.getElem?_cons_zero]; rfl, hW⟩
              simp only [Act.put, List.setIfInBounds_toArray, List.set_cons_succ, List.set_cons_zero]
            apply seqS_op
            · intro W hW
              have y0 := (HY.out W hW).1
              have y1 := (HY.out W hW).2.1
              have y2 := (HY.out W hW).2.2
              go_wp2_with fail
              exact ⟨rfl, rfl, fun d hd => by cases hd; simp only [List.getElem?_toArray, List.getElem?_cons_succ, List.getElem?_cons_zero]; rfl, hW⟩
            simp only [Act.put, List.setIfInBounds_toArray, List.set_cons_succ, List.set_cons_zero]
            apply seqS_op
            · intro W hW
              have k3 := (HK.out W hW).2.2.1
              have k4 := (HK.out W hW).2.2.2.1
              have k5 := (HK.out W hW).2.2.2.2
              go_wp2_with fail
              exact ⟨rfl, rfl, fun d hd => by cases hd; simp only [List.getElem?_toArray, List.getElem?_cons_succ, List.getElem?_cons_zero]; rfl, hW⟩
            simp only [Act.put, List.setIfInBounds_toArray, List.set_cons_succ, List.set_cons_zero]
            apply seqS_op
            · intro W hW
              go_wp2_with fail
              refine (HO.out W).mono ?_
              rintro e w1 ⟨rfl, hb1⟩
              go_wp2_with fail
              exact ⟨rfl, rfl, fun d hd => by cases hd; simp only [List.getElem?_toArray, List.getElem?_cons_succ, List.getElem?_cons_zero]; rfl, hW.trans (hb1.mono (by have := hW.size; simp at this; omega))⟩
            simp only [Act.put, List.setIfInBounds_toArray, List.set_cons_succ, List.set_cons_zero]
            iterate 3
              apply seqS_op
              · intro W hW
                go_wp2_with fail
                exact ⟨rfl, rfl, fun d hd => by cases hd; simp only [List.getElem?_toArray, List.getElem?_cons_succ, List.getElem?_cons_zero]; rfl, hW⟩
              simp only [Act.put, List.setIfInBounds_toArray, List.set_cons_succ, List.set_cons_zero]
            apply seqS_end
            intro W hW
            obtain ⟨hn1, hn2⟩ := HN.out W hW
            have Hn1 := Lib.hid hn1
            clear hn1 hn2 hW HN
            go_wp2_with fail
            go_ret
            exact ⟨rfl, Hn1.out⟩
          · have Hp2 := Lib.hid (Hp1.out hoz)
            go_wp2_with fail
            refine drawnS mixed _ (Below (wr.heap.size + 1) (wr.alloc (.cells #[.int .i64 x.a, .int .i64 x.b, .bool x.n] 71))) rfl (by kernel_rfl) rfl (Below.drew (Below.refl _ _)) ?_
            iterate 3
              apply seqS_op
              · intro W hW
                obtain ⟨k1, k2, k3, k4, k5⟩ := HK.out W hW
                go_wp2_with fail
                exact ⟨rfl, rfl, fun d hd => by cases hd; simp only [List.getElem?_toArray, List.getElem?_cons_succ, List.getElem?_cons_zero]; rfl, hW⟩
              simp only [Act.put, List.setIfInBounds_toArray, List.set_cons_succ, List.set_cons_zero]
            apply seqS_op
            · intro W hW
              go_wp2_with fail
              refine (HW.out W).mono ?_
              rintro e w1 ⟨rfl, hb1⟩
              go_wp2_with fail
              exact ⟨rfl, rfl, fun d hd => by cases hd; simp only [List.getElem?_toArray, List.getElem?_cons_succ, List.getElem?_cons_zero]; rfl, hW.trans (hb1.mono (by have := hW.size; simp at this; omega))⟩
            simp only [Act.put, List.setIfInBounds_toArray, List.set_cons_succ, List.set_cons_zero]
            iterate 6
              apply seqS_op
              · intro W hW
                go_wp2_with fail
                exact ⟨rfl, rfl, fun d hd => by cases hd; simp only [List.getElem?_toArray, List.getElem?_cons_succ, List.getElem?_cons_zero]; rfl, hW⟩
              simp only [Act.put, List.setIfInBounds_toArray, List.set_cons_succ, List.set_cons_zero]
            apply seqS_op
            · intro W hW
              have k2 := (HK.out W hW).2.1
              go_wp2_with fail
              exact ⟨rfl, rfl, fun d hd => by cases hd; simp only [List.getElem?_toArray, List.getElem?_cons_succ, List.getElem?_cons_zero]; rfl, hW⟩
            simp only [Act.put, List.setIfInBounds_toArray, List.set_cons_succ, List.set_cons_zero]
            iterate 3
              apply seqS_op
              · intro W hW
                go_wp2_with fail
                exact ⟨rfl, rfl, fun d hd => by cases hd; simp only [List.getElem?_toArray, List.getElem?_cons_succ, List.getElem?_cons_zero]; rfl, hW⟩
              simp only [Act.put, List.setIfInBounds_toArray, List.set_cons_succ, List.set_cons_zero]
            apply seqS_op
            · intro W hW
              have y0 := (HY.out W hW).1
              have y1 := (HY.out W hW).2.1
              have y2 := (HY.out W hW).2.2
              go_wp2_with fail
              exact ⟨rfl, rfl, fun d hd => by cases hd; simp only [List.getElem?_toArray, List.getElem?_cons_succ, List.getElem?_cons_zero]; rfl, hW⟩
            simp only [Act.put, List.setIfInBounds_toArray, List.set_cons_succ, List.set_cons_zero]
            apply seqS_op
            · intro W hW
              have k3 := (HK.out W hW).2.2.1
              have k4 := (HK.out W hW).2.2.2.1
              have k5 := (HK.out W hW).2.2.2.2
              go_wp2_with fail
              exact ⟨rfl, rfl, fun d hd => by cases hd; simp only [List.getElem?_toArray, List.getElem?_cons_succ, List.getElem?_cons_zero]; rfl, hW⟩
            simp only [Act.put, List.setIfInBounds_toArray, List.set_cons_succ, List.set_cons_zero]
            apply seqS_op
            · intro W hW
              go_wp2_with fail
              refine (HO.out W).mono ?_
              rintro e w1 ⟨rfl, hb1⟩
              go_wp2_with fail
              exact ⟨rfl, rfl, fun d hd => by cases hd; simp only [List.getElem?_toArray, List.getElem?_cons_succ, List.getElem?_cons_zero]; rfl, hW.trans (hb1.mono (by have := hW.size; simp at this; omega))⟩
            simp only [Act.put, List.setIfInBounds_toArray, List.set_cons_succ, List.set_cons_zero]
            iterate 3
              apply seqS_op
              · intro W hW
                go_wp2_with fail
                exact ⟨rfl, rfl, fun d hd => by cases hd; simp only [List.getElem?_toArray, List.getElem?_cons_succ, List.getElem?_cons_zero]; rfl, hW⟩
              simp only [Act.put, List.setIfInBounds_toArray, List.set_cons_succ, List.set_cons_zero]
            apply seqS_end
            intro W hW
            obtain ⟨hn1, hn2⟩ := HN.out W hW
            have Hn1 := Lib.hid hn1
            have Hn2 := Lib.hid hn2
            clear hn1 hn2 hW HN
            go_wp2_with fail
            go_roundw
            case rel => exact ⟨k + 1, by omega, by go_num, Hp2, Hn1, Hn2⟩
            case measure => simp [intOf]; omega
    · have i1 : ¬ (k : Int) < (m : Int) := by omega
      obtain rfl : r = true := HT.out (fun j hj => Hp.out j (by rw [Hlen.out] at hj; omega))
      go_wp2_with fail
      go_ret
      exact ⟨rfl, Hb.out⟩
end Go.Proofs.YtgphngjniplonaaGreatDoor

namespace Go.Proofs.YtgphngjniplonaaGreatDoor
open Go.RowKit
section
variable {N : Nat} {has : Nat → Nat → Bool} {a b : Nat}
end
end Go.Proofs.YtgphngjniplonaaGreatDoor
namespace Go.Proofs.YtgphngjniplonaaGreatDoor
open Go.RowKit
theorem okE_within {n : Int} {l : List GEdge} {k : Nat} {x : GEdge} (h : okE n l k = true) (hx : l[k]? = some x) : withinE x n = true := by
  unfold okE at h
  rw [hx] at h
  simp only [Bool.and_eq_true] at h
  exact h.1
theorem rightG_mem {n : Int} {l : List GEdge} (h : rightG n l = true) {x : GEdge} (hx : x ∈ l) : withinE x n = true := by
  simp only [rightG, Bool.and_eq_true, List.all_eq_true, List.mem_range] at h
  obtain ⟨i, hi⟩ := List.mem_iff_getElem?.1 hx
  exact okE_within (h.2 i (List.getElem?_eq_some_iff.1 hi).1) hi
end Go.Proofs.YtgphngjniplonaaGreatDoor
namespace Go.Proofs.YtgphngjniplonaaGreatDoor
open Go.RowKit Go.Sort
end Go.Proofs.YtgphngjniplonaaGreatDoor
namespace Go.Proofs.YtgphngjniplonaaGreatDoor
open Go.RowKit
theorem right_in {N : Nat} {l : List GEdge} (hr : rightG (N : Int) l = true) : ∀ e ∈ l, withinE e (N : Int) = true := fun _ he => rightG_mem hr he
end Go.Proofs.YtgphngjniplonaaGreatDoor
namespace Go.Proofs.YtgphngjniplonaaGreatDoor
open Go.RowKit
end Go.Proofs.YtgphngjniplonaaGreatDoor
namespace Go.Proofs.YtgphngjniplonaaGreatDoor
open Go.RowKit
end Go.Proofs.YtgphngjniplonaaGreatDoor
namespace Go.Proofs.YtgphngjniplonaaGreatDoor
open Go.RowKit
theorem info_redge : (Tryz.prog.info? 49).map (fun i => (i.zero, i.size, i.bytes)) = some (some (.agg #[.int .i64 0, .int .i64 0, .bool false]), 3, 24) := by kernel_rfl
end Go.Proofs.YtgphngjniplonaaGreatDoor
