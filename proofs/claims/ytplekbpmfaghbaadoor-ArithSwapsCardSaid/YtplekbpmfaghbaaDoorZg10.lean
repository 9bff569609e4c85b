/- My own texts PushR, ExpTerms, TSmall, Wide, CpExp, ArE, as far as this claim needs them. -/
import Derived.Test.YtplekbpmfaghbaaDoorZg6
import Derived.Test.YtplekbpmfaghbaaDoorZg8
import Derived.Test.YtplekbpmfaghbaaDoorZg9
import Derived.Deep.MidRow
import Derived.Great.Walk
import Derived.Great.BuildSlice
set_option linter.unusedVariables false
set_option linter.unusedSimpArgs false
namespace Go.Proofs.YtplekbpmfaghbaaDoor
open Go.RowKit
section
variable {P : Program}
/-- where the grown slice lies: in its row, or in a new one -/
theorem append_blk {w : World} {base t ty e size bytes : Nat} {i : TypeInfo} {z : Value} (ht : P.underlying t = some (.slice e)) (hi : P.info? e = some i) (hz : i.zero = some z) (hsize : i.size = size) (hby : i.bytes = bytes) (hsz : 0 < size)
    {v : Value} {n : Nat} {xs : List Value} (hown : w.ownsRow base e size v n xs) {a : Addr} {m c : Nat} {news : List Value} (hl : news.length = m * size) (hnews : ∀ j u, news[j]? = some u → w.cell? (a.add j) = some u) (h1 : ∀ u ∈ news, u.oneCell' = true)
    (h63 : n + m ≤ maxLen) (hbytes : (n + m) * bytes ≤ 140737488355328) {v' : Value} {w' : World} (hrun : (Builtin.append_ #[t, t] ty #[v, .slice (some a) m c]).run P w = .ok v' w') :
    ∀ b, v'.ownBlock = some b → v.ownBlock = some b ∨ w.heap.size ≤ b := by
  subst hsize
  subst hby
  have hsmall : n + m ≤ 9223372036854775807 := by simp only [maxLen] at h63; omega
  rcases hown.2 with ⟨rfl, rfl⟩ | ⟨g, cap, cur, rfl, hbg, hg, hnc, hcm, hcs, htake⟩
  · have hx : xs = [] := List.eq_nil_of_length_eq_zero (by simpa using hown.1)
    subst hx
    by_cases hm : m = 0
    · subst hm
      have hn : news = [] := List.eq_nil_of_length_eq_zero (by simpa using hl)
      subst hn
      have hr : (Builtin.append_ #[t, t] ty #[.slice none 0 0, .slice (some a) 0 c]).run P w = .ok (.slice none 0 0) w := by
        simp [Builtin.append_, run_underlying ht, sizeOf, typeInfo, hi, Builtin.lenOf, Builtin.firstCells, loadCells, loadCellsFrom]
      rw [hr] at hrun
      injection hrun with h2 h3
      subst h2
      intro b hb; cases hb
    · have hr := run_append_nil (P := P) w t ty e i z ht hi hz a m c news hl hnews (by omega) (by omega) (by have hb := hbytes; simp only [Nat.zero_add] at hb; omega)
      rw [hr] at hrun
      injection hrun with h2 h3
      subst h2
      intro b hb
      right
      simp [Value.ownBlock] at hb
      omega
  · by_cases hroom : n + m ≤ cap
    · have hfit : n * i.size + news.length ≤ cur.size := by rw [hl, hcs, ← Nat.add_mul]; exact Nat.mul_le_mul_right _ hroom
      have hr := run_append_room (P := P) w t ty e i ht hi g n cap cur hg a m c news hl hnews h1 hroom hfit
      rw [hr] at hrun
      injection hrun with h2 h3
      subst h2
      intro b hb
      left
      simpa [Value.ownBlock] using hb
    · have holds : ∀ j u, xs[j]? = some u → w.cell? ((⟨g, 0, none⟩ : Addr).add j) = some u := hown.cells (g := g) rfl
      have hr := run_append_grow (P := P) w t ty e i z ht hi hz ⟨g, 0, none⟩ n cap xs hown.1 holds a m c news hl hnews (by omega) (by omega) (growslice_fits (by omega) hbytes)
      rw [hr] at hrun
      injection hrun with h2 h3
      subst h2
      intro b hb
      right
      simp [Value.ownBlock] at hb
      omega
/-- one more element -/
theorem push_more (w : World) {base t ty e size bytes : Nat} {z : Value} (ht : P.underlying t = some (.slice e)) (hi : (P.info? e).map (fun i => (i.zero, i.size, i.bytes)) = some (some z, size, bytes))
    (hzs : z.cells.size = size) (hsz : 0 < size) {A : Option Addr} {n c : Nat} {xs : List Value} (hown : w.ownsRow base e size (.slice A n c) n xs) (g : Nat) (cs : List Value) (hl : cs.length = size) (hg : w.heap[g]? = some (.cells cs.toArray e (0, 0))) (h1 : ∀ u ∈ cs, u.oneCell' = true)
    (h63 : n + 1 ≤ maxLen) (hbytes : (n + 1) * bytes ≤ 140737488355328) (hbase : base ≤ w.heap.size) :
    ∃ A' c' w', (Builtin.append_ #[t, t] ty #[.slice A n c, .slice (some ⟨g, 0, none⟩) 1 1]).run P w = .ok (.slice A' (n + 1) c') w' ∧ w'.ownsRow base e size (.slice A' (n + 1) c') (n + 1) (xs ++ cs) ∧ Out (Value.slice A n c).ownBlock.toList w w' ∧
      (∀ b, (Value.slice A' (n + 1) c').ownBlock = some b → (Value.slice A n c).ownBlock = some b ∨ w.heap.size ≤ b) := by
  obtain ⟨v', w', h2, h3, h4, h5⟩ := run_push_at (P := P) (ty := ty) w ht hi hzs hsz hown g cs hl hg h1 h63 hbytes hbase
  obtain ⟨A', c', rfl⟩ := own_form h3
  obtain ⟨i, hi', hz, hs, hb⟩ := info_parts hi
  have hnews : ∀ j u, cs[j]? = some u → w.cell? ((⟨g, 0, none⟩ : Addr).add j) = some u := by
    intro j u hu
    have hadd : (⟨g, 0, none⟩ : Addr).add j = ⟨g, j, none⟩ := by unfold Addr.add; split <;> simp_all
    rw [hadd, cell_of_row _ g j cs.toArray e (0, 0) hg]
    simpa using hu
  exact ⟨A', c', w', h2, h3, grown_out h4, append_blk ht hi' hz hs hb hsz hown (by rw [hl]; omega) hnews h1 h63 hbytes h2⟩
/-- an operation that yields a value and leaves the world as it is -/
theorem op_val {o : Oper} {a : Act} {w : World} {K : Act → World → Prop} {Q : Exit → Act → World → Prop} (v : Value) (h : (execOp a.eval o).run P w = .ok (.value v) w) (hk : K (a.put o.dst v) w) : o.wp P a w K Q := by
  unfold Oper.wp
  rw [h]
  exact hk
theorem op_skip {o : Oper} {a : Act} {w w' : World} {K : Act → World → Prop} {Q : Exit → Act → World → Prop} (h : (execOp a.eval o).run P w = .ok .skip w') (hk : K (a.put o.dst undef) w') : o.wp P a w K Q := by
  unfold Oper.wp
  rw [h]
  exact hk
theorem op_append {w w' : World} {o : Oper} {a : Act} {K : Act → World → Prop} {Q : Exit → Act → World → Prop} {v' : Value} (s x : Operand) (t : TypeId)
    (ho : o.op = .call { callee := .builtin .append, args := #[s, x], argTypes := #[t, t] }) (v xv : Value) (hs : a.eval s = v) (hx : a.eval x = xv)
    (hrun : (Builtin.append_ #[t, t] o.type #[v, xv]).run P w = .ok v' w') (h : K (a.put o.dst v') w') : o.wp P a w K Q := by
  unfold Oper.wp execOp
  simp only [ho, resolve, invoke, builtin, Sem.run_bind, Sem.run_pure, Result.andThen_ok, List.map_toArray, List.map_cons, List.map_nil, hs, hx, hrun]
  exact h
theorem run_load1 {w : World} {ty e : TypeId} {a : Addr} {v : Value} (hu : P.underlying ty = some (.slice e)) (h : w.cell? a = some v) : (Instr.loadAt ty (.pointer (some a))).run P w = .ok v w := by
  have hagg : (isAgg ty).run P w = .ok false w := by
    unfold isAgg
    rw [Sem.run_bind, run_underlying hu w]
    rfl
  simp [Instr.loadAt, Instr.sureAddr, loadVar, hagg, go_sem, h]
theorem run_store1 {w : World} {ty : TypeId} {g q : Nat} {A : Option Addr} {n c : Nat} {cs : Array Value} {t : TypeId} (hi : (P.info? ty).map (·.size) = some 1) (hg : w.heap[g]? = some (.cells cs t (0, 0))) (hq : q < cs.size) : (Instr.storeAt ty (.pointer (some ⟨g, q, none⟩)) (.slice A n c)).run P w = .ok () (w.setCell ⟨g, q, none⟩ (.slice A n c)) := by
  obtain ⟨i, hi1, hi2⟩ := Option.map_eq_some_iff.1 hi
  have h1 : w.cell? ⟨g, q, none⟩ = some cs[q] := by rw [cell_of_row _ _ _ _ _ _ hg]; simp [hq]
  have h2 : w.frozen? ⟨g, q, none⟩ = false := frozen_of_row _ _ _ _ _ hg
  simp [Instr.storeAt, Instr.sureAddr, storeVar, sizeOf, typeInfo, hi1, hi2, go_sem, h1, h2]
theorem own_typeR {w : World} {base e sz : Nat} {v : Value} {n : Nat} {xs : List Value} (h : w.ownsRow base e sz v n xs) {b : Nat} (hb : v.ownBlock = some b) : ∃ cur, w.heap[b]? = some (.cells cur e (0, 0)) := by
  rcases h.2 with ⟨hn, _⟩ | ⟨g, cap, cur, rfl, hg, hh, r⟩
  · rw [hn] at hb; cases hb
  · injection hb with hb; subst hb; exact ⟨cur, hh⟩
theorem range_rowR {w : World} {g : Nat} {T : TypeId} {cs : List Value} (h : w.heap[g]? = some (.cells cs.toArray T (0, 0))) : w.rangeAt g 0 cs := fun j v hj => by
  rw [cell_of_row _ _ _ _ _ _ h]; simpa using hj
structure PushG (T xT g x : Nat) (S : List Nat) (cs : Array Value) (ecs : List Value) (w0 W : World) : Prop where
  g : W.heap[g]? = some (.cells cs T (0, 0))
  x : W.heap[x]? = some (.cells ecs.toArray xT (0, 0))
  out : Out S w0 W
theorem PushG.keep {T xT g x : Nat} {S : List Nat} {cs : Array Value} {ecs : List Value} {w0 W W' : World} (h : PushG T xT g x S cs ecs w0 W) (hb : Below W.heap.size W W') : PushG T xT g x S cs ecs w0 W' :=
  ⟨(hb.block _ (Array.getElem?_eq_some_iff.1 h.g).1).trans h.g, (hb.block _ (Array.getElem?_eq_some_iff.1 h.x).1).trans h.x, h.out.trans (Out.of_below hb []) (fun _ h _ => by cases h)⟩
end
section
variable {α : Type} {E : Enc α}
structure Rows (E : Enc α) (b1 eT : Nat) (W : World) (A : Option Addr) (k c : Nat) (L : List (α × List Value)) : Prop where
  own : W.ownsRow b1 eT E.sz (.slice A k c) k (L.flatMap (·.2))
  len : L.length = k
  far : ∀ p ∈ L, E.ok (sans W (List.range b1 ++ (Value.slice A k c).ownBlock.toList)) W.heap.size p.2 p.1
theorem Rows.nil (b1 eT : Nat) (W : World) : Rows E b1 eT W Option.none 0 0 [] := ⟨World.ownsRow_nil _ _ _ _, rfl, fun _ h => by cases h⟩
theorem Rows.out {b1 eT : Nat} {W W' : World} {A : Option Addr} {k c : Nat} {L : List (α × List Value)} {S : List Nat} (h : Rows E b1 eT W A k c L) (ho : Out S W W') (hS : ∀ b ∈ S, b < W.heap.size → b < b1) : Rows E b1 eT W' A k c L :=
  ⟨own_out' h.own (S := S.filter (fun b => decide (b < W.heap.size))) ⟨ho.os, ho.tape, ho.output, ho.size, fun b hb hn => ho.block b hb (fun hs => hn (List.mem_filter.2 ⟨hs, by simpa using hb⟩))⟩ (fun b hb hm => by
      have h1 := (own_blk h.own hb).1
      obtain ⟨h2, h3⟩ := List.mem_filter.1 hm
      have := hS b h2 (by simpa using h3)
      omega), h.len,
    fun p hp => E.mono ho.size (ho.kept (T := List.range b1 ++ (Value.slice A k c).ownBlock.toList) (fun b hb hl => List.mem_append_left _ (List.mem_range.2 (hS b hb hl))) (fun _ hb _ => hb)) (h.far p hp)⟩
theorem Rows.push {b1 eT : Nat} {W0 W : World} {A A' : Option Addr} {k c c' : Nat} {L : List (α × List Value)} {vcs : List Value} {x : α} (h : Rows E b1 eT W0 A k c L) (hb : b1 ≤ W0.heap.size)
    (hown : W.ownsRow b1 eT E.sz (.slice A' (k + 1) c') (k + 1) (L.flatMap (·.2) ++ vcs)) (hblk : ∀ b, (Value.slice A' (k + 1) c').ownBlock = some b → b ∈ (Value.slice A k c).ownBlock.toList ∨ W0.heap.size ≤ b) (ho : Out (Value.slice A k c).ownBlock.toList W0 W)
    (hx : E.ok (sans W (List.range W0.heap.size ++ (Value.slice A' (k + 1) c').ownBlock.toList)) W.heap.size vcs x) : Rows E b1 eT W A' (k + 1) c' (L ++ [(x, vcs)]) := by
  refine ⟨by simpa using hown, by simp [h.len], fun p hp => ?_⟩
  rcases List.mem_append.1 hp with hp | hp
  · refine E.mono ho.size (ho.kept (fun b hb _ => List.mem_append_right _ hb) (fun b hb hl => ?_)) (h.far p hp)
    rcases List.mem_append.1 hb with hb | hb
    · exact List.mem_append_left _ hb
    · rcases hblk b (by simpa using hb) with h1 | h1
      · exact List.mem_append_right _ h1
      · omega
  · obtain rfl : p = (x, vcs) := by simpa using hp
    refine E.mono (Nat.le_refl _) ((Out.refl [] W).kept (fun _ h _ => by cases h) (fun b hb' _ => ?_)) hx
    rcases List.mem_append.1 hb' with hb' | hb'
    · exact List.mem_append_left _ (List.mem_range.2 (by have := List.mem_range.1 hb'; omega))
    · exact List.mem_append_right _ hb'
theorem own_sans {w : World} {S : List Nat} {base e sz : Nat} {v : Value} {n : Nat} {xs : List Value} (h : w.ownsRow base e sz v n xs) (hS : ∀ b ∈ S, b < base) : (sans w S).ownsRow base e sz v n xs := by
  refine ⟨h.1, ?_⟩
  rcases h.2 with hn | ⟨g, cap, cur, rfl, hg, hh, r⟩
  · exact .inl hn
  · exact .inr ⟨g, cap, cur, rfl, hg, (sans_out (fun hs => by have := hS g hs; omega)).trans hh, r⟩
theorem flat_piece2 (sz : Nat) : ∀ (L : List (α × List Value)) (i : Nat) (p : α × List Value), (∀ q ∈ L, q.2.length = sz) → L[i]? = some p → ((L.flatMap (·.2)).drop (i * sz)).take sz = p.2
  | [], i, p, _, h => by simp at h
  | q :: L, 0, p, hl, h => by
    simp at h; subst h
    simp only [List.flatMap_cons, Nat.zero_mul, List.drop_zero]
    rw [← hl q (by simp)]
    exact List.take_left
  | q :: L, i + 1, p, hl, h => by
    simp only [List.flatMap_cons]
    rw [show (i + 1) * sz = q.2.length + i * sz by rw [hl q (by simp), Nat.add_mul, Nat.one_mul, Nat.add_comm], List.drop_append]
    rw [List.drop_eq_nil_of_le (Nat.le_add_right _ _), List.nil_append, Nat.add_sub_cancel_left]
    exact flat_piece2 sz L i p (fun q hq => hl q (by simp [hq])) (by simpa using h)
theorem Rows.is {b1 eT : Nat} {W : World} {A : Option Addr} {k c : Nat} {L : List (α × List Value)} (h : Rows E b1 eT W A k c L) (hk : k ≤ reachN) {base : Nat} (hb : base ≤ b1) : SliceFar E W (List.range base) A k c (L.map (·.1)) := by
  have h2 := own_sans (S := List.range base) h.own (fun b hb' => by have := List.mem_range.1 hb'; omega)
  have h3 := SliceIs.of_own (E := E) (l := L.map (·.1)) h2 (by simp [h.len]) hk (fun i x hx => by
    rw [List.getElem?_map, Option.map_eq_some_iff] at hx
    obtain ⟨p, hp, rfl⟩ := hx
    rw [flat_piece2 E.sz L i p (fun q hq => E.len (h.far q hq)) hp]
    rw [sans_size]
    exact E.mono (Nat.le_refl _) ((Out.refl [] W).kept (fun _ h _ => by cases h) (fun b hb' _ => List.mem_append_left _ (List.mem_range.2 (by have := List.mem_range.1 hb'; omega)))) (h.far p (List.mem_of_getElem? hp)))
  rw [sans_size] at h3
  exact h3
end
end Go.Proofs.YtplekbpmfaghbaaDoor

namespace Go.Proofs.YtplekbpmfaghbaaDoor
open Go.RowKit
mutual
/-- an expression's terms -/
def leavesE : GExp → List GTold
  | .mk _ t [] => [t]
  | .mk _ _ (k :: ks) => leavesE k ++ leavesL ks
def leavesL : List GExp → List GTold
  | [] => []
  | k :: ks => leavesE k ++ leavesL ks
end
/-- old rows of other types than T stay -/
def KeepsT (T : TypeId) (w w' : World) : Prop := ∀ (b : Nat) (cs : Array Value) (t : TypeId) (fr : Nat × Nat), w.heap[b]? = some (Obj.cells cs t fr) → t ≠ T → w'.heap[b]? = some (Obj.cells cs t fr)
theorem KeepsT.refl (T : TypeId) (w : World) : KeepsT T w w := fun _ _ _ _ h _ => h
theorem KeepsT.trans {T : TypeId} {w w1 w2 : World} (h : KeepsT T w w1) (k : KeepsT T w1 w2) : KeepsT T w w2 := fun b cs t fr hb ht => k b cs t fr (h b cs t fr hb ht) ht
theorem KeepsT.of_below {T : TypeId} {w w' : World} (h : Below w.heap.size w w') : KeepsT T w w' := fun b _ _ _ hb _ => (h.block b (Array.getElem?_eq_some_iff.1 hb).1).trans hb
end Go.Proofs.YtplekbpmfaghbaaDoor

namespace Go.Proofs.YtplekbpmfaghbaaDoor
open Go.RowKit
theorem szL_pos : ∀ (ks : List GExp) (l : Int), 0 ≤ szL ks l → 0 ≤ l
  | [], l, h => by rw [szL] at h; exact h
  | k :: ks, l, h => by
    rw [szL] at h
    split at h
    · omega
    · omega
theorem szE_pos (e : GExp) (l : Int) (h : 0 ≤ szE e l) : 1 ≤ l := by
  rw [szE_def] at h
  have := szL_pos _ _ h
  omega
theorem szL_mem : ∀ (ks : List GExp) (l : Int), 0 ≤ szL ks l → ∀ k ∈ ks, ∃ l', 0 ≤ l' ∧ l' ≤ l ∧ 0 ≤ szE k l'
  | [], l, h, k, hk => by cases hk
  | q :: ks, l, h, k, hk => by
    rw [szL] at h
    split at h
    · omega
    · have h1 := szL_pos _ _ h
      rcases List.mem_cons.1 hk with rfl | hk
      · exact ⟨l, by omega, by omega, h1⟩
      · obtain ⟨l', a, b, c⟩ := szL_mem ks _ h k hk
        have := szE_le q l (by omega)
        exact ⟨l', a, by omega, c⟩
theorem szL_len : ∀ (ks : List GExp) (l : Int), 0 ≤ szL ks l → (ks.length : Int) ≤ l - szL ks l
  | [], l, h => by rw [szL]; simp
  | k :: ks, l, h => by
    rw [szL] at h ⊢
    split at h
    · omega
    · rename_i hl
      rw [if_neg hl]
      have h1 := szL_pos _ _ h
      have h2 := szL_len ks _ h
      have h3 := szL_pos _ _ (by rw [szE_def] at h1; exact h1)
      have h4 : szE k l ≤ l - 1 := by
        rw [szE_def]
        have := szL_le k.kids (l - (1 + (((k.t.x.size + k.t.v.s.size) / 50 : Nat) : Int)))
        omega
      simp only [List.length_cons]
      omega
mutual
theorem leavesE_len : ∀ (e : GExp) (l : Int), 0 ≤ szE e l → ((leavesE e).length : Int) ≤ l - szE e l
  | .mk o t [], l, h => by rw [szE, szL, leavesE]; simp; omega
  | .mk o t (k :: ks), l, h => by
    rw [szE, szL] at h ⊢
    split at h
    · omega
    · rename_i hl
      rw [if_neg hl]
      have h1 := szL_pos _ _ h
      have h2 := leavesE_len k _ h1
      have h3 := leavesL_len ks _ h
      rw [leavesE]
      simp only [List.length_append]
      omega
theorem leavesL_len : ∀ (ks : List GExp) (l : Int), 0 ≤ szL ks l → ((leavesL ks).length : Int) ≤ l - szL ks l
  | [], l, h => by rw [szL, leavesL]; simp
  | k :: ks, l, h => by
    rw [szL] at h ⊢
    split at h
    · omega
    · rename_i hl
      rw [if_neg hl]
      have h1 := szL_pos _ _ h
      have h2 := leavesE_len k _ h1
      have h3 := leavesL_len ks _ h
      rw [leavesL]
      simp only [List.length_append]
      omega
end
/-- an expression of at most 1500 things -/
def Sm (e : GExp) : Prop := ∃ l : Int, 0 ≤ l ∧ l ≤ 1500 ∧ 0 ≤ szE e l
theorem Sm.of {e : GExp} {l : Int} (h : 0 ≤ szE e l) (hl : l ≤ 1500) : Sm e := ⟨l, by have := szE_pos e l h; omega, hl, h⟩
theorem Sm.kids {e : GExp} (h : Sm e) : ∀ k ∈ e.kids, Sm k := by
  obtain ⟨l, h0, h1, h2⟩ := h
  rw [szE_def] at h2
  intro k hk
  obtain ⟨l', a, b, c⟩ := szL_mem _ _ h2 k hk
  exact ⟨l', a, by omega, c⟩
theorem Sm.len {e : GExp} (h : Sm e) : e.kids.length ≤ 1500 := by
  obtain ⟨l, h0, h1, h2⟩ := h
  rw [szE_def] at h2
  have := szL_len _ _ h2
  omega
theorem Sm.leaves {e : GExp} (h : Sm e) : (leavesE e).length ≤ 1500 := by
  obtain ⟨l, h0, h1, h2⟩ := h
  have := leavesE_len _ _ h2
  omega
end Go.Proofs.YtplekbpmfaghbaaDoor

namespace Go.Proofs.YtplekbpmfaghbaaDoor
open Go.RowKit Go.Great
theorem setRow_new (w : World) (old cells : Array Value) (T : TypeId) : (w.alloc (.cells old T)).setRow w.heap.size cells = w.alloc (.cells cells T) := by
  have h : ((w.alloc (.cells old T)).setRow w.heap.size cells).heap = (w.alloc (.cells cells T)).heap := by
    apply Array.ext_getElem?
    intro i
    rcases Nat.lt_trichotomy i w.heap.size with h | h | h
    · have h1 := Below.heap_alloc w (.cells cells T) i h
      have h2 := Below.heap_alloc w (.cells old T) i h
      rw [h1, ← h2]
      simp only [World.setRow, Array.getElem?_modify]
      rw [if_neg (by omega)]
    · subst h
      have h1 := Go.heap_alloc_new w (.cells cells T)
      have h2 := Go.heap_alloc_new w (.cells old T)
      rw [h1]
      simp only [World.setRow, Array.getElem?_modify, if_true]
      rw [h2]; rfl
    · rw [Array.getElem?_eq_none (by simp [World.setRow]; omega), Array.getElem?_eq_none (by simp; omega)]
  exact congrArg (fun hp => ({ w.alloc (.cells cells T) with heap := hp } : World)) h
section
variable {P : Program}
set_option maxRecDepth 20000 in
theorem run_alloc_ty (ev : Operand → Value) (w : World) (o : Oper) (ty : TypeId) (ho : o.op = .alloc ty) (zs : Array Value) (n : Nat) (hi : (P.info? ty).map (fun i => (i.zero, i.size)) = some (some (.agg zs), n)) :
   (execOp ev o).run P w = .ok (.value (.pointer (some ⟨w.heap.size, 0, none⟩))) (w.alloc (.cells zs ty)) := by
  obtain ⟨i, hi1, hi2⟩ := Option.map_eq_some_iff.1 hi
  injection hi2 with h1 h2
  have hzv : (zeroValue ty).run P w = .ok (.agg zs) w := by simp [zeroValue, typeInfo, hi1, h1]
  unfold execOp
  simp [ho, go_sem, hzv]
/-- a new variable that a struct is put into: 'alloc' and 'store', the two of them -/
theorem wpList_new {ops : Array Oper} {rest : List Oper} {o1 o2 : Oper} {a : Act} {w : World} {Q : Exit → Act → World → Prop} (g1 : o1.guard = none) (g2 : o2.guard = none) (ty : TypeId) (d : Tmp) (x : Operand) (h1 : o1.op = .alloc ty) (hd1 : o1.dst = some d) (h2 : o2.op = .store ty (.tmp d) x) (hd2 : o2.dst = none)
    (zs : Array Value) (cells : Array Value) (hi : (P.info? ty).map (fun i => (i.zero, i.size)) = some (some (.agg zs), zs.size)) (hs : zs.size = cells.size) (hone : cells.all (·.oneCell') = true)
    (hp : (a.put (some d) (.pointer (some ⟨w.heap.size, 0, none⟩))).eval (.tmp d) = .pointer (some ⟨w.heap.size, 0, none⟩)) (hx : (a.put (some d) (.pointer (some ⟨w.heap.size, 0, none⟩))).eval x = .agg cells)
    (h : wpList P ops Q rest (a.put (some d) (.pointer (some ⟨w.heap.size, 0, none⟩))) (w.alloc (.cells cells ty))) : wpList P ops Q (o1 :: o2 :: rest) a w := by
  refine wpList_allocTo g1 (some d) hd1 _ _ (run_alloc_ty _ w o1 ty h1 zs _ hi) ?_
  refine wpList_store_rowTo g2 ty (.tmp d) x h2 hd2 w.heap.size cells hp hx ty zs (Go.heap_alloc_new w _) ?_ hs hone ?_
  · obtain ⟨i, hi1, hi2⟩ := Option.map_eq_some_iff.1 hi
    injection hi2 with h3 h4
    rw [hi1]; simp [h4, hs]
  · rw [setRow_new]; exact h
end
abbrev zLit : List Value := litC ⟨0, ⟨⟨#[]⟩, []⟩, 0, .mk 0 ⟨⟨#[]⟩, ⟨0, 0, ⟨#[]⟩⟩⟩ [], .mk 0 ⟨⟨#[]⟩, ⟨0, 0, ⟨#[]⟩⟩⟩ [], 0⟩ ⟨none, 0, 0⟩ ⟨none, 0, 0⟩ ⟨none, 0, 0⟩
theorem lit_one (x : GLit) (a p q : Hd) : (litC x a p q).toArray.all (·.oneCell') = true := by simp [Value.oneCell']
theorem range_row {w : World} {g : Nat} {T : TypeId} {cs : List Value} (h : w.heap[g]? = some (.cells cs.toArray T (0, 0))) : w.rangeAt g 0 cs := fun j v hj => by
  rw [cell_of_row _ _ _ _ _ _ h]; simpa using hj
end Go.Proofs.YtplekbpmfaghbaaDoor

namespace Go.Proofs.YtplekbpmfaghbaaDoor
open Go.RowKit
abbrev zeC : List Value := [.int .i64 0, .string ⟨#[]⟩, .int .i64 0, .int .i64 0, .string ⟨#[]⟩, .slice none 0 0]
abbrev expC (e : GExp) (A : Option Addr) (n c : Nat) : List Value := [.int .i64 e.op, .string e.t.x, .int .i64 e.t.v.k, .int .i64 e.t.v.n, .string e.t.v.s, .slice A n c]
end Go.Proofs.YtplekbpmfaghbaaDoor

namespace Go.Proofs.YtplekbpmfaghbaaDoor
open Go.RowKit
set_option maxRecDepth 100000 in
set_option maxHeartbeats 400000 in
theorem ofw_any (n : Int) (w : World) : Calls Tryd.prog 5 #[.int .i64 n] w (TermErr (ofW n) (errV 40) w) := by
  have hb := fun w => bounded_any n w
  cases h : bndI n with
  | true =>
    have HE : Hid (ofW n = (⟨1, n, ⟨#[]⟩⟩, 0)) := by show _ = _; rw [ofW, if_pos h]
    rw [show (decide (-2147483647 ≤ n) && decide (n ≤ 2147483647)) = true from h] at hb
    have hb := Lib.hid hb
    clear h
    go_enter Tryd.func5, Tryd.ntmps5
    go_wp2_with fail
    refine (hb.out _).mono ?_
    rintro e w1 ⟨rfl, hq1⟩
    obtain ⟨hc, hf⟩ := bcell hq1
    have hz := hq1.size
    simp only [World.size_alloc, Nat.add_one_le_iff] at hz hc hf
    go_wp2_with fail
    exact bodyPost_ret (v := .tuple #[.agg #[.int .i64 1, .int .i64 n, .string ⟨#[]⟩], .nilIface]) (by simp [results, Tryd.results5, go_sem, hc]) rfl ⟨by rw [HE.out]; rfl, (((below_next (belowA (Below.refl _ w) _) hq1).setCell (Nat.le_refl _) _).setCell (Nat.le_refl _) _).setCell (Nat.le_refl _) _⟩
  | false =>
    have HE : Hid (ofW n = (gv0, 10)) := by show _ = _; rw [ofW, if_neg (by rw [h]; simp)]
    rw [show (decide (-2147483647 ≤ n) && decide (n ≤ 2147483647)) = false from h] at hb
    have hb := Lib.hid hb
    clear h
    go_enter Tryd.func5, Tryd.ntmps5
    go_wp2_with fail
    refine (hb.out _).mono ?_
    rintro e w1 ⟨rfl, hq1⟩
    obtain ⟨hc, hf⟩ := bcell hq1
    have hz := hq1.size
    simp only [World.size_alloc, Nat.add_one_le_iff] at hz hc hf
    go_wp2_with fail
    exact bodyPost_ret (v := .tuple #[gv0.v, .iface 40 (.int .i64 10)]) (by simp [results, Tryd.results5, go_sem, hc, gv0]) rfl ⟨by rw [HE.out]; rfl, (((below_next (belowA (Below.refl _ w) _) hq1).setCell (Nat.le_refl _) _).setCell (Nat.le_refl _) _).setCell (Nat.le_refl _) _⟩
theorem frz3 {w : World} {b : Nat} {cs : Array Value} {T : TypeId} (h : w.heap[b]? = some (.cells cs T (0, 0))) : w.frozen? ⟨b, 0, none⟩ = false ∧ w.frozen? ⟨b, 1, none⟩ = false ∧ w.frozen? ⟨b, 2, none⟩ = false :=
  ⟨frozen_of_row _ _ _ _ _ h, frozen_of_row _ _ _ _ _ h, frozen_of_row _ _ _ _ _ h⟩
def NumP (q : Int × Int) (w : World) (e : Ending) (w' : World) : Prop := e = .returned (.tuple #[.int .i64 q.1, errV 40 q.2]) ∧ Below w.heap.size w w'
set_option maxRecDepth 100000 in
set_option maxHeartbeats 1000000 in
theorem number_any (p : GV × Int) (x : GExp) (A : Option Addr) (n c : Nat) (m : Value) (w : World) (H : ∀ W, Below w.heap.size w W → Calls Tryd.prog 14 #[expV x A n c, m] W (TermErr p (errV 40) W)) :
    Calls Tryd.prog 20 #[expV x A n c, m] w (NumP (numV p) w) := by
  obtain ⟨v, er⟩ := p
  have hba : Below w.heap.size w (w.alloc (.cells (expC x A n c).toArray 34)) := belowA (Below.refl _ _) _
  have HC := Lib.hid (H _ hba)
  have HB := Lib.hid hba
  clear H hba
  by_cases he : er = 0
  · subst he
    by_cases hk : v.k = 1
    · have HE : Hid (numV (v, 0) = (v.n, 0)) := by show _ = _; simp [numV, hk]
      have q0 : (v.k != 1) = false := by simp [hk]
      clear hk
      go_enter Tryd.func20, Tryd.ntmps20
      go_wp2_with fail
      refine HC.out.mono ?_
      rintro e w1 ⟨rfl, hb⟩
      have HB1 := Lib.hid (below_next HB.out hb)
      have hz := hb.size
      clear hb
      simp only [errV, if_true]
      go_wp2_with fail
      exact bodyPost_ret (v := .tuple #[.int .i64 v.n, .nilIface]) (by simp [results, Tryd.results20, go_sem]) rfl ⟨by rw [HE.out]; rfl, belowA HB1.out _⟩
    · have HE : Hid (numV (v, 0) = (0, 7)) := by show _ = _; simp [numV, hk]
      have q0 : (v.k != 1) = true := by simp [hk]
      clear hk
      go_enter Tryd.func20, Tryd.ntmps20
      go_wp2_with fail
      refine HC.out.mono ?_
      rintro e w1 ⟨rfl, hb⟩
      have HB1 := Lib.hid (below_next HB.out hb)
      have hz := hb.size
      clear hb
      simp only [errV, if_true]
      go_wp2_with fail
      exact bodyPost_ret (v := .tuple #[.int .i64 0, .iface 40 (.int .i64 7)]) (by simp [results, Tryd.results20, go_sem]) rfl ⟨by rw [HE.out]; rfl, belowA HB1.out _⟩
  · have HE : Hid (numV (v, er) = (0, er)) := by show _ = _; simp [numV, he]
    have he2 : errV 40 er = .iface 40 (.int .i64 er) := by unfold errV; rw [if_neg he]
    unfold TermErr at HC
    simp only [he2] at HC
    have He2 := Lib.hid he2
    clear he he2
    go_enter Tryd.func20, Tryd.ntmps20
    go_wp2_with fail
    refine HC.out.mono ?_
    rintro e w1 ⟨rfl, hb⟩
    have HB1 := Lib.hid (below_next HB.out hb)
    have hz := hb.size
    clear hb
    go_wp2_with fail
    exact bodyPost_ret (v := .tuple #[.int .i64 0, .iface 40 (.int .i64 er)]) (by simp [results, Tryd.results20, go_sem]) rfl ⟨by rw [HE.out, ← He2.out], belowA HB1.out _⟩
set_option maxRecDepth 100000 in
set_option maxHeartbeats 1000000 in
theorem evalLeaf_any (m : Value) (f : ByteArray → Option GV) (x : GExp) (A : Option Addr) (n c : Nat) (w : World) (h0 : x.op = 0) (hm : EnvIs w m f) : Calls Tryd.prog 14 #[expV x A n c, m] w (TermErr (termS f x.t) (errV 40) w) := by
  have hba : Below w.heap.size w ((w.alloc (.cells (expC x A n c).toArray 34)).alloc (.cells #[.int .i64 0, .int .i64 0, .string ⟨#[]⟩] 25)) := belowA (belowA (Below.refl _ _) _) _
  have HC := Lib.hid (aterm_any m f x.t _ (hm.below hba))
  have HB := Lib.hid hba
  have q0 : (x.op == 0) = true := by simp [h0]
  clear hba hm h0
  unfold TermErr at HC ⊢
  generalize termS f x.t = p at *
  generalize errV 40 p.2 = ev at *
  obtain ⟨v, er⟩ := p
  go_enter Tryd.func14, Tryd.ntmps14
  go_wp2_with fail
  refine HC.out.mono ?_
  rintro e w1 ⟨rfl, hb⟩
  have HB1 := Lib.hid (below_next HB.out hb)
  obtain ⟨hc, hf⟩ := bcell hb
  have hz := hb.size
  simp only [World.size_alloc, Nat.add_one_le_iff] at hz hc hf
  clear hb
  go_wp2_with fail
  exact bodyPost_ret (v := .tuple #[v.v, ev]) (by simp [results, Tryd.results14, go_sem, hc]) rfl ⟨rfl, ((HB1.out.setCell (by simp) _).setCell (by simp) _).setCell (by simp) _⟩
set_option maxRecDepth 100000 in
set_option maxHeartbeats 4000000 in
theorem eval_any (m : Value) (f : ByteArray → Option GV) : ∀ (k : Nat) (x : GExp) (A : Option Addr) (n c d : Nat) (w : World), rightE k x = true → SliceIs (Enc.exp d) w w.heap.size A n c x.kids → EnvIs w m f → Calls Tryd.prog 14 #[expV x A n c, m] w (TermErr (evalS f k x) (errV 40) w) := by
  intro k
  induction k with
  | zero =>
    intro x A n c d w hr hk hm
    have h0 : x.op = 0 := by
      by_cases h0 : x.op = 0
      · exact h0
      · rw [rightE_flat h0] at hr; cases hr
    rw [evalS_leaf h0]
    exact evalLeaf_any m f x A n c w h0 hm
  | succ k ih =>
    intro x A n c d w hr hk hm
    by_cases h0 : x.op = 0
    · rw [evalS_leaf h0]
      exact evalLeaf_any m f x A n c w h0 hm
    have IH := Lib.hid ih
    clear ih
    obtain ⟨y, z, hks, hry, hrz, ho1, ho3⟩ : ∃ y z, x.kids = [y, z] ∧ rightE k y = true ∧ rightE k z = true ∧ 1 ≤ x.op ∧ x.op ≤ 3 := by
      rw [rightE, if_neg h0, Bool.and_eq_true] at hr
      obtain ⟨h1, h2⟩ := hr
      unfold opE at h1
      simp only [Bool.and_eq_true, decide_eq_true_eq] at h1
      split at h2
      · rename_i a b hk
        rw [Bool.and_eq_true] at h2
        exact ⟨a, b, hk, h2.1, h2.2, h1.1.1, h1.1.2⟩
      · cases h2
    have HEV : Hid (evalS f (k + 1) x = if (numV (evalS f k y)).2 ≠ 0 then (gv0, (numV (evalS f k y)).2) else if (numV (evalS f k z)).2 ≠ 0 then (gv0, (numV (evalS f k z)).2) else ofW (opN x.op (numV (evalS f k y)).1 (numV (evalS f k z)).1)) := evalS_two h0 hks
    have hn2 : n = 2 := by have := hk.1; rw [hks] at this; exact this.symm
    subst hn2
    obtain ⟨b, o, y', Ay, ny, cy, dy, rfl, hbb, hky, hdy, y0, y1, y2, y3, y4, y5, -, -, -, hkky⟩ := hk.exp_at (i := 0) (by omega)
    obtain ⟨b', o', z', Az, nz, cz, dz, hAz, hbb', hkz, hdz, z0, z1, z2, z3, z4, z5, -, -, -, hkkz⟩ := hk.exp_at (i := 1) (by omega)
    obtain rfl : y = y' := by have := hky.out; rw [hks] at this; simpa using this
    obtain rfl : z = z' := by have := hkz.out; rw [hks] at this; simpa using this
    injection hAz with hAz
    injection hAz with e1 e2 _
    subst e1 e2
    simp only [Nat.zero_mul, Nat.add_zero, Nat.one_mul] at y0 y1 y2 y3 y4 y5 z0 z1 z2 z3 z4 z5
    have hba : Below w.heap.size w ((w.alloc (.cells (expC x (some ⟨b, o, none⟩) 2 c).toArray 34)).alloc (.cells #[.int .i64 0, .int .i64 0, .string ⟨#[]⟩] 25)) := belowA (belowA (Below.refl _ _) _) _
    have hrow : ((w.alloc (.cells (expC x (some ⟨b, o, none⟩) 2 c).toArray 34)).alloc (.cells #[.int .i64 0, .int .i64 0, .string ⟨#[]⟩] 25)).heap[w.heap.size]? = some (.cells (expC x (some ⟨b, o, none⟩) 2 c).toArray 34 (0, 0)) := heapOld (heapNew rfl)
    have CY := Lib.hid (fun (W : World) (hb : Below w.heap.size w W) => number_any (evalS f k y) y Ay ny cy m W (fun W' hb' => IH.out y Ay ny cy dy W' hry ((hkky.keep hb).keep hb') ((hm.below hb).below hb')))
    have CZ := Lib.hid (fun (W : World) (hb : Below w.heap.size w W) => number_any (evalS f k z) z Az nz cz m W (fun W' hb' => IH.out z Az nz cz dz W' hrz ((hkkz.keep hb).keep hb') ((hm.below hb).below hb')))
    have HY : Hid (∀ W, Below w.heap.size w W → W.cell? ⟨b, o, none⟩ = some (.int .i64 y.op) ∧ W.cell? ⟨b, o + 1, none⟩ = some (.string y.t.x) ∧ W.cell? ⟨b, o + 2, none⟩ = some (.int .i64 y.t.v.k) ∧ W.cell? ⟨b, o + 3, none⟩ = some (.int .i64 y.t.v.n) ∧ W.cell? ⟨b, o + 4, none⟩ = some (.string y.t.v.s) ∧ W.cell? ⟨b, o + 5, none⟩ = some (.slice Ay ny cy)) :=
      fun W h => ⟨below_cell h y0, below_cell h y1, below_cell h y2, below_cell h y3, below_cell h y4, below_cell h y5⟩
    have HZ : Hid (∀ W, Below w.heap.size w W → W.cell? ⟨b, o + 6, none⟩ = some (.int .i64 z.op) ∧ W.cell? ⟨b, o + 6 + 1, none⟩ = some (.string z.t.x) ∧ W.cell? ⟨b, o + 6 + 2, none⟩ = some (.int .i64 z.t.v.k) ∧ W.cell? ⟨b, o + 6 + 3, none⟩ = some (.int .i64 z.t.v.n) ∧ W.cell? ⟨b, o + 6 + 4, none⟩ = some (.string z.t.v.s) ∧ W.cell? ⟨b, o + 6 + 5, none⟩ = some (.slice Az nz cz)) :=
      fun W h => ⟨below_cell h z0, below_cell h z1, below_cell h z2, below_cell h z3, below_cell h z4, below_cell h z5⟩
    have bnd1 := Lib.hid (numV_bnd (f := f) (k := k) (e := y))
    have bnd2 := Lib.hid (numV_bnd (f := f) (k := k) (e := z))
    have q0 : (x.op == 0) = false := by simp [h0]
    obtain ⟨P, HP⟩ : ∃ P : Ending → World → Prop, Hid (P = TermErr (evalS f (k + 1) x) (errV 40) w) := ⟨_, rfl⟩
    rw [← HP.out]
    have HPost : Hid (∀ p : GV × Int, evalS f (k + 1) x = p → ∀ w', Below w.heap.size w w' → P (.returned (.tuple #[p.1.v, errV 40 p.2])) w') := fun p hp w' hb => by rw [HP.out, hp]; exact ⟨rfl, hb⟩
    clear hky hkz hdy hdz hkky hkkz hks hry hrz hr hk hm y0 y1 y2 y3 y4 y5 z0 z1 z2 z3 z4 z5 hbb hbb' IH h0 HP
    generalize hp1 : numV (evalS f k y) = p1 at *
    generalize hp2 : numV (evalS f k z) = p2 at *
    clear hp1 hp2
    obtain ⟨i1, e1⟩ := p1
    obtain ⟨i2, e2⟩ := p2
    have hev := HEV.out
    have bd1 := bnd1.out
    have bd2 := bnd2.out
    dsimp only at hev bd1 bd2
    have CY1 := CY.out
    have CZ1 := CZ.out
    unfold NumP at CY1 CZ1
    dsimp only at CY1 CZ1
    clear HEV CY CZ bnd1 bnd2
    generalize hwb : (w.alloc (.cells (expC x (some ⟨b, o, none⟩) 2 c).toArray 34)).alloc (.cells #[.int .i64 0, .int .i64 0, .string ⟨#[]⟩] 25) = wb at *
    have hlt : w.heap.size + 2 ≤ wb.heap.size := by rw [← hwb]; simp
    have HROW : Hid (∀ W, Below wb.heap.size wb W → W.heap[w.heap.size]? = some (.cells (expC x (some ⟨b, o, none⟩) 2 c).toArray 34 (0, 0))) := fun W h => (h.block _ (by omega)).trans hrow
    have hz3 : wb.heap[w.heap.size + 1]? = some (.cells #[.int .i64 0, .int .i64 0, .string ⟨#[]⟩] 25 (0, 0)) := by rw [← hwb]; exact heapNew (by simp)
    have HZ3 : Hid (∀ W, Below wb.heap.size wb W → W.heap[w.heap.size + 1]? = some (.cells #[.int .i64 0, .int .i64 0, .string ⟨#[]⟩] 25 (0, 0))) := fun W h => (h.block _ (by omega)).trans hz3
    have HBA := Lib.hid hba
    obtain ⟨r0, r1, r2, r3, r4, r5⟩ := facts6 hrow
    obtain ⟨v0, v1, v2, v3, v4, v5⟩ := HY.out wb hba
    clear hrow hz3 hba HY
    by_cases he1 : e1 = 0
    rotate_left
    · have HG := Lib.hid (HPost.out (gv0, e1) (by rw [hev, if_pos he1]))
      have ev : errV 40 e1 = .iface 40 (.int .i64 e1) := by unfold errV; rw [if_neg he1]
      dsimp only at HG
      rw [ev] at HG
      simp only [ev] at CY1
      have CY := Lib.hid CY1
      clear he1 ev hev CY1 CZ1 HPost HZ
      go_enter Tryd.func14, Tryd.ntmps14
      go_wp2_with fail
      try simp only [hwb]
      clear hwb
      go_wp2_with fail
      refine (CY.out _ HBA.out).mono ?_
      rintro e w1 ⟨rfl, hb1⟩
      have HB1 := Lib.hid (below_next HBA.out hb1)
      obtain ⟨s0, s1, s2⟩ := facts3 (HZ3.out _ hb1)
      obtain ⟨z0, z1, z2⟩ := frz3 (HZ3.out _ hb1)
      have hz1 : w.heap.size + 1 < w1.heap.size := by have := hb1.size; omega
      clear hb1
      go_wp2_with fail
      exact bodyPost_ret (v := .tuple #[gv0.v, .iface 40 (.int .i64 e1)]) (by simp [results, Tryd.results14, go_sem, gv0, s0, s1, s2]) rfl (HG.out _ (((HB1.out.setCell (by simp) _).setCell (by simp) _).setCell (by simp) _))
    subst he1
    rw [if_neg (by simp)] at hev
    simp only [errV, if_true] at CY1
    have CY := Lib.hid CY1
    clear CY1
    by_cases he2 : e2 = 0
    rotate_left
    · have HG := Lib.hid (HPost.out (gv0, e2) (by rw [hev, if_pos he2]))
      have ev : errV 40 e2 = .iface 40 (.int .i64 e2) := by unfold errV; rw [if_neg he2]
      dsimp only at HG
      rw [ev] at HG
      simp only [ev] at CZ1
      have CZ := Lib.hid CZ1
      clear he2 ev hev CZ1 HPost
      go_enter Tryd.func14, Tryd.ntmps14
      go_wp2_with fail
      try simp only [hwb]
      clear hwb
      go_wp2_with fail
      refine (CY.out _ HBA.out).mono ?_
      rintro e w1 ⟨rfl, hb1⟩
      obtain ⟨r0', r1', r2', r3', r4', r5'⟩ := facts6 (HROW.out _ hb1)
      obtain ⟨u0, u1, u2, u3, u4, u5⟩ := HZ.out w1 (below_next HBA.out hb1)
      have HB1 := Lib.hid hb1
      clear hb1 r0 r1 r2 r3 r4 r5 v0 v1 v2 v3 v4 v5
      go_wp2_with fail
      refine (CZ.out _ (below_next HBA.out HB1.out)).mono ?_
      rintro e w2 ⟨rfl, hb2⟩
      have hb12 := below_next HB1.out hb2
      have HB2 := Lib.hid (below_next HBA.out hb12)
      obtain ⟨s0, s1, s2⟩ := facts3 (HZ3.out _ hb12)
      obtain ⟨z0, z1, z2⟩ := frz3 (HZ3.out _ hb12)
      have hz1 : w.heap.size + 1 < w2.heap.size := by have := hb12.size; omega
      clear hb2 hb12
      go_wp2_with fail
      exact bodyPost_ret (v := .tuple #[gv0.v, .iface 40 (.int .i64 e2)]) (by simp [results, Tryd.results14, go_sem, gv0, s0, s1, s2]) rfl (HG.out _ (((HB2.out.setCell (by simp) _).setCell (by simp) _).setCell (by simp) _))
    subst he2
    rw [if_neg (by simp)] at hev
    simp only [errV, if_true] at CZ1
    have CZ := Lib.hid CZ1
    clear CZ1
    have hob := opN_bnd (o := x.op) bd1 bd2
    have HG := Lib.hid (HPost.out _ hev)
    clear HPost hev
    have hops : x.op = 1 ∨ x.op = 2 ∨ x.op = 3 := by omega
    obtain ⟨N, hN⟩ : ∃ N, opN x.op i1 i2 = N := ⟨_, rfl⟩
    rw [hN] at HG hob
    have CO := Lib.hid (fun W => ofw_any N W)
    unfold TermErr at CO
    generalize ofW N = pn at *
    obtain ⟨vn, en⟩ := pn
    dsimp only at CO HG
    generalize errV 40 en = en' at *
    have hq : ((x.op == 1) = true ∧ i1 + i2 = N) ∨ ((x.op == 1) = false ∧ (x.op == 2) = true ∧ i1 - i2 = N) ∨ ((x.op == 1) = false ∧ (x.op == 2) = false ∧ wrap64 (i1 * i2) = N) := by
      rcases hops with hop | hop | hop
      · exact .inl ⟨by simp [hop], by rw [← hN, hop]; rfl⟩
      · exact .inr (.inl ⟨by simp [hop], by simp [hop], by rw [← hN, hop]; rfl⟩)
      · refine .inr (.inr ⟨by simp [hop], by simp [hop], ?_⟩)
        have : opN x.op i1 i2 = i1 * i2 := by rw [hop]; rfl
        rw [← hN, this]; rw [← hN, this] at hob; generalize i1 * i2 = pp at *; unfold wrap64; omega
    clear hN hob ho1 ho3 hops
    rcases hq with ⟨q1, hw⟩ | ⟨q1, q2, hw⟩ | ⟨q1, q2, hw⟩
    all_goals
      go_enter Tryd.func14, Tryd.ntmps14
      go_wp2_with fail
      try simp only [hwb]
      clear hwb
      go_wp2_with fail
      refine (CY.out _ HBA.out).mono ?_
      rintro e w1 ⟨rfl, hb1⟩
      obtain ⟨r0', r1', r2', r3', r4', r5'⟩ := facts6 (HROW.out _ hb1)
      obtain ⟨u0, u1, u2, u3, u4, u5⟩ := HZ.out w1 (below_next HBA.out hb1)
      have HB1 := Lib.hid hb1
      clear hb1 r0 r1 r2 r3 r4 r5 v0 v1 v2 v3 v4 v5
      go_wp2_with fail
      refine (CZ.out _ (below_next HBA.out HB1.out)).mono ?_
      rintro e w2 ⟨rfl, hb2⟩
      have HB2 := Lib.hid (below_next HB1.out hb2)
      obtain ⟨t0, t1, t2, t3, t4, t5⟩ := facts6 (HROW.out _ HB2.out)
      clear hb2 r0' r1' r2' r3' r4' r5' u0 u1 u2 u3 u4 u5
      go_wp2_with fail
      refine (CO.out _).mono ?_
      rintro e w3 ⟨rfl, hb3⟩
      have hb13 := below_next HB2.out hb3
      have HB3 := Lib.hid (below_next HBA.out hb13)
      obtain ⟨s0, s1, s2⟩ := facts3 (HZ3.out _ hb13)
      obtain ⟨z0, z1, z2⟩ := frz3 (HZ3.out _ hb13)
      have hz1 : w.heap.size + 1 < w3.heap.size := by have := hb13.size; omega
      clear hb3 hb13
      go_wp2_with fail
      exact bodyPost_ret (v := .tuple #[vn.v, en']) (by simp [results, Tryd.results14, go_sem, s0, s1, s2]) rfl (HG.out _ (((HB3.out.setCell (by simp) _).setCell (by simp) _).setCell (by simp) _))
end Go.Proofs.YtplekbpmfaghbaaDoor
