/- My own texts PushR, CpExp, TSize, PaLaw, PaAdv, CpLit, CpRule, TLit, as far as this claim needs them. -/
import Derived.Test.YtplekbpmfaghbaaGreatDoorZd3
import Derived.Test.YtplekbpmfaghbaaGreatDoorZd5
import Derived.Test.YtplekbpmfaghbaaGreatDoorZd7
import Derived.Test.YtplekbpmfaghbaaGreatDoorZd9
import Derived.Test.YtplekbpmfaghbaaGreatDoorZd10
set_option linter.unusedVariables false
set_option linter.unusedSimpArgs false
namespace Go.Proofs.YtplekbpmfaghbaaGreatDoor
open Go.RowKit
section
variable {P : Program}
/-- where the grown slice lies: in its row, or in a new one -/
theorem append_blk {w : World} {base t ty e size bytes : Nat} {i : TypeInfo} {z : Value} (ht : P.underlying t = some (.slice e)) (hi : P.info? e = some i) (hz : i.zero = some z) (hsize : i.size = size) (hby : i.bytes = bytes) (hsz : 0 < size)
    {v : Value} {n : Nat} {xs : List Value} (hown : w.ownsRow base e size v n xs) {a : Addr} {m c : Nat} {news : List Value} (hl : news.length = m * size) (hnews : ∀ j u, news[j]? = some u → w.cell? (a.add j) = some u) (h1 : ∀ u ∈ news, u.oneCell' = true)
    (h63 : n + m ≤ maxLen) (hbytes : (n + m) * bytes ≤ 140737488355328) {v' : Value} {w' : World} (hrun : (Builtin.append_ #[t, t] ty #[v, .slice (some a) m c]).run P w = .ok v' w') :
    ∀ b, v'.ownBlock = some b → v.ownBlock = some b ∨ w.heap.size ≤ b := by
  subst hsize
  subst hby
  have hsmall : n + m ≤ 9223372036854775807 := by simp only [maxLen] at h63; omega
  rcases hown.2 with ⟨rfl, rfl⟩ | ⟨g, cap, cur, rfl, hbg, hg, hnc, hcm, hcs, htake⟩
  · have hx : xs = [] := List.eq_nil_of_length_eq_zero (by simpa using hown.1)
    subst hx
    by_cases hm : m = 0
    · subst hm
      have hn : news = [] := List.eq_nil_of_length_eq_zero (by simpa using hl)
      subst hn
      have hr : (Builtin.append_ #[t, t] ty #[.slice none 0 0, .slice (some a) 0 c]).run P w = .ok (.slice none 0 0) w := by
        simp [Builtin.append_, run_underlying ht, sizeOf, typeInfo, hi, Builtin.lenOf, Builtin.firstCells, loadCells, loadCellsFrom]
      rw [hr] at hrun
      injection hrun with h2 h3
      subst h2
      intro b hb; cases hb
    · have hr := run_append_nil (P := P) w t ty e i z ht hi hz a m c news hl hnews (by omega) (by omega) (by have hb := hbytes; simp only [Nat.zero_add] at hb; omega)
      rw [hr] at hrun
      injection hrun with h2 h3
      subst h2
      intro b hb
      right
      simp [Value.ownBlock] at hb
      omega
  · by_cases hroom : n + m ≤ cap
    · have hfit : n * i.size + news.length ≤ cur.size := by rw [hl, hcs, ← Nat.add_mul]; exact Nat.mul_le_mul_right _ hroom
      have hr := run_append_room (P := P) w t ty e i ht hi g n cap cur hg a m c news hl hnews h1 hroom hfit
      rw [hr] at hrun
      injection hrun with h2 h3
      subst h2
      intro b hb
      left
      simpa [Value.ownBlock] using hb
    · have holds : ∀ j u, xs[j]? = some u → w.cell? ((⟨g, 0, none⟩ : Addr).add j) = some u := hown.cells (g := g) rfl
      have hr := run_append_grow (P := P) w t ty e i z ht hi hz ⟨g, 0, none⟩ n cap xs hown.1 holds a m c news hl hnews (by omega) (by omega) (growslice_fits (by omega) hbytes)
      rw [hr] at hrun
      injection hrun with h2 h3
      subst h2
      intro b hb
      right
      simp [Value.ownBlock] at hb
      omega
/-- one more element -/
theorem push_more (w : World) {base t ty e size bytes : Nat} {z : Value} (ht : P.underlying t = some (.slice e)) (hi : (P.info? e).map (fun i => (i.zero, i.size, i.bytes)) = some (some z, size, bytes))
    (hzs : z.cells.size = size) (hsz : 0 < size) {A : Option Addr} {n c : Nat} {xs : List Value} (hown : w.ownsRow base e size (.slice A n c) n xs) (g : Nat) (cs : List Value) (hl : cs.length = size) (hg : w.heap[g]? = some (.cells cs.toArray e (0, 0))) (h1 : ∀ u ∈ cs, u.oneCell' = true)
    (h63 : n + 1 ≤ maxLen) (hbytes : (n + 1) * bytes ≤ 140737488355328) (hbase : base ≤ w.heap.size) :
    ∃ A' c' w', (Builtin.append_ #[t, t] ty #[.slice A n c, .slice (some ⟨g, 0, none⟩) 1 1]).run P w = .ok (.slice A' (n + 1) c') w' ∧ w'.ownsRow base e size (.slice A' (n + 1) c') (n + 1) (xs ++ cs) ∧ Out (Value.slice A n c).ownBlock.toList w w' ∧
      (∀ b, (Value.slice A' (n + 1) c').ownBlock = some b → (Value.slice A n c).ownBlock = some b ∨ w.heap.size ≤ b) := by
  obtain ⟨v', w', h2, h3, h4, h5⟩ := run_push_at (P := P) (ty := ty) w ht hi hzs hsz hown g cs hl hg h1 h63 hbytes hbase
  obtain ⟨A', c', rfl⟩ := own_form h3
  obtain ⟨i, hi', hz, hs, hb⟩ := info_parts hi
  have hnews : ∀ j u, cs[j]? = some u → w.cell? ((⟨g, 0, none⟩ : Addr).add j) = some u := by
    intro j u hu
    have hadd : (⟨g, 0, none⟩ : Addr).add j = ⟨g, j, none⟩ := by unfold Addr.add; split <;> simp_all
    rw [hadd, cell_of_row _ g j cs.toArray e (0, 0) hg]
    simpa using hu
  exact ⟨A', c', w', h2, h3, grown_out h4, append_blk ht hi' hz hs hb hsz hown (by rw [hl]; omega) hnews h1 h63 hbytes h2⟩
/-- an operation that yields a value and leaves the world as it is -/
theorem op_val {o : Oper} {a : Act} {w : World} {K : Act → World → Prop} {Q : Exit → Act → World → Prop} (v : Value) (h : (execOp a.eval o).run P w = .ok (.value v) w) (hk : K (a.put o.dst v) w) : o.wp P a w K Q := by
  unfold Oper.wp
  rw [h]
  exact hk
theorem op_skip {o : Oper} {a : Act} {w w' : World} {K : Act → World → Prop} {Q : Exit → Act → World → Prop} (h : (execOp a.eval o).run P w = .ok .skip w') (hk : K (a.put o.dst undef) w') : o.wp P a w K Q := by
  unfold Oper.wp
  rw [h]
  exact hk
theorem op_append {w w' : World} {o : Oper} {a : Act} {K : Act → World → Prop} {Q : Exit → Act → World → Prop} {v' : Value} (s x : Operand) (t : TypeId)
    (ho : o.op = .call { callee := .builtin .append, args := #[s, x], argTypes := #[t, t] }) (v xv : Value) (hs : a.eval s = v) (hx : a.eval x = xv)
    (hrun : (Builtin.append_ #[t, t] o.type #[v, xv]).run P w = .ok v' w') (h : K (a.put o.dst v') w') : o.wp P a w K Q := by
  unfold Oper.wp execOp
  simp only [ho, resolve, invoke, builtin, Sem.run_bind, Sem.run_pure, Result.andThen_ok, List.map_toArray, List.map_cons, List.map_nil, hs, hx, hrun]
  exact h
theorem run_load1 {w : World} {ty e : TypeId} {a : Addr} {v : Value} (hu : P.underlying ty = some (.slice e)) (h : w.cell? a = some v) : (Instr.loadAt ty (.pointer (some a))).run P w = .ok v w := by
  have hagg : (isAgg ty).run P w = .ok false w := by
    unfold isAgg
    rw [Sem.run_bind, run_underlying hu w]
    rfl
  simp [Instr.loadAt, Instr.sureAddr, loadVar, hagg, go_sem, h]
theorem run_store1 {w : World} {ty : TypeId} {g q : Nat} {A : Option Addr} {n c : Nat} {cs : Array Value} {t : TypeId} (hi : (P.info? ty).map (·.size) = some 1) (hg : w.heap[g]? = some (.cells cs t (0, 0))) (hq : q < cs.size) : (Instr.storeAt ty (.pointer (some ⟨g, q, none⟩)) (.slice A n c)).run P w = .ok () (w.setCell ⟨g, q, none⟩ (.slice A n c)) := by
  obtain ⟨i, hi1, hi2⟩ := Option.map_eq_some_iff.1 hi
  have h1 : w.cell? ⟨g, q, none⟩ = some cs[q] := by rw [cell_of_row _ _ _ _ _ _ hg]; simp [hq]
  have h2 : w.frozen? ⟨g, q, none⟩ = false := frozen_of_row _ _ _ _ _ hg
  simp [Instr.storeAt, Instr.sureAddr, storeVar, sizeOf, typeInfo, hi1, hi2, go_sem, h1, h2]
theorem own_typeR {w : World} {base e sz : Nat} {v : Value} {n : Nat} {xs : List Value} (h : w.ownsRow base e sz v n xs) {b : Nat} (hb : v.ownBlock = some b) : ∃ cur, w.heap[b]? = some (.cells cur e (0, 0)) := by
  rcases h.2 with ⟨hn, _⟩ | ⟨g, cap, cur, rfl, hg, hh, r⟩
  · rw [hn] at hb; cases hb
  · injection hb with hb; subst hb; exact ⟨cur, hh⟩
theorem range_rowR {w : World} {g : Nat} {T : TypeId} {cs : List Value} (h : w.heap[g]? = some (.cells cs.toArray T (0, 0))) : w.rangeAt g 0 cs := fun j v hj => by
  rw [cell_of_row _ _ _ _ _ _ h]; simpa using hj
structure PushG (T xT g x : Nat) (S : List Nat) (cs : Array Value) (ecs : List Value) (w0 W : World) : Prop where
  g : W.heap[g]? = some (.cells cs T (0, 0))
  x : W.heap[x]? = some (.cells ecs.toArray xT (0, 0))
  out : Out S w0 W
theorem PushG.keep {T xT g x : Nat} {S : List Nat} {cs : Array Value} {ecs : List Value} {w0 W W' : World} (h : PushG T xT g x S cs ecs w0 W) (hb : Below W.heap.size W W') : PushG T xT g x S cs ecs w0 W' :=
  ⟨(hb.block _ (Array.getElem?_eq_some_iff.1 h.g).1).trans h.g, (hb.block _ (Array.getElem?_eq_some_iff.1 h.x).1).trans h.x, h.out.trans (Out.of_below hb []) (fun _ h _ => by cases h)⟩
end
section
variable {α : Type} {E : Enc α}
structure Rows (E : Enc α) (b1 eT : Nat) (W : World) (A : Option Addr) (k c : Nat) (L : List (α × List Value)) : Prop where
  own : W.ownsRow b1 eT E.sz (.slice A k c) k (L.flatMap (·.2))
  len : L.length = k
  far : ∀ p ∈ L, E.ok (sans W (List.range b1 ++ (Value.slice A k c).ownBlock.toList)) W.heap.size p.2 p.1
theorem Rows.nil (b1 eT : Nat) (W : World) : Rows E b1 eT W Option.none 0 0 [] := ⟨World.ownsRow_nil _ _ _ _, rfl, fun _ h => by cases h⟩
theorem Rows.out {b1 eT : Nat} {W W' : World} {A : Option Addr} {k c : Nat} {L : List (α × List Value)} {S : List Nat} (h : Rows E b1 eT W A k c L) (ho : Out S W W') (hS : ∀ b ∈ S, b < W.heap.size → b < b1) : Rows E b1 eT W' A k c L :=
  ⟨own_out' h.own (S := S.filter (fun b => decide (b < W.heap.size))) ⟨ho.os, ho.tape, ho.output, ho.size, fun b hb hn => ho.block b hb (fun hs => hn (List.mem_filter.2 ⟨hs, by simpa using hb⟩))⟩ (fun b hb hm => by
      have h1 := (own_blk h.own hb).1
      obtain ⟨h2, h3⟩ := List.mem_filter.1 hm
      have := hS b h2 (by simpa using h3)
      omega), h.len,
    fun p hp => E.mono ho.size (ho.kept (T := List.range b1 ++ (Value.slice A k c).ownBlock.toList) (fun b hb hl => List.mem_append_left _ (List.mem_range.2 (hS b hb hl))) (fun _ hb _ => hb)) (h.far p hp)⟩
theorem Rows.push {b1 eT : Nat} {W0 W : World} {A A' : Option Addr} {k c c' : Nat} {L : List (α × List Value)} {vcs : List Value} {x : α} (h : Rows E b1 eT W0 A k c L) (hb : b1 ≤ W0.heap.size)
    (hown : W.ownsRow b1 eT E.sz (.slice A' (k + 1) c') (k + 1) (L.flatMap (·.2) ++ vcs)) (hblk : ∀ b, (Value.slice A' (k + 1) c').ownBlock = some b → b ∈ (Value.slice A k c).ownBlock.toList ∨ W0.heap.size ≤ b) (ho : Out (Value.slice A k c).ownBlock.toList W0 W)
    (hx : E.ok (sans W (List.range W0.heap.size ++ (Value.slice A' (k + 1) c').ownBlock.toList)) W.heap.size vcs x) : Rows E b1 eT W A' (k + 1) c' (L ++ [(x, vcs)]) := by
  refine ⟨by simpa using hown, by simp [h.len], fun p hp => ?_⟩
  rcases List.mem_append.1 hp with hp | hp
  · refine E.mono ho.size (ho.kept (fun b hb _ => List.mem_append_right _ hb) (fun b hb hl => ?_)) (h.far p hp)
    rcases List.mem_append.1 hb with hb | hb
    · exact List.mem_append_left _ hb
    · rcases hblk b (by simpa using hb) with h1 | h1
      · exact List.mem_append_right _ h1
      · omega
  · obtain rfl : p = (x, vcs) := by simpa using hp
    refine E.mono (Nat.le_refl _) ((Out.refl [] W).kept (fun _ h _ => by cases h) (fun b hb' _ => ?_)) hx
    rcases List.mem_append.1 hb' with hb' | hb'
    · exact List.mem_append_left _ (List.mem_range.2 (by have := List.mem_range.1 hb'; omega))
    · exact List.mem_append_right _ hb'
theorem own_sans {w : World} {S : List Nat} {base e sz : Nat} {v : Value} {n : Nat} {xs : List Value} (h : w.ownsRow base e sz v n xs) (hS : ∀ b ∈ S, b < base) : (sans w S).ownsRow base e sz v n xs := by
  refine ⟨h.1, ?_⟩
  rcases h.2 with hn | ⟨g, cap, cur, rfl, hg, hh, r⟩
  · exact .inl hn
  · exact .inr ⟨g, cap, cur, rfl, hg, (sans_out (fun hs => by have := hS g hs; omega)).trans hh, r⟩
theorem flat_piece2 (sz : Nat) : ∀ (L : List (α × List Value)) (i : Nat) (p : α × List Value), (∀ q ∈ L, q.2.length = sz) → L[i]? = some p → ((L.flatMap (·.2)).drop (i * sz)).take sz = p.2
  | [], i, p, _, h => by simp at h
  | q :: L, 0, p, hl, h => by
    simp at h; subst h
    simp only [List.flatMap_cons, Nat.zero_mul, List.drop_zero]
    rw [← hl q (by simp)]
    exact List.take_left
  | q :: L, i + 1, p, hl, h => by
    simp only [List.flatMap_cons]
    rw [show (i + 1) * sz = q.2.length + i * sz by rw [hl q (by simp), Nat.add_mul, Nat.one_mul, Nat.add_comm], List.drop_append]
    rw [List.drop_eq_nil_of_le (Nat.le_add_right _ _), List.nil_append, Nat.add_sub_cancel_left]
    exact flat_piece2 sz L i p (fun q hq => hl q (by simp [hq])) (by simpa using h)
theorem Rows.is {b1 eT : Nat} {W : World} {A : Option Addr} {k c : Nat} {L : List (α × List Value)} (h : Rows E b1 eT W A k c L) (hk : k ≤ reachN) {base : Nat} (hb : base ≤ b1) : SliceFar E W (List.range base) A k c (L.map (·.1)) := by
  have h2 := own_sans (S := List.range base) h.own (fun b hb' => by have := List.mem_range.1 hb'; omega)
  have h3 := SliceIs.of_own (E := E) (l := L.map (·.1)) h2 (by simp [h.len]) hk (fun i x hx => by
    rw [List.getElem?_map, Option.map_eq_some_iff] at hx
    obtain ⟨p, hp, rfl⟩ := hx
    rw [flat_piece2 E.sz L i p (fun q hq => E.len (h.far q hq)) hp]
    rw [sans_size]
    exact E.mono (Nat.le_refl _) ((Out.refl [] W).kept (fun _ h _ => by cases h) (fun b hb' _ => List.mem_append_left _ (List.mem_range.2 (by have := List.mem_range.1 hb'; omega)))) (h.far p (List.mem_of_getElem? hp)))
  rw [sans_size] at h3
  exact h3
end
end Go.Proofs.YtplekbpmfaghbaaGreatDoor

namespace Go.Proofs.YtplekbpmfaghbaaGreatDoor
open Go.RowKit
abbrev zeC : List Value := [.int .i64 0, .string ⟨#[]⟩, .int .i64 0, .int .i64 0, .string ⟨#[]⟩, .slice none 0 0]
abbrev expC (e : GExp) (A : Option Addr) (n c : Nat) : List Value := [.int .i64 e.op, .string e.t.x, .int .i64 e.t.v.k, .int .i64 e.t.v.n, .string e.t.v.s, .slice A n c]
end Go.Proofs.YtplekbpmfaghbaaGreatDoor

namespace Go.Proofs.YtplekbpmfaghbaaGreatDoor
open Go.RowKit
theorem exp_size (e : GExp) (A : Option Addr) (n c : Nat) : (Tryz.prog.info? 36).map (·.size) = some (expC e A n c).length := by
  show _ = some 6
  kernel_rfl
/-- 'x = x' as an operation -/
theorem op_assign {P : Program} {o : Oper} {a : Act} {w : World} {K : Act → World → Prop} {Q : Exit → Act → World → Prop} (x : Operand) (ho : o.op = .assign x ∨ o.op = .move x) (v : Value) (hx : a.eval x = v) (hk : K (a.put o.dst v) w) : o.wp P a w K Q := by
  refine op_val v ?_ hk
  unfold execOp
  rcases ho with ho | ho <;> simp [ho, hx]
end Go.Proofs.YtplekbpmfaghbaaGreatDoor

namespace Go.Proofs.YtplekbpmfaghbaaGreatDoor
open Go.RowKit
/-- where the reader is: the next token, brackets, the first failure's place and number -/
structure PS where
  next : Nat
  deep : Nat
  pl : Nat
  err : Int
section
variable (T : List GTok) (E : Nat)
end
end Go.Proofs.YtplekbpmfaghbaaGreatDoor

namespace Go.Proofs.YtplekbpmfaghbaaGreatDoor
open Go.RowKit
section
variable {T : List GTok} {E : Nat}
/-- a state as it can be -/
structure Fine (T : List GTok) (E : Nat) (s : PS) : Prop where
  next : s.next ≤ T.length
  fail : s.err ≠ 0 → s.next = T.length
  pl : s.pl ≤ E
  err : 0 ≤ s.err ∧ s.err ≤ 4
/-- how a state may go on -/
structure Adv (T : List GTok) (E : Nat) (s s' : PS) : Prop where
  le : s.next ≤ s'.next
  deep : s'.deep = s.deep
  fine : Fine T E s → Fine T E s'
  err : s.err ≠ 0 → s'.err ≠ 0
theorem Adv.refl (s : PS) : Adv T E s s := ⟨Nat.le_refl _, rfl, id, id⟩
theorem Adv.trans {s s1 s2 : PS} (h : Adv T E s s1) (h' : Adv T E s1 s2) : Adv T E s s2 :=
  ⟨Nat.le_trans h.le h'.le, h'.deep.trans h.deep, fun f => h'.fine (h.fine f), fun e => h'.err (h.err e)⟩
/-- from a state as it can be -/
def Goes (T : List GTok) (E : Nat) (s s' : PS) : Prop := Fine T E s → Adv T E s s'
theorem Goes.trans {s s1 s2 : PS} (h : Goes T E s s1) (h' : Goes T E s1 s2) : Goes T E s s2 := fun f => (h f).trans (h' ((h f).fine f))
theorem Goes.refl (s : PS) : Goes T E s s := fun _ => Adv.refl s
end
end Go.Proofs.YtplekbpmfaghbaaGreatDoor

namespace Go.Proofs.YtplekbpmfaghbaaGreatDoor
open Go.RowKit
/-- what is new in a later call is new in the caller's eyes -/
theorem SliceFar.low {α : Type} {E : Enc α} {w : World} {n n0 : Nat} {A : Option Addr} {k c : Nat} {l : List α} (h : SliceFar E w (List.range n) A k c l) (hn : n0 ≤ n) : SliceFar E w (List.range n0) A k c l :=
  SliceFar.out (S := []) h (Out.refl _ _) (fun _ h _ => by cases h) (fun b hb _ => List.mem_range.2 (by have := List.mem_range.1 hb; omega))
end Go.Proofs.YtplekbpmfaghbaaGreatDoor

namespace Go.Proofs.YtplekbpmfaghbaaGreatDoor
open Go.RowKit
abbrev zrC : List Value := [.string ⟨#[]⟩, .slice none 0 0, .int .i64 0, .int .i64 0, .slice none 0 0, .int .i64 0]
end Go.Proofs.YtplekbpmfaghbaaGreatDoor

namespace Go.Proofs.YtplekbpmfaghbaaGreatDoor
open Go.RowKit
def atomB (x : GAtom) : Bool := singleB 2 x.rel && (decide (x.args.length ≤ 6) && x.args.all rightT)
set_option maxRecDepth 100000 in
set_option maxHeartbeats 1000000 in
theorem aright_any (x : GAtom) (a : Hd) (w : World) (hs : x.rel.size ≤ reachN) (hl : SliceIs Enc.told w w.heap.size a.A a.n a.c x.args) (hW : LexW w) : Calls Tryz.prog 108 #[.agg #[.string x.rel, a.v]] w (RetBool (atomB x) w) := by
  obtain ⟨B, HB⟩ : ∃ B, Hid (B = atomB x) := ⟨_, rfl⟩
  rw [← HB.out]
  have hrb : (w.alloc (.cells #[.string x.rel, a.v] 24)).heap[w.heap.size]? = some (.cells #[.string x.rel, a.v] 24 (0, 0)) := heapNew rfl
  have hba : Below w.heap.size w (w.alloc (.cells #[.string x.rel, a.v] 24)) := belowA (Below.refl _ _) _
  have hn := hl.bound
  have hlen := Lib.hid hl.1
  obtain ⟨N, HN⟩ : ∃ N, Hid (N = singleB 2 x.rel) := ⟨_, rfl⟩
  obtain ⟨E, HEe⟩ : ∃ E, Hid (E = x.args.all rightT) := ⟨_, rfl⟩
  have HE : Hid (B = (N && (decide (x.args.length ≤ 6) && E))) := by show _ = _; rw [HB.out, HN.out, HEe.out]; rfl
  have C1 : Hid (∀ W, Below (w.alloc (.cells #[.string x.rel, a.v] 24)).heap.size (w.alloc (.cells #[.string x.rel, a.v] 24)) W → Calls Tryz.prog 141 #[.string x.rel] W (RetBool N W)) := fun W h => by rw [HN.out]; exact named_any x.rel hs W ((hW.on hba).on h)
  have C2 : Hid (∀ W, Below (w.alloc (.cells #[.string x.rel, a.v] 24)).heap.size (w.alloc (.cells #[.string x.rel, a.v] 24)) W → Calls Tryz.prog 148 #[a.v, .func (.func 149) #[] #[]] W (RetBool E W)) := fun W h => by
    rw [HEe.out]
    exact everyT_any a.A a.n a.c x.args W ((hl.keep hba).keep h) (fun t W' ht h' => tright_any t ht.1 W' (((hW.on hba).on h).on h'))
  have Hrow : Hid (∀ W, Below (w.alloc (.cells #[.string x.rel, a.v] 24)).heap.size (w.alloc (.cells #[.string x.rel, a.v] 24)) W → W.heap[w.heap.size]? = some (.cells #[.string x.rel, a.v] 24 (0, 0))) := fun W h => (h.block _ (Array.getElem?_eq_some_iff.1 hrb).1).trans hrb
  obtain ⟨f0_0, f0_1⟩ := facts2 hrb
  clear hl hW hs hrb HB HN HEe
  by_cases h6 : a.n ≤ 6
  · have z6 : (a.n : Int) ≤ 6 := by omega
    have HE2 : Hid (B = (N && E)) := by show _ = _; rw [HE.out, decide_eq_true (by rw [hlen.out]; exact h6)]; rfl
    clear HE hlen h6
    generalize hwb : (w.alloc (.cells #[.string x.rel, a.v] 24)) = wb at *
    have Hbw0 := Lib.hid (Below.refl wb.heap.size wb)
    go_enter Tryz.func108, Tryz.ntmps108
    go_wp2_with fail
    try simp only [hwb]
    go_wp2_with fail
    refine (C1.out _ Hbw0.out).mono ?_
    rintro e1 w1 ⟨rfl, hq1⟩
    have Hbw1 := Lib.hid (below_next Hbw0.out hq1)
    obtain ⟨f1_0, f1_1⟩ := facts2 (Hrow.out _ Hbw1.out)
    clear hq1 f0_0 f0_1
    cases N with
    | false =>
      go_wp2_with fail
      go_ret
      exact ⟨by rw [HE2.out]; rfl, below_next hba Hbw1.out⟩
    | true =>
      go_wp2_with fail
      refine (C2.out _ Hbw1.out).mono ?_
      rintro e2 w2 ⟨rfl, hq2⟩
      have Hbw2 := Lib.hid (below_next Hbw1.out hq2)
      obtain ⟨f2_0, f2_1⟩ := facts2 (Hrow.out _ Hbw2.out)
      clear hq2 f1_0 f1_1
      cases E <;>
      · go_wp2_with fail
        go_ret
        exact ⟨by rw [HE2.out]; rfl, below_next hba Hbw2.out⟩
  · have z6 : ¬ (a.n : Int) ≤ 6 := by omega
    have HE2 : Hid (B = false) := by show _ = _; rw [HE.out, decide_eq_false (by rw [hlen.out]; exact h6)]; simp
    clear HE hlen h6 C2
    generalize hwb : (w.alloc (.cells #[.string x.rel, a.v] 24)) = wb at *
    have Hbw0 := Lib.hid (Below.refl wb.heap.size wb)
    go_enter Tryz.func108, Tryz.ntmps108
    go_wp2_with fail
    try simp only [hwb]
    go_wp2_with fail
    refine (C1.out _ Hbw0.out).mono ?_
    rintro e1 w1 ⟨rfl, hq1⟩
    have Hbw1 := Lib.hid (below_next Hbw0.out hq1)
    obtain ⟨f1_0, f1_1⟩ := facts2 (Hrow.out _ Hbw1.out)
    clear hq1 f0_0 f0_1
    cases N <;>
    · go_wp2_with fail
      go_ret
      exact ⟨by rw [HE2.out]; rfl, below_next hba Hbw1.out⟩
def cmpB2 (x : GLit) : Bool := (decide (x.atom.rel.size = 0) && decide (x.atom.args.length = 0)) && (decide (1 ≤ x.op) && decide (x.op ≤ 6))
def rightLit (x : GLit) : Bool := if x.k = 1 ∨ x.k = 2 then atomB x.atom && (decide (x.op = 0) && (noneE x.l && noneE x.r)) else
  decide (x.k = 3) && (cmpB2 x && (rightE 20 x.l && rightE 20 x.r))
set_option maxRecDepth 100000 in
set_option maxHeartbeats 4000000 in
theorem rightLit_any (d : Nat) (x : GLit) (a p q : Hd) (w : World) (h : LitAt d w w.heap.size x a p q) (hW : LexW w) : Calls Tryz.prog 70 #[.agg #[.int .i64 x.k, .string x.atom.rel, a.v, .int .i64 x.op, .int .i64 x.l.op, .string x.l.t.x, .int .i64 x.l.t.v.k, .int .i64 x.l.t.v.n, .string x.l.t.v.s, p.v, .int .i64 x.r.op, .string x.r.t.x, .int .i64 x.r.t.v.k, .int .i64 x.r.t.v.n, .string x.r.t.v.s, q.v, .int .i64 x.pos]] w (RetBool (rightLit x) w) := by
  obtain ⟨B, HB⟩ : ∃ B, Hid (B = rightLit x) := ⟨_, rfl⟩
  rw [← HB.out]
  have hrb : (w.alloc (.cells #[.int .i64 x.k, .string x.atom.rel, a.v, .int .i64 x.op, .int .i64 x.l.op, .string x.l.t.x, .int .i64 x.l.t.v.k, .int .i64 x.l.t.v.n, .string x.l.t.v.s, p.v, .int .i64 x.r.op, .string x.r.t.x, .int .i64 x.r.t.v.k, .int .i64 x.r.t.v.n, .string x.r.t.v.s, q.v, .int .i64 x.pos] 38)).heap[w.heap.size]? = some (.cells #[.int .i64 x.k, .string x.atom.rel, a.v, .int .i64 x.op, .int .i64 x.l.op, .string x.l.t.x, .int .i64 x.l.t.v.k, .int .i64 x.l.t.v.n, .string x.l.t.v.s, p.v, .int .i64 x.r.op, .string x.r.t.x, .int .i64 x.r.t.v.k, .int .i64 x.r.t.v.n, .string x.r.t.v.s, q.v, .int .i64 x.pos] 38 (0, 0)) := heapNew rfl
  have hba : Below w.heap.size w (w.alloc (.cells #[.int .i64 x.k, .string x.atom.rel, a.v, .int .i64 x.op, .int .i64 x.l.op, .string x.l.t.x, .int .i64 x.l.t.v.k, .int .i64 x.l.t.v.n, .string x.l.t.v.s, p.v, .int .i64 x.r.op, .string x.r.t.x, .int .i64 x.r.t.v.k, .int .i64 x.r.t.v.n, .string x.r.t.v.s, q.v, .int .i64 x.pos] 38)) := belowA (Below.refl _ _) _
  have hna := h.args.bound
  have Hla := Lib.hid h.args.1
  have HH := Lib.hid (h.keep hba)
  have HW := Lib.hid (hW.on hba)
  clear h hW
  have Hrow : Hid (∀ W, Below (w.alloc (.cells #[.int .i64 x.k, .string x.atom.rel, a.v, .int .i64 x.op, .int .i64 x.l.op, .string x.l.t.x, .int .i64 x.l.t.v.k, .int .i64 x.l.t.v.n, .string x.l.t.v.s, p.v, .int .i64 x.r.op, .string x.r.t.x, .int .i64 x.r.t.v.k, .int .i64 x.r.t.v.n, .string x.r.t.v.s, q.v, .int .i64 x.pos] 38)).heap.size (w.alloc (.cells #[.int .i64 x.k, .string x.atom.rel, a.v, .int .i64 x.op, .int .i64 x.l.op, .string x.l.t.x, .int .i64 x.l.t.v.k, .int .i64 x.l.t.v.n, .string x.l.t.v.s, p.v, .int .i64 x.r.op, .string x.r.t.x, .int .i64 x.r.t.v.k, .int .i64 x.r.t.v.n, .string x.r.t.v.s, q.v, .int .i64 x.pos] 38)) W → W.heap[w.heap.size]? = some (.cells #[.int .i64 x.k, .string x.atom.rel, a.v, .int .i64 x.op, .int .i64 x.l.op, .string x.l.t.x, .int .i64 x.l.t.v.k, .int .i64 x.l.t.v.n, .string x.l.t.v.s, p.v, .int .i64 x.r.op, .string x.r.t.x, .int .i64 x.r.t.v.k, .int .i64 x.r.t.v.n, .string x.r.t.v.s, q.v, .int .i64 x.pos] 38 (0, 0))) := fun W h => (h.block _ (Array.getElem?_eq_some_iff.1 hrb).1).trans hrb
  obtain ⟨f0_0, f0_1, f0_2, f0_3, f0_4, f0_5, f0_6, f0_7, f0_8, f0_9, f0_10, f0_11, f0_12, f0_13, f0_14, f0_15, f0_16⟩ := facts17 hrb
  by_cases hk12 : x.k = 1 ∨ x.k = 2
  · obtain ⟨P1, HP1⟩ : ∃ E, Hid (E = atomB x.atom) := ⟨_, rfl⟩
    obtain ⟨P2, HP2⟩ : ∃ E, Hid (E = noneE x.l) := ⟨_, rfl⟩
    obtain ⟨P3, HP3⟩ : ∃ E, Hid (E = noneE x.r) := ⟨_, rfl⟩
    have HE : Hid (B = (P1 && (decide (x.op = 0) && (P2 && P3)))) := by show _ = _; rw [HB.out, HP1.out, HP2.out, HP3.out]; unfold rightLit; rw [if_pos hk12]
    have C1 : Hid (∀ W, Below (w.alloc (.cells #[.int .i64 x.k, .string x.atom.rel, a.v, .int .i64 x.op, .int .i64 x.l.op, .string x.l.t.x, .int .i64 x.l.t.v.k, .int .i64 x.l.t.v.n, .string x.l.t.v.s, p.v, .int .i64 x.r.op, .string x.r.t.x, .int .i64 x.r.t.v.k, .int .i64 x.r.t.v.n, .string x.r.t.v.s, q.v, .int .i64 x.pos] 38)).heap.size (w.alloc (.cells #[.int .i64 x.k, .string x.atom.rel, a.v, .int .i64 x.op, .int .i64 x.l.op, .string x.l.t.x, .int .i64 x.l.t.v.k, .int .i64 x.l.t.v.n, .string x.l.t.v.s, p.v, .int .i64 x.r.op, .string x.r.t.x, .int .i64 x.r.t.v.k, .int .i64 x.r.t.v.n, .string x.r.t.v.s, q.v, .int .i64 x.pos] 38)) W → Calls Tryz.prog 108 #[.agg #[.string x.atom.rel, a.v]] W (RetBool P1 W)) := fun W h => by rw [HP1.out]; exact aright_any x.atom a W HH.out.rel (HH.out.args.keep h) (HW.out.on h)
    have C2 : Hid (∀ W, Below (w.alloc (.cells #[.int .i64 x.k, .string x.atom.rel, a.v, .int .i64 x.op, .int .i64 x.l.op, .string x.l.t.x, .int .i64 x.l.t.v.k, .int .i64 x.l.t.v.n, .string x.l.t.v.s, p.v, .int .i64 x.r.op, .string x.r.t.x, .int .i64 x.r.t.v.k, .int .i64 x.r.t.v.n, .string x.r.t.v.s, q.v, .int .i64 x.pos] 38)).heap.size (w.alloc (.cells #[.int .i64 x.k, .string x.atom.rel, a.v, .int .i64 x.op, .int .i64 x.l.op, .string x.l.t.x, .int .i64 x.l.t.v.k, .int .i64 x.l.t.v.n, .string x.l.t.v.s, p.v, .int .i64 x.r.op, .string x.r.t.x, .int .i64 x.r.t.v.k, .int .i64 x.r.t.v.n, .string x.r.t.v.s, q.v, .int .i64 x.pos] 38)) W → Calls Tryz.prog 113 #[.agg #[.int .i64 x.l.op, .string x.l.t.x, .int .i64 x.l.t.v.k, .int .i64 x.l.t.v.n, .string x.l.t.v.s, p.v]] W (RetBool P2 W)) := fun W h => by rw [HP2.out]; exact none_any x.l p.A p.n p.c W HH.out.lk.1 HH.out.lk.2.2.2.1
    have C3 : Hid (∀ W, Below (w.alloc (.cells #[.int .i64 x.k, .string x.atom.rel, a.v, .int .i64 x.op, .int .i64 x.l.op, .string x.l.t.x, .int .i64 x.l.t.v.k, .int .i64 x.l.t.v.n, .string x.l.t.v.s, p.v, .int .i64 x.r.op, .string x.r.t.x, .int .i64 x.r.t.v.k, .int .i64 x.r.t.v.n, .string x.r.t.v.s, q.v, .int .i64 x.pos] 38)).heap.size (w.alloc (.cells #[.int .i64 x.k, .string x.atom.rel, a.v, .int .i64 x.op, .int .i64 x.l.op, .string x.l.t.x, .int .i64 x.l.t.v.k, .int .i64 x.l.t.v.n, .string x.l.t.v.s, p.v, .int .i64 x.r.op, .string x.r.t.x, .int .i64 x.r.t.v.k, .int .i64 x.r.t.v.n, .string x.r.t.v.s, q.v, .int .i64 x.pos] 38)) W → Calls Tryz.prog 113 #[.agg #[.int .i64 x.r.op, .string x.r.t.x, .int .i64 x.r.t.v.k, .int .i64 x.r.t.v.n, .string x.r.t.v.s, q.v]] W (RetBool P3 W)) := fun W h => by rw [HP3.out]; exact none_any x.r q.A q.n q.c W HH.out.rk.1 HH.out.rk.2.2.2.1
    clear hrb HB HP1 HP2 HP3 HH HW Hla
    generalize hwb : (w.alloc (.cells #[.int .i64 x.k, .string x.atom.rel, a.v, .int .i64 x.op, .int .i64 x.l.op, .string x.l.t.x, .int .i64 x.l.t.v.k, .int .i64 x.l.t.v.n, .string x.l.t.v.s, p.v, .int .i64 x.r.op, .string x.r.t.x, .int .i64 x.r.t.v.k, .int .i64 x.r.t.v.n, .string x.r.t.v.s, q.v, .int .i64 x.pos] 38)) = wb at *
    have Hbw0 := Lib.hid (Below.refl wb.heap.size wb)
    by_cases ho : x.op = 0
    · have o0 : (x.op == 0) = true := by simp [ho]
      have HE2 : Hid (B = (P1 && (P2 && P3))) := by show _ = _; rw [HE.out, decide_eq_true ho]; rfl
      clear HE ho
      rcases hk12 with hk | hk
      · have k1 : (x.k == 1) = true := by simp [hk]
        clear hk
        go_enter Tryz.func70, Tryz.ntmps70
        go_wp2_with fail
        try simp only [hwb]
        go_wp2_with fail
        refine (C1.out _ Hbw0.out).mono ?_
        rintro e1 w1 ⟨rfl, hq1⟩
        have Hbw1 := Lib.hid (below_next Hbw0.out hq1)
        obtain ⟨f1_0, f1_1, f1_2, f1_3, f1_4, f1_5, f1_6, f1_7, f1_8, f1_9, f1_10, f1_11, f1_12, f1_13, f1_14, f1_15, f1_16⟩ := facts17 (Hrow.out _ Hbw1.out)
        clear hq1 f0_0 f0_1 f0_2 f0_3 f0_4 f0_5 f0_6 f0_7 f0_8 f0_9 f0_10 f0_11 f0_12 f0_13 f0_14 f0_15 f0_16
        cases P1 with
        | false =>
          go_wp2_with fail
          go_ret
          exact ⟨by rw [HE2.out]; rfl, below_next hba Hbw1.out⟩
        | true =>
          go_wp2_with fail
          refine (C2.out _ Hbw1.out).mono ?_
          rintro e2 w2 ⟨rfl, hq2⟩
          have Hbw2 := Lib.hid (below_next Hbw1.out hq2)
          obtain ⟨f2_0, f2_1, f2_2, f2_3, f2_4, f2_5, f2_6, f2_7, f2_8, f2_9, f2_10, f2_11, f2_12, f2_13, f2_14, f2_15, f2_16⟩ := facts17 (Hrow.out _ Hbw2.out)
          clear hq2 f1_0 f1_1 f1_2 f1_3 f1_4 f1_5 f1_6 f1_7 f1_8 f1_9 f1_10 f1_11 f1_12 f1_13 f1_14 f1_15 f1_16
          cases P2 with
          | false =>
            go_wp2_with fail
            go_ret
            exact ⟨by rw [HE2.out]; rfl, below_next hba Hbw2.out⟩
          | true =>
            go_wp2_with fail
            refine (C3.out _ Hbw2.out).mono ?_
            rintro e3 w3 ⟨rfl, hq3⟩
            have Hbw3 := Lib.hid (below_next Hbw2.out hq3)
            obtain ⟨f3_0, f3_1, f3_2, f3_3, f3_4, f3_5, f3_6, f3_7, f3_8, f3_9, f3_10, f3_11, f3_12, f3_13, f3_14, f3_15, f3_16⟩ := facts17 (Hrow.out _ Hbw3.out)
            clear hq3 f2_0 f2_1 f2_2 f2_3 f2_4 f2_5 f2_6 f2_7 f2_8 f2_9 f2_10 f2_11 f2_12 f2_13 f2_14 f2_15 f2_16
            cases P3 <;>
            · go_wp2_with fail
              go_ret
              exact ⟨by rw [HE2.out]; rfl, below_next hba Hbw3.out⟩
      · have k1 : (x.k == 1) = false := by simp [hk]
        have k2 : (x.k == 2) = true := by simp [hk]
        clear hk
        go_enter Tryz.func70, Tryz.ntmps70
        go_wp2_with fail
        try simp only [hwb]
        go_wp2_with fail
        refine (C1.out _ Hbw0.out).mono ?_
        rintro e1 w1 ⟨rfl, hq1⟩
        have Hbw1 := Lib.hid (below_next Hbw0.out hq1)
        obtain ⟨f1_0, f1_1, f1_2, f1_3, f1_4, f1_5, f1_6, f1_7, f1_8, f1_9, f1_10, f1_11, f1_12, f1_13, f1_14, f1_15, f1_16⟩ := facts17 (Hrow.out _ Hbw1.out)
        clear hq1 f0_0 f0_1 f0_2 f0_3 f0_4 f0_5 f0_6 f0_7 f0_8 f0_9 f0_10 f0_11 f0_12 f0_13 f0_14 f0_15 f0_16
        cases P1 with
        | false =>
          go_wp2_with fail
          go_ret
          exact ⟨by rw [HE2.out]; rfl, below_next hba Hbw1.out⟩
        | true =>
          go_wp2_with fail
          refine (C2.out _ Hbw1.out).mono ?_
          rintro e2 w2 ⟨rfl, hq2⟩
          have Hbw2 := Lib.hid (below_next Hbw1.out hq2)
          obtain ⟨f2_0, f2_1, f2_2, f2_3, f2_4, f2_5, f2_6, f2_7, f2_8, f2_9, f2_10, f2_11, f2_12, f2_13, f2_14, f2_15, f2_16⟩ := facts17 (Hrow.out _ Hbw2.out)
          clear hq2 f1_0 f1_1 f1_2 f1_3 f1_4 f1_5 f1_6 f1_7 f1_8 f1_9 f1_10 f1_11 f1_12 f1_13 f1_14 f1_15 f1_16
          cases P2 with
          | false =>
            go_wp2_with fail
            go_ret
            exact ⟨by rw [HE2.out]; rfl, below_next hba Hbw2.out⟩
          | true =>
            go_wp2_with fail
            refine (C3.out _ Hbw2.out).mono ?_
            rintro e3 w3 ⟨rfl, hq3⟩
            have Hbw3 := Lib.hid (below_next Hbw2.out hq3)
            obtain ⟨f3_0, f3_1, f3_2, f3_3, f3_4, f3_5, f3_6, f3_7, f3_8, f3_9, f3_10, f3_11, f3_12, f3_13, f3_14, f3_15, f3_16⟩ := facts17 (Hrow.out _ Hbw3.out)
            clear hq3 f2_0 f2_1 f2_2 f2_3 f2_4 f2_5 f2_6 f2_7 f2_8 f2_9 f2_10 f2_11 f2_12 f2_13 f2_14 f2_15 f2_16
            cases P3 <;>
            · go_wp2_with fail
              go_ret
              exact ⟨by rw [HE2.out]; rfl, below_next hba Hbw3.out⟩
    · have o0 : (x.op == 0) = false := by simp [ho]
      have HE2 : Hid (B = false) := by show _ = _; rw [HE.out, decide_eq_false ho]; simp
      clear HE ho C2 C3
      rcases hk12 with hk | hk
      · have k1 : (x.k == 1) = true := by simp [hk]
        clear hk
        go_enter Tryz.func70, Tryz.ntmps70
        go_wp2_with fail
        try simp only [hwb]
        go_wp2_with fail
        refine (C1.out _ Hbw0.out).mono ?_
        rintro e1 w1 ⟨rfl, hq1⟩
        have Hbw1 := Lib.hid (below_next Hbw0.out hq1)
        obtain ⟨f1_0, f1_1, f1_2, f1_3, f1_4, f1_5, f1_6, f1_7, f1_8, f1_9, f1_10, f1_11, f1_12, f1_13, f1_14, f1_15, f1_16⟩ := facts17 (Hrow.out _ Hbw1.out)
        clear hq1 f0_0 f0_1 f0_2 f0_3 f0_4 f0_5 f0_6 f0_7 f0_8 f0_9 f0_10 f0_11 f0_12 f0_13 f0_14 f0_15 f0_16
        cases P1 <;>
        · go_wp2_with fail
          go_ret
          exact ⟨by rw [HE2.out]; rfl, below_next hba Hbw1.out⟩
      · have k1 : (x.k == 1) = false := by simp [hk]
        have k2 : (x.k == 2) = true := by simp [hk]
        clear hk
        go_enter Tryz.func70, Tryz.ntmps70
        go_wp2_with fail
        try simp only [hwb]
        go_wp2_with fail
        refine (C1.out _ Hbw0.out).mono ?_
        rintro e1 w1 ⟨rfl, hq1⟩
        have Hbw1 := Lib.hid (below_next Hbw0.out hq1)
        obtain ⟨f1_0, f1_1, f1_2, f1_3, f1_4, f1_5, f1_6, f1_7, f1_8, f1_9, f1_10, f1_11, f1_12, f1_13, f1_14, f1_15, f1_16⟩ := facts17 (Hrow.out _ Hbw1.out)
        clear hq1 f0_0 f0_1 f0_2 f0_3 f0_4 f0_5 f0_6 f0_7 f0_8 f0_9 f0_10 f0_11 f0_12 f0_13 f0_14 f0_15 f0_16
        cases P1 <;>
        · go_wp2_with fail
          go_ret
          exact ⟨by rw [HE2.out]; rfl, below_next hba Hbw1.out⟩
  have k1 : (x.k == 1) = false := by simp; omega
  have k2 : (x.k == 2) = false := by simp; omega
  by_cases hk3 : x.k = 3
  rotate_left
  · have k3 : (x.k == 3) = false := by simp [hk3]
    have HE2 : Hid (B = false) := by show _ = _; rw [HB.out]; simp [rightLit, hk12, hk3]
    clear hk3 hk12 HB HH HW Hrow hrb Hla
    go_enter Tryz.func70, Tryz.ntmps70
    go_wp2_with fail
    go_ret
    exact ⟨by rw [HE2.out]; rfl, belowA (Below.refl _ _) _⟩
  have k3 : (x.k == 3) = true := by simp [hk3]
  have HE : Hid (B = (cmpB2 x && (rightE 20 x.l && rightE 20 x.r))) := by show _ = _; rw [HB.out]; simp [rightLit, hk3]
  by_cases hc : cmpB2 x = true
  rotate_left
  · have HE2 : Hid (B = false) := by show _ = _; rw [HE.out]; simp [hc]
    have hc' : (¬ x.atom.rel.toList = []) ∨ (x.atom.rel.toList = [] ∧ ¬ (a.n : Int) = 0) ∨ (x.atom.rel.toList = [] ∧ (a.n : Int) = 0 ∧ x.op < 1) ∨ (x.atom.rel.toList = [] ∧ (a.n : Int) = 0 ∧ ¬ x.op < 1 ∧ 6 < x.op) := by
      have h1 := Hla.out
      have h2 := @str_empty x.atom.rel
      unfold cmpB2 at hc
      by_cases g1 : x.atom.rel.size = 0
      · have g2 := h2.2 g1
        by_cases g3 : a.n = 0
        · by_cases g4 : x.op < 1
          · exact .inr (.inr (.inl ⟨g2, by omega, g4⟩))
          · by_cases g5 : 6 < x.op
            · exact .inr (.inr (.inr ⟨g2, by omega, g4, g5⟩))
            · exfalso
              apply hc
              have : 1 ≤ x.op := by omega
              have : x.op ≤ 6 := by omega
              have : x.atom.args.length = 0 := by omega
              simp [*]
        · exact .inr (.inl ⟨g2, by omega⟩)
      · exact .inl (fun h => g1 (h2.1 h))
    clear hk3 hk12 HB HH HW Hrow hrb hc HE
    rcases hc' with h | ⟨g0, h⟩ | ⟨g0, g1, h⟩ | ⟨g0, g1, g2, h⟩ <;>
    · go_enter Tryz.func70, Tryz.ntmps70
      go_wp2_with fail
      go_ret
      exact ⟨by rw [HE2.out]; rfl, belowA (Below.refl _ _) _⟩
  have hc' : x.atom.rel.toList = [] ∧ a.n = 0 ∧ 1 ≤ x.op ∧ x.op ≤ 6 := by
    have h1 := Hla.out
    simp only [cmpB2, Bool.and_eq_true, decide_eq_true_eq] at hc
    exact ⟨str_empty.2 hc.1.1, by omega, hc.2.1, hc.2.2⟩
  obtain ⟨g0, hg1, g2, g3⟩ := hc'
  have g1 : (a.n : Int) = 0 := by omega
  obtain ⟨P1, HP1⟩ : ∃ E, Hid (E = rightE 20 x.l) := ⟨_, rfl⟩
  obtain ⟨P2, HP2⟩ : ∃ E, Hid (E = rightE 20 x.r) := ⟨_, rfl⟩
  have HE2 : Hid (B = (P1 && P2)) := by show _ = _; rw [HE.out, hc, HP1.out, HP2.out]; rfl
  have C1 : Hid (∀ W, Below (w.alloc (.cells #[.int .i64 x.k, .string x.atom.rel, a.v, .int .i64 x.op, .int .i64 x.l.op, .string x.l.t.x, .int .i64 x.l.t.v.k, .int .i64 x.l.t.v.n, .string x.l.t.v.s, p.v, .int .i64 x.r.op, .string x.r.t.x, .int .i64 x.r.t.v.k, .int .i64 x.r.t.v.n, .string x.r.t.v.s, q.v, .int .i64 x.pos] 38)).heap.size (w.alloc (.cells #[.int .i64 x.k, .string x.atom.rel, a.v, .int .i64 x.op, .int .i64 x.l.op, .string x.l.t.x, .int .i64 x.l.t.v.k, .int .i64 x.l.t.v.n, .string x.l.t.v.s, p.v, .int .i64 x.r.op, .string x.r.t.x, .int .i64 x.r.t.v.k, .int .i64 x.r.t.v.n, .string x.r.t.v.s, q.v, .int .i64 x.pos] 38)) W → Calls Tryz.prog 73 #[.agg #[.int .i64 x.l.op, .string x.l.t.x, .int .i64 x.l.t.v.k, .int .i64 x.l.t.v.n, .string x.l.t.v.s, p.v]] W (RetBool P1 W)) := fun W h => by rw [HP1.out]; exact rightExp_any x.l p.A p.n p.c d W (HH.out.lk.keep h) HH.out.lx (HW.out.on h)
  have C2 : Hid (∀ W, Below (w.alloc (.cells #[.int .i64 x.k, .string x.atom.rel, a.v, .int .i64 x.op, .int .i64 x.l.op, .string x.l.t.x, .int .i64 x.l.t.v.k, .int .i64 x.l.t.v.n, .string x.l.t.v.s, p.v, .int .i64 x.r.op, .string x.r.t.x, .int .i64 x.r.t.v.k, .int .i64 x.r.t.v.n, .string x.r.t.v.s, q.v, .int .i64 x.pos] 38)).heap.size (w.alloc (.cells #[.int .i64 x.k, .string x.atom.rel, a.v, .int .i64 x.op, .int .i64 x.l.op, .string x.l.t.x, .int .i64 x.l.t.v.k, .int .i64 x.l.t.v.n, .string x.l.t.v.s, p.v, .int .i64 x.r.op, .string x.r.t.x, .int .i64 x.r.t.v.k, .int .i64 x.r.t.v.n, .string x.r.t.v.s, q.v, .int .i64 x.pos] 38)) W → Calls Tryz.prog 73 #[.agg #[.int .i64 x.r.op, .string x.r.t.x, .int .i64 x.r.t.v.k, .int .i64 x.r.t.v.n, .string x.r.t.v.s, q.v]] W (RetBool P2 W)) := fun W h => by rw [HP2.out]; exact rightExp_any x.r q.A q.n q.c d W (HH.out.rk.keep h) HH.out.rx (HW.out.on h)
  clear hrb HB HP1 HP2 HH HW Hla hc HE hk3 hk12 hg1
  generalize hwb : (w.alloc (.cells #[.int .i64 x.k, .string x.atom.rel, a.v, .int .i64 x.op, .int .i64 x.l.op, .string x.l.t.x, .int .i64 x.l.t.v.k, .int .i64 x.l.t.v.n, .string x.l.t.v.s, p.v, .int .i64 x.r.op, .string x.r.t.x, .int .i64 x.r.t.v.k, .int .i64 x.r.t.v.n, .string x.r.t.v.s, q.v, .int .i64 x.pos] 38)) = wb at *
  have Hbw0 := Lib.hid (Below.refl wb.heap.size wb)
  go_enter Tryz.func70, Tryz.ntmps70
  go_wp2_with fail
  try simp only [hwb]
  go_wp2_with fail
  refine (C1.out _ Hbw0.out).mono ?_
  rintro e1 w1 ⟨rfl, hq1⟩
  have Hbw1 := Lib.hid (below_next Hbw0.out hq1)
  obtain ⟨f1_0, f1_1, f1_2, f1_3, f1_4, f1_5, f1_6, f1_7, f1_8, f1_9, f1_10, f1_11, f1_12, f1_13, f1_14, f1_15, f1_16⟩ := facts17 (Hrow.out _ Hbw1.out)
  clear hq1 f0_0 f0_1 f0_2 f0_3 f0_4 f0_5 f0_6 f0_7 f0_8 f0_9 f0_10 f0_11 f0_12 f0_13 f0_14 f0_15 f0_16
  cases P1 with
  | false =>
    go_wp2_with fail
    go_ret
    exact ⟨by rw [HE2.out]; rfl, below_next hba Hbw1.out⟩
  | true =>
    go_wp2_with fail
    refine (C2.out _ Hbw1.out).mono ?_
    rintro e2 w2 ⟨rfl, hq2⟩
    have Hbw2 := Lib.hid (below_next Hbw1.out hq2)
    obtain ⟨f2_0, f2_1, f2_2, f2_3, f2_4, f2_5, f2_6, f2_7, f2_8, f2_9, f2_10, f2_11, f2_12, f2_13, f2_14, f2_15, f2_16⟩ := facts17 (Hrow.out _ Hbw2.out)
    clear hq2 f1_0 f1_1 f1_2 f1_3 f1_4 f1_5 f1_6 f1_7 f1_8 f1_9 f1_10 f1_11 f1_12 f1_13 f1_14 f1_15 f1_16
    cases P2 <;>
    · go_wp2_with fail
      go_ret
      exact ⟨by rw [HE2.out]; rfl, below_next hba Hbw2.out⟩
end Go.Proofs.YtplekbpmfaghbaaGreatDoor
