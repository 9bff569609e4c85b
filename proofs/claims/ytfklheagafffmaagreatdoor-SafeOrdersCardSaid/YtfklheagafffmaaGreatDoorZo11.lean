/- My own texts PushR, CpExp, as far as this claim needs them. -/
import Derived.Test.YtfklheagafffmaaGreatDoorZo7
import Derived.Test.YtfklheagafffmaaGreatDoorZo10
set_option linter.unusedVariables false
set_option linter.unusedSimpArgs false
namespace Go.Proofs.YtfklheagafffmaaGreatDoor
open Go.RowKit
section
variable {P : Program}
/-- where the grown slice lies: in its row, or in a new one -/
theorem append_blk {w : World} {base t ty e size bytes : Nat} {i : TypeInfo} {z : Value} (ht : P.underlying t = some (.slice e)) (hi : P.info? e = some i) (hz : i.zero = some z) (hsize : i.size = size) (hby : i.bytes = bytes) (hsz : 0 < size)
    {v : Value} {n : Nat} {xs : List Value} (hown : w.ownsRow base e size v n xs) {a : Addr} {m c : Nat} {news : List Value} (hl : news.length = m * size) (hnews : ∀ j u, news[j]? = some u → w.cell? (a.add j) = some u) (h1 : ∀ u ∈ news, u.oneCell' = true)
    (h63 : n + m ≤ maxLen) (hbytes : (n + m) * bytes ≤ 140737488355328) {v' : Value} {w' : World} (hrun : (Builtin.append_ #[t, t] ty #[v, .slice (some a) m c]).run P w = .ok v' w') :
    ∀ b, v'.ownBlock = some b → v.ownBlock = some b ∨ w.heap.size ≤ b := by
  subst hsize
  subst hby
  have hsmall : n + m ≤ 9223372036854775807 := by simp only [maxLen] at h63; omega
  rcases hown.2 with ⟨rfl, rfl⟩ | ⟨g, cap, cur, rfl, hbg, hg, hnc, hcm, hcs, htake⟩
  · have hx : xs = [] := List.eq_nil_of_length_eq_zero (by simpa using hown.1)
    subst hx
    by_cases hm : m = 0
    · subst hm
      have hn : news = [] := List.eq_nil_of_length_eq_zero (by simpa using hl)
      subst hn
      have hr : (Builtin.append_ #[t, t] ty #[.slice none 0 0, .slice (some a) 0 c]).run P w = .ok (.slice none 0 0) w := by
        simp [Builtin.append_, run_underlying ht, sizeOf, typeInfo, hi, Builtin.lenOf, Builtin.firstCells, loadCells, loadCellsFrom]
      rw [hr] at hrun
      injection hrun with h2 h3
      subst h2
      intro b hb; cases hb
    · have hr := run_append_nil (P := P) w t ty e i z ht hi hz a m c news hl hnews (by omega) (by omega) (by have hb := hbytes; simp only [Nat.zero_add] at hb; omega)
      rw [hr] at hrun
      injection hrun with h2 h3
      subst h2
      intro b hb
      right
      simp [Value.ownBlock] at hb
      omega
  · by_cases hroom : n + m ≤ cap
    · have hfit : n * i.size + news.length ≤ cur.size := by rw [hl, hcs, ← Nat.add_mul]; exact Nat.mul_le_mul_right _ hroom
      have hr := run_append_room (P := P) w t ty e i ht hi g n cap cur hg a m c news hl hnews h1 hroom hfit
      rw [hr] at hrun
      injection hrun with h2 h3
      subst h2
      intro b hb
      left
      simpa [Value.ownBlock] using hb
    · have holds : ∀ j u, xs[j]? = some u → w.cell? ((⟨g, 0, none⟩ : Addr).add j) = some u := hown.cells (g := g) rfl
      have hr := run_append_grow (P := P) w t ty e i z ht hi hz ⟨g, 0, none⟩ n cap xs hown.1 holds a m c news hl hnews (by omega) (by omega) (growslice_fits (by omega) hbytes)
      rw [hr] at hrun
      injection hrun with h2 h3
      subst h2
      intro b hb
      right
      simp [Value.ownBlock] at hb
      omega
/-- one more element -/
theorem push_more (w : World) {base t ty e size bytes : Nat} {z : Value} (ht : P.underlying t = some (.slice e)) (hi : (P.info? e).map (fun i => (i.zero, i.size, i.bytes)) = some (some z, size, bytes))
    (hzs : z.cells.size = size) (hsz : 0 < size) {A : Option Addr} {n c : Nat} {xs : List Value} (hown : w.ownsRow base e size (.slice A n c) n xs) (g : Nat) (cs : List Value) (hl : cs.length = size) (hg : w.heap[g]? = some (.cells cs.toArray e (0, 0))) (h1 : ∀ u ∈ cs, u.oneCell' = true)
    (h63 : n + 1 ≤ maxLen) (hbytes : (n + 1) * bytes ≤ 140737488355328) (hbase : base ≤ w.heap.size) :
    ∃ A' c' w', (Builtin.append_ #[t, t] ty #[.slice A n c, .slice (some ⟨g, 0, none⟩) 1 1]).run P w = .ok (.slice A' (n + 1) c') w' ∧ w'.ownsRow base e size (.slice A' (n + 1) c') (n + 1) (xs ++ cs) ∧ Out (Value.slice A n c).ownBlock.toList w w' ∧
      (∀ b, (Value.slice A' (n + 1) c').ownBlock = some b → (Value.slice A n c).ownBlock = some b ∨ w.heap.size ≤ b) := by
  obtain ⟨v', w', h2, h3, h4, h5⟩ := run_push_at (P := P) (ty := ty) w ht hi hzs hsz hown g cs hl hg h1 h63 hbytes hbase
  obtain ⟨A', c', rfl⟩ := own_form h3
  obtain ⟨i, hi', hz, hs, hb⟩ := info_parts hi
  have hnews : ∀ j u, cs[j]? = some u → w.cell? ((⟨g, 0, none⟩ : Addr).add j) = some u := by
    intro j u hu
    have hadd : (⟨g, 0, none⟩ : Addr).add j = ⟨g, j, none⟩ := by unfold Addr.add; split <;> simp_all
    rw [hadd, cell_of_row _ g j cs.toArray e (0, 0) hg]
    simpa using hu
  exact ⟨A', c', w', h2, h3, grown_out h4, append_blk ht hi' hz hs hb hsz hown (by rw [hl]; omega) hnews h1 h63 hbytes h2⟩
/-- an operation that yields a value and leaves the world as it is -/
theorem op_val {o : Oper} {a : Act} {w : World} {K : Act → World → Prop} {Q : Exit → Act → World → Prop} (v : Value) (h : (execOp a.eval o).run P w = .ok (.value v) w) (hk : K (a.put o.dst v) w) : o.wp P a w K Q := by
  unfold Oper.wp
  rw [h]
  exact hk
theorem op_skip {o : Oper} {a : Act} {w w' : World} {K : Act → World → Prop} {Q : Exit → Act → World → Prop} (h : (execOp a.eval o).run P w = .ok .skip w') (hk : K (a.put o.dst undef) w') : o.wp P a w K Q := by
  unfold Oper.wp
  rw [h]
  exact hk
theorem op_append {w w' : World} {o : Oper} {a : Act} {K : Act → World → Prop} {Q : Exit → Act → World → Prop} {v' : Value} (s x : Operand) (t : TypeId)
    (ho : o.op = .call { callee := .builtin .append, args := #[s, x], argTypes := #[t, t] }) (v xv : Value) (hs : a.eval s = v) (hx : a.eval x = xv)
    (hrun : (Builtin.append_ #[t, t] o.type #[v, xv]).run P w = .ok v' w') (h : K (a.put o.dst v') w') : o.wp P a w K Q := by
  unfold Oper.wp execOp
  simp only [ho, resolve, invoke, builtin, Sem.run_bind, Sem.run_pure, Result.andThen_ok, List.map_toArray, List.map_cons, List.map_nil, hs, hx, hrun]
  exact h
theorem run_load1 {w : World} {ty e : TypeId} {a : Addr} {v : Value} (hu : P.underlying ty = some (.slice e)) (h : w.cell? a = some v) : (Instr.loadAt ty (.pointer (some a))).run P w = .ok v w := by
  have hagg : (isAgg ty).run P w = .ok false w := by
    unfold isAgg
    rw [Sem.run_bind, run_underlying hu w]
    rfl
  simp [Instr.loadAt, Instr.sureAddr, loadVar, hagg, go_sem, h]
theorem run_store1 {w : World} {ty : TypeId} {g q : Nat} {A : Option Addr} {n c : Nat} {cs : Array Value} {t : TypeId} (hi : (P.info? ty).map (·.size) = some 1) (hg : w.heap[g]? = some (.cells cs t (0, 0))) (hq : q < cs.size) : (Instr.storeAt ty (.pointer (some ⟨g, q, none⟩)) (.slice A n c)).run P w = .ok () (w.setCell ⟨g, q, none⟩ (.slice A n c)) := by
  obtain ⟨i, hi1, hi2⟩ := Option.map_eq_some_iff.1 hi
  have h1 : w.cell? ⟨g, q, none⟩ = some cs[q] := by rw [cell_of_row _ _ _ _ _ _ hg]; simp [hq]
  have h2 : w.frozen? ⟨g, q, none⟩ = false := frozen_of_row _ _ _ _ _ hg
  simp [Instr.storeAt, Instr.sureAddr, storeVar, sizeOf, typeInfo, hi1, hi2, go_sem, h1, h2]
theorem own_typeR {w : World} {base e sz : Nat} {v : Value} {n : Nat} {xs : List Value} (h : w.ownsRow base e sz v n xs) {b : Nat} (hb : v.ownBlock = some b) : ∃ cur, w.heap[b]? = some (.cells cur e (0, 0)) := by
  rcases h.2 with ⟨hn, _⟩ | ⟨g, cap, cur, rfl, hg, hh, r⟩
  · rw [hn] at hb; cases hb
  · injection hb with hb; subst hb; exact ⟨cur, hh⟩
theorem range_rowR {w : World} {g : Nat} {T : TypeId} {cs : List Value} (h : w.heap[g]? = some (.cells cs.toArray T (0, 0))) : w.rangeAt g 0 cs := fun j v hj => by
  rw [cell_of_row _ _ _ _ _ _ h]; simpa using hj
theorem below_nextR {w W w1 : World} (h : Below w.heap.size w W) (h' : Below W.heap.size W w1) : Below w.heap.size w w1 := h.trans (h'.mono h.size)
/-- the region's text -/
abbrev pushOps (T sT xT f tb tx fld d0 d1 d2 d3 d4 d5 d6 : Nat) (y0 y1 y2 y3 y4 y5 y6 y7 : TypeId) (p : String) : Array Oper := #[
  { dst := some d0, op := .fieldAddr T (.tmp tb) fld, type := y0, pos := p, after := #[], guard := none },
  { dst := some d1, op := .load sT (.tmp d0), type := y1, pos := p, after := #[⟨0, .data⟩], guard := none },
  { dst := some d2, op := .load xT (.tmp tx), type := y2, pos := p, after := #[], guard := none },
  { dst := some d3, op := .call { callee := .value (.func f), args := #[.tmp d2], argTypes := #[xT] }, type := y3, pos := p, after := #[⟨2, .data⟩], guard := none },
  { dst := some d4, op := .buildSlice sT 1 #[(0, .tmp d3)], type := y4, pos := p, after := #[⟨3, .data⟩], guard := none },
  { dst := some d5, op := .call { callee := .builtin .append, args := #[.tmp d1, .tmp d4], argTypes := #[sT, sT] }, type := y5, pos := p, after := #[⟨1, .data⟩, ⟨4, .data⟩, ⟨3, .chain⟩], guard := none },
  { dst := some d6, op := .fieldAddr T (.tmp tb) fld, type := y6, pos := p, after := #[⟨0, .phase⟩, ⟨1, .phase⟩, ⟨2, .phase⟩, ⟨3, .phase⟩, ⟨4, .phase⟩, ⟨5, .phase⟩], guard := none },
  { dst := none, op := .store sT (.tmp d6) (.tmp d5), type := y7, pos := p, after := #[⟨6, .data⟩, ⟨5, .data⟩, ⟨5, .chain⟩, ⟨0, .phase⟩, ⟨1, .phase⟩, ⟨2, .phase⟩, ⟨3, .phase⟩, ⟨4, .phase⟩, ⟨5, .phase⟩], guard := none }]
/-- what an operation's value is -/
def pushF (base eT size k g q : Nat) (S : List Nat) (A : Option Addr) (c : Nat) (xs ecs : List Value) (Res : List Value → World → Prop) (Res2 : List Nat → List Value → World → Prop) (w0 : World) (i : Nat) (v : Value) (W : World) : Prop := match i with
  | 0 => v = .pointer (some ⟨g, q, none⟩)
  | 1 => v = .slice A k c
  | 2 => v = .agg ecs.toArray
  | 3 => ∃ vcs : List Value, v = .agg vcs.toArray ∧ vcs.length = size ∧ (∀ u ∈ vcs, u.oneCell' = true) ∧ Res vcs W ∧ w0.heap.size ≤ W.heap.size
  | 4 => ∃ (vcs : List Value) (b : Nat), v = .slice (some ⟨b, 0, none⟩) 1 1 ∧ vcs.length = size ∧ (∀ u ∈ vcs, u.oneCell' = true) ∧ Res vcs W ∧ W.heap[b]? = some (.cells vcs.toArray eT (0, 0)) ∧ w0.heap.size ≤ b
  | 5 => ∃ (vcs : List Value) (A' : Option Addr) (c' : Nat), v = .slice A' (k + 1) c' ∧ vcs.length = size ∧ Res2 (Value.slice A' (k + 1) c').ownBlock.toList vcs W ∧ W.ownsRow base eT size (.slice A' (k + 1) c') (k + 1) (xs ++ vcs) ∧ (∀ b, (Value.slice A' (k + 1) c').ownBlock = some b → b ∈ S ∨ w0.heap.size ≤ b)
  | 6 => v = .pointer (some ⟨g, q, none⟩)
  | _ => True
structure PushG (T xT g x : Nat) (S : List Nat) (cs : Array Value) (ecs : List Value) (w0 W : World) : Prop where
  g : W.heap[g]? = some (.cells cs T (0, 0))
  x : W.heap[x]? = some (.cells ecs.toArray xT (0, 0))
  out : Out S w0 W
theorem PushG.keep {T xT g x : Nat} {S : List Nat} {cs : Array Value} {ecs : List Value} {w0 W W' : World} (h : PushG T xT g x S cs ecs w0 W) (hb : Below W.heap.size W W') : PushG T xT g x S cs ecs w0 W' :=
  ⟨(hb.block _ (Array.getElem?_eq_some_iff.1 h.g).1).trans h.g, (hb.block _ (Array.getElem?_eq_some_iff.1 h.x).1).trans h.x, h.out.trans (Out.of_below hb []) (fun _ h _ => by cases h)⟩
theorem pushF_keep {base eT size k g q : Nat} {S : List Nat} {A : Option Addr} {c : Nat} {xs ecs : List Value} {Res : List Value → World → Prop} {Res2 : List Nat → List Value → World → Prop} {w0 : World} (hRes : ∀ vcs W W', Res vcs W → Below W.heap.size W W' → Res vcs W') (hResB : ∀ S vcs W W', Res2 S vcs W → Below W.heap.size W W' → Res2 S vcs W') {i : Nat} {v : Value} {W W' : World}
    (h : pushF base eT size k g q S A c xs ecs Res Res2 w0 i v W) (hb : Below W.heap.size W W') : pushF base eT size k g q S A c xs ecs Res Res2 w0 i v W' := by
  match i, h with
  | 0, h => exact h
  | 1, h => exact h
  | 2, h => exact h
  | 3, ⟨vcs, h1, h2, h3, h4, h5⟩ => exact ⟨vcs, h1, h2, h3, hRes _ _ _ h4 hb, Nat.le_trans h5 hb.size⟩
  | 4, ⟨vcs, b, h1, h2, h3, h4, h5, h6⟩ => exact ⟨vcs, b, h1, h2, h3, hRes _ _ _ h4 hb, (hb.block _ (Array.getElem?_eq_some_iff.1 h5).1).trans h5, h6⟩
  | 5, ⟨vcs, A', c', h1, h2, h3, h4, h5⟩ => exact ⟨vcs, A', c', h1, h2, hResB _ _ _ _ h3 hb, own_below h4 hb, h5⟩
  | 6, h => exact h
  | _ + 7, _ => exact trivial
set_option maxRecDepth 20000 in
set_option maxHeartbeats 2000000 in
theorem push_region {id : Nat} {a : Act} {w : World} {Q : Exit → Act → World → Prop} {T sT xT f tb tx fld d0 d1 d2 d3 d4 d5 d6 : Nat} {y0 y1 y2 y3 y4 y5 y6 y7 : TypeId} {p : String} (n : Nat) (hm : P.follows .mixedOrders = true)
    (hn : a.tmps.size = n) (hd : a.defers = []) (hok : drawnOk (pushOps T sT xT f tb tx fld d0 d1 d2 d3 d4 d5 d6 y0 y1 y2 y3 y4 y5 y6 y7 p) 7 n = true)
    (htb : ((pushOps T sT xT f tb tx fld d0 d1 d2 d3 d4 d5 d6 y0 y1 y2 y3 y4 y5 y6 y7 p).toList.take 7).all (fun o => !decide (o.dst = some tb)) = true) (htx : ((pushOps T sT xT f tb tx fld d0 d1 d2 d3 d4 d5 d6 y0 y1 y2 y3 y4 y5 y6 y7 p).toList.take 7).all (fun o => !decide (o.dst = some tx)) = true)
    (g x q base eT size bytes k : Nat) (z : Value) (A : Option Addr) (c : Nat) (xs ecs : List Value) (cs : Array Value) (Res : List Value → World → Prop) (Res2 : List Nat → List Value → World → Prop) (ds : TypeDesc)
    (hb : a.tmps[tb]? = some (.pointer (some ⟨g, 0, none⟩))) (hx : a.tmps[tx]? = some (.pointer (some ⟨x, 0, none⟩))) (hg0 : w.heap[g]? = some (.cells cs T (0, 0))) (hx0 : w.heap[x]? = some (.cells ecs.toArray xT (0, 0)))
    (hcq : cs[q]? = some (.slice A k c)) (hfld : ∀ w : World, (Instr.fieldAt T (.pointer (some ⟨g, 0, none⟩)) fld).run P w = .ok (.pointer (some ⟨g, q, none⟩)) w)
    (huS : P.underlying sT = some (.slice eT)) (hiS : (P.info? sT).map (·.size) = some 1) (huX : P.underlying xT = some ds) (hdX : ds.isRow = true) (hiX : (P.info? xT).map (·.size) = some ecs.length)
    (hi : (P.info? eT).map (fun i => (i.zero, i.size, i.bytes)) = some (some z, size, bytes)) (hzs : z.cells.size = size) (hsz : 0 < size) (hs24 : size ≤ 2 ^ 24)
    (hown : w.ownsRow base eT size (.slice A k c) k xs) (hT : g ∉ (Value.slice A k c).ownBlock.toList) (hX : x ∉ (Value.slice A k c).ownBlock.toList) (h63 : k + 1 ≤ maxLen) (hbytes : (k + 1) * bytes ≤ 140737488355328) (hbase : base ≤ w.heap.size)
    (fn : Func) (hfn : P.funcs[f]? = some fn) (hbd : fn.body.isSome = true) (hng : (fn.name == "runtime.NumGoroutine") = false)
    (hRes : ∀ vcs W W', Res vcs W → Below W.heap.size W W' → Res vcs W') (hResB : ∀ S vcs W W', Res2 S vcs W → Below W.heap.size W W' → Res2 S vcs W') (hRes3 : ∀ S vcs W W', Res vcs W → w.heap.size ≤ W.heap.size → Out (Value.slice A k c).ownBlock.toList W W' → (∀ b ∈ S, b ∈ (Value.slice A k c).ownBlock.toList ∨ W.heap.size ≤ b) → Res2 S vcs W')
    (hRes2 : ∀ vcs W W', Res vcs W → w.heap.size ≤ W.heap.size → Out (Value.slice A k c).ownBlock.toList W W' → Res vcs W')
    (hcall : ∀ W, Below w.heap.size w W → Calls P f #[.agg ecs.toArray] W (fun r w' => ∃ vcs : List Value, r = .returned (.agg vcs.toArray) ∧ vcs.length = size ∧ (∀ u ∈ vcs, u.oneCell' = true) ∧ Res vcs w' ∧ Below W.heap.size W w'))
    (hQ : ∀ (u : Nat → Value) (W : World) (vcs : List Value) (A' : Option Addr) (c' : Nat),
      vcs.length = size → Res2 (Value.slice A' (k + 1) c').ownBlock.toList vcs W → W.ownsRow base eT size (.slice A' (k + 1) c') (k + 1) (xs ++ vcs) → (∀ b, (Value.slice A' (k + 1) c').ownBlock = some b → b ∈ (Value.slice A k c).ownBlock.toList ∨ w.heap.size ≤ b) → Out (Value.slice A k c).ownBlock.toList w W →
      W.heap[g]? = some (.cells cs T (0, 0)) → Q .normal ([d0, d1, d2, d3, d4, d5, d6].foldl (fun x d => x.put (some d) (u d)) a) (W.setCell ⟨g, q, none⟩ (.slice A' (k + 1) c'))) :
    (Code.region id (pushOps T sT xT f tb tx fld d0 d1 d2 d3 d4 d5 d6 y0 y1 y2 y3 y4 y5 y6 y7 p) true).wp P Q a w := by
  have hw0 : Below w.heap.size w w.drew := below_drewN w 1 _
  have hown0 : w.drew.ownsRow base eT size (.slice A k c) k xs := own_below hown hw0
  have hG0 : PushG T xT g x (Value.slice A k c).ownBlock.toList cs ecs w w.drew := ⟨hg0, hx0, Out.of_below hw0 _⟩
  refine drawn hm 7 n (fun j W => PushG T xT g x (Value.slice A k c).ownBlock.toList cs ecs w W ∧ (j = 5 → W.ownsRow base eT size (.slice A k c) k xs) ∧ (j = 3 → Below w.heap.size w W)) (pushF base eT size k g q (Value.slice A k c).ownBlock.toList A c xs ecs Res Res2 w)
    (fun j W W' => if j = 5 then Out (Value.slice A k c).ownBlock.toList W W' ∧ g ∉ (Value.slice A k c).ownBlock.toList ∧ x ∉ (Value.slice A k c).ownBlock.toList else Below W.heap.size W W') hn hok hd (fun j _ => ⟨hG0, fun _ => hown0, fun _ => hw0⟩) ?_ ?_ ?_ ?_
  · intro i j v W W' hij hil hj hF hR
    by_cases h5 : j = 5
    · subst h5
      simp only [if_true] at hR
      obtain ⟨hR, -, -⟩ := hR
      have hblk : ∀ b, w.heap.size ≤ b → b ∉ (Value.slice A k c).ownBlock.toList := fun b hb hmem => by
        have := (own_blk hown (b := b) (by simpa using hmem)).2
        omega
      match i, hF with
      | 0, h => exact h
      | 1, h => exact h
      | 2, h => exact h
      | 3, ⟨vcs, h1, h2, h3, h4, h5⟩ => exact ⟨vcs, h1, h2, h3, hRes2 _ _ _ h4 h5 hR, Nat.le_trans h5 hR.size⟩
      | 4, ⟨vcs, b, h1, h2, h3, h4, h5, h6⟩ =>
        have hbl := (Array.getElem?_eq_some_iff.1 h5).1
        exact ⟨vcs, b, h1, h2, h3, hRes2 _ _ _ h4 (by omega) hR, (hR.block _ hbl (hblk b h6)).trans h5, h6⟩
      | 5, _ => exact absurd rfl hij
      | 6, h => exact h
      | _ + 7, _ => exact trivial
    · rw [if_neg h5] at hR
      exact pushF_keep hRes hResB hF hR
  · intro i j W W' hij hil hj hanc hG hR
    by_cases h5 : i = 5
    · subst h5
      simp only [if_true] at hR
      obtain ⟨hR, h1, h2⟩ := hR
      refine ⟨⟨(hR.block _ (Array.getElem?_eq_some_iff.1 hG.1.g).1 h1).trans hG.1.g, (hR.block _ (Array.getElem?_eq_some_iff.1 hG.1.x).1 h2).trans hG.1.x, hG.1.out.trans hR (fun _ h _ => h)⟩, fun e => absurd e (Ne.symm hij), fun e => absurd (by subst e; simp [ancs, Region.binds]) hanc⟩
    · rw [if_neg h5] at hR
      exact ⟨hG.1.keep hR, fun e => own_below (hG.2.1 e) hR, fun e => below_nextR (hG.2.2 e) hR⟩
  · intro i o a' W hil ho hd' hold hGi hGL hw
    have hr1 := (hold tb htb).trans hb
    have hr2 := (hold tx htx).trans hx
    have hbw : ∀ W : World, Below W.heap.size W W := fun W => Below.refl _ W
    match i, hil, ho with
    | 0, _, ho =>
      injection ho with ho; subst ho
      exact op_val _ (by simp [execOp, Act.eval, hr1, hfld]) ⟨_, rfl, hbw _, rfl⟩
    | 1, _, ho =>
      injection ho with ho; subst ho
      obtain ⟨v0, h0, e0⟩ := hw 0 d0 rfl
      obtain rfl : v0 = _ := e0
      exact op_val _ (by simp [execOp, Act.eval, h0, run_load1 huS ((cell_of_row _ _ _ _ _ _ hGi.1.g).trans hcq)]) ⟨_, rfl, hbw _, rfl⟩
    | 2, _, ho =>
      injection ho with ho; subst ho
      exact wp_load_mid xT (.tmp tx) rfl _ _ (eval_tmp hr2) ecs ds (range_rowR hGi.1.x) huX hdX hiX ⟨_, rfl, hbw _, rfl⟩
    | 3, _, ho =>
      injection ho with ho; subst ho
      obtain ⟨v0, h0, e0⟩ := hw 2 d2 rfl
      obtain rfl : v0 = _ := e0
      refine op_call f _ rfl rfl #[.agg ecs.toArray] (by simp [Act.eval, h0]) fn hfn hbd hng ((hcall W (hGi.2.2 rfl)).mono ?_)
      rintro r w' ⟨vcs, rfl, e1, e2, e3, e4⟩
      exact ⟨_, rfl, _, rfl, e4, vcs, rfl, e1, e2, e3, Nat.le_trans hGi.1.out.size e4.size⟩
    | 4, _, ho =>
      injection ho with ho; subst ho
      obtain ⟨v0, h0, vcs, e0, e1, e2, e3, -⟩ := hw 3 d3 rfl
      obtain rfl : v0 = _ := e0
      refine op_bslice sT eT 1 _ rfl size [.agg vcs.toArray] huS (by obtain ⟨i, hi1, hi2⟩ := Option.map_eq_some_iff.1 hi; rw [hi1]; simp at hi2 ⊢; simp [hi2]) hsz rfl (by decide) (by omega) (by simp [Act.eval, h0]) (by simp [Value.cells, e1]) ?_
      simp only [List.flatMap_cons, List.flatMap_nil, List.append_nil, Value.cells]
      exact ⟨_, rfl, belowA (Below.refl _ _) _, vcs, _, rfl, e1, e2, hRes _ _ _ e3 (belowA (Below.refl _ _) _), heapNew rfl, hGi.1.out.size⟩
    | 5, _, ho =>
      injection ho with ho; subst ho
      obtain ⟨v0, h0, e0⟩ := hw 1 d1 rfl
      obtain rfl : v0 = _ := e0
      obtain ⟨v1, h1, vcs, b, e1, e2, e3, e4, e5, e6⟩ := hw 4 d4 rfl
      obtain rfl : v1 = _ := e1
      obtain ⟨A', c', w', k1, k2, k3, k4⟩ := push_more (P := P) (ty := y5) W huS hi hzs hsz (hGi.2.1 rfl) b vcs e2 e5 e3 h63 hbytes (Nat.le_trans hbase hGi.1.out.size)
      refine op_append _ _ _ rfl _ _ (eval_tmp h0) (eval_tmp h1) k1 ⟨_, rfl, ?_, vcs, A', c', rfl, e2, hRes3 _ _ _ _ e4 hGi.1.out.size k3 (fun b hb => (k4 b (by simpa using hb)).imp (fun h => by simp [h]) (fun h => h)), k2, fun b hb => ?_⟩
      · simp only [if_true]
        exact ⟨k3, hT, hX⟩
      · rcases k4 b hb with h | h
        · exact .inl (by simp [h])
        · exact .inr (Nat.le_trans hGi.1.out.size h)
    | 6, _, ho =>
      injection ho with ho; subst ho
      exact op_val _ (by simp [execOp, Act.eval, hr1, hfld]) ⟨_, rfl, hbw _, rfl⟩
    | n + 7, hil, _ => omega
  · intro o a' W ho hd' hs hold hGL hw
    obtain ⟨v0, h0, e0⟩ := hw 6 d6 (by decide) rfl
    obtain ⟨v1, h1, vcs, A', c', e1, e2, e3, e4, e5⟩ := hw 5 d5 (by decide) rfl
    obtain rfl : v0 = _ := e0
    obtain rfl : v1 = _ := e1
    injection ho with ho; subst ho
    have hqs : q < cs.size := (Array.getElem?_eq_some_iff.1 hcq).1
    have hrun : (execOp a'.eval { dst := none, op := .store sT (.tmp d6) (.tmp d5), type := y7, pos := p, after := #[⟨6, .data⟩, ⟨5, .data⟩, ⟨5, .chain⟩, ⟨0, .phase⟩, ⟨1, .phase⟩, ⟨2, .phase⟩, ⟨3, .phase⟩, ⟨4, .phase⟩, ⟨5, .phase⟩], guard := none }).run P W = .ok .skip (W.setCell ⟨g, q, none⟩ (.slice A' (k + 1) c')) := by
      simp [execOp, Act.eval, h0, h1, run_store1 (A := A') (n := k + 1) (c := c') hiS hGL.1.g hqs]
    obtain ⟨u, hu, -⟩ := frame_of (a := a) (a' := a') [d0, d1, d2, d3, d4, d5, d6] (by rw [hs, hn]) (by rw [hd', hd]) (fun t ht => hold t (by simp at ht; simp [Ne.symm ht.1, Ne.symm ht.2.1, Ne.symm ht.2.2.1, Ne.symm ht.2.2.2.1, Ne.symm ht.2.2.2.2.1, Ne.symm ht.2.2.2.2.2.1, Ne.symm ht.2.2.2.2.2.2]))
    refine op_skip hrun ?_
    have hq := hQ u W vcs A' c' e2 e3 e4 e5 hGL.1.out hGL.1.g
    rw [← hu] at hq
    exact hq
end
section
variable {α : Type} {E : Enc α}
structure Rows (E : Enc α) (b1 eT : Nat) (W : World) (A : Option Addr) (k c : Nat) (L : List (α × List Value)) : Prop where
  own : W.ownsRow b1 eT E.sz (.slice A k c) k (L.flatMap (·.2))
  len : L.length = k
  far : ∀ p ∈ L, E.ok (sans W (List.range b1 ++ (Value.slice A k c).ownBlock.toList)) W.heap.size p.2 p.1
theorem Rows.nil (b1 eT : Nat) (W : World) : Rows E b1 eT W Option.none 0 0 [] := ⟨World.ownsRow_nil _ _ _ _, rfl, fun _ h => by cases h⟩
theorem Rows.out {b1 eT : Nat} {W W' : World} {A : Option Addr} {k c : Nat} {L : List (α × List Value)} {S : List Nat} (h : Rows E b1 eT W A k c L) (ho : Out S W W') (hS : ∀ b ∈ S, b < W.heap.size → b < b1) : Rows E b1 eT W' A k c L :=
  ⟨own_out' h.own (S := S.filter (fun b => decide (b < W.heap.size))) ⟨ho.os, ho.tape, ho.output, ho.size, fun b hb hn => ho.block b hb (fun hs => hn (List.mem_filter.2 ⟨hs, by simpa using hb⟩))⟩ (fun b hb hm => by
      have h1 := (own_blk h.own hb).1
      obtain ⟨h2, h3⟩ := List.mem_filter.1 hm
      have := hS b h2 (by simpa using h3)
      omega), h.len,
    fun p hp => E.mono ho.size (ho.kept (T := List.range b1 ++ (Value.slice A k c).ownBlock.toList) (fun b hb hl => List.mem_append_left _ (List.mem_range.2 (hS b hb hl))) (fun _ hb _ => hb)) (h.far p hp)⟩
theorem Rows.push {b1 eT : Nat} {W0 W : World} {A A' : Option Addr} {k c c' : Nat} {L : List (α × List Value)} {vcs : List Value} {x : α} (h : Rows E b1 eT W0 A k c L) (hb : b1 ≤ W0.heap.size)
    (hown : W.ownsRow b1 eT E.sz (.slice A' (k + 1) c') (k + 1) (L.flatMap (·.2) ++ vcs)) (hblk : ∀ b, (Value.slice A' (k + 1) c').ownBlock = some b → b ∈ (Value.slice A k c).ownBlock.toList ∨ W0.heap.size ≤ b) (ho : Out (Value.slice A k c).ownBlock.toList W0 W)
    (hx : E.ok (sans W (List.range W0.heap.size ++ (Value.slice A' (k + 1) c').ownBlock.toList)) W.heap.size vcs x) : Rows E b1 eT W A' (k + 1) c' (L ++ [(x, vcs)]) := by
  refine ⟨by simpa using hown, by simp [h.len], fun p hp => ?_⟩
  rcases List.mem_append.1 hp with hp | hp
  · refine E.mono ho.size (ho.kept (fun b hb _ => List.mem_append_right _ hb) (fun b hb hl => ?_)) (h.far p hp)
    rcases List.mem_append.1 hb with hb | hb
    · exact List.mem_append_left _ hb
    · rcases hblk b (by simpa using hb) with h1 | h1
      · exact List.mem_append_right _ h1
      · omega
  · obtain rfl : p = (x, vcs) := by simpa using hp
    refine E.mono (Nat.le_refl _) ((Out.refl [] W).kept (fun _ h _ => by cases h) (fun b hb' _ => ?_)) hx
    rcases List.mem_append.1 hb' with hb' | hb'
    · exact List.mem_append_left _ (List.mem_range.2 (by have := List.mem_range.1 hb'; omega))
    · exact List.mem_append_right _ hb'
theorem own_sans {w : World} {S : List Nat} {base e sz : Nat} {v : Value} {n : Nat} {xs : List Value} (h : w.ownsRow base e sz v n xs) (hS : ∀ b ∈ S, b < base) : (sans w S).ownsRow base e sz v n xs := by
  refine ⟨h.1, ?_⟩
  rcases h.2 with hn | ⟨g, cap, cur, rfl, hg, hh, r⟩
  · exact .inl hn
  · exact .inr ⟨g, cap, cur, rfl, hg, (sans_out (fun hs => by have := hS g hs; omega)).trans hh, r⟩
theorem flat_piece2 (sz : Nat) : ∀ (L : List (α × List Value)) (i : Nat) (p : α × List Value), (∀ q ∈ L, q.2.length = sz) → L[i]? = some p → ((L.flatMap (·.2)).drop (i * sz)).take sz = p.2
  | [], i, p, _, h => by simp at h
  | q :: L, 0, p, hl, h => by
    simp at h; subst h
    simp only [List.flatMap_cons, Nat.zero_mul, List.drop_zero]
    rw [← hl q (by simp)]
    exact List.take_left
  | q :: L, i + 1, p, hl, h => by
    simp only [List.flatMap_cons]
    rw [show (i + 1) * sz = q.2.length + i * sz by rw [hl q (by simp), Nat.add_mul, Nat.one_mul, Nat.add_comm], List.drop_append]
    rw [List.drop_eq_nil_of_le (Nat.le_add_right _ _), List.nil_append, Nat.add_sub_cancel_left]
    exact flat_piece2 sz L i p (fun q hq => hl q (by simp [hq])) (by simpa using h)
theorem Rows.is {b1 eT : Nat} {W : World} {A : Option Addr} {k c : Nat} {L : List (α × List Value)} (h : Rows E b1 eT W A k c L) (hk : k ≤ reachN) {base : Nat} (hb : base ≤ b1) : SliceFar E W (List.range base) A k c (L.map (·.1)) := by
  have h2 := own_sans (S := List.range base) h.own (fun b hb' => by have := List.mem_range.1 hb'; omega)
  have h3 := SliceIs.of_own (E := E) (l := L.map (·.1)) h2 (by simp [h.len]) hk (fun i x hx => by
    rw [List.getElem?_map, Option.map_eq_some_iff] at hx
    obtain ⟨p, hp, rfl⟩ := hx
    rw [flat_piece2 E.sz L i p (fun q hq => E.len (h.far q hq)) hp]
    rw [sans_size]
    exact E.mono (Nat.le_refl _) ((Out.refl [] W).kept (fun _ h _ => by cases h) (fun b hb' _ => List.mem_append_left _ (List.mem_range.2 (by have := List.mem_range.1 hb'; omega)))) (h.far p (List.mem_of_getElem? hp)))
  rw [sans_size] at h3
  exact h3
end
end Go.Proofs.YtfklheagafffmaaGreatDoor

namespace Go.Proofs.YtfklheagafffmaaGreatDoor
open Go.RowKit
/-- an expression whose kids lie in new rows -/
def CopyExp (d : Nat) (e : GExp) (w : World) (r : Ending) (w' : World) : Prop :=
  ∃ (A : Option Addr) (c : Nat), r = .returned (expV e A e.kids.length c) ∧ SliceFar (Enc.exp d) w' (List.range w.heap.size) A e.kids.length c e.kids ∧ Below w.heap.size w w'
abbrev zeC : List Value := [.int .i64 0, .string ⟨#[]⟩, .int .i64 0, .int .i64 0, .string ⟨#[]⟩, .slice none 0 0]
abbrev expC (e : GExp) (A : Option Addr) (n c : Nat) : List Value := [.int .i64 e.op, .string e.t.x, .int .i64 e.t.v.k, .int .i64 e.t.v.n, .string e.t.v.s, .slice A n c]
set_option maxRecDepth 100000 in
set_option maxHeartbeats 4000000 in
theorem copyExp_any : ∀ (d : Nat) (e : GExp) (A : Option Addr) (n c : Nat) (w : World), SliceIs (Enc.exp d) w w.heap.size A n c e.kids → Sm e → fits e.op → e.t.x.size ≤ reachN → e.t.v.ok →
    Calls Tryz.prog 55 #[expV e A n c] w (CopyExp d e w) := by
  intro d
  induction d using Nat.strongRecOn with
  | ind d ih =>
    intro e A n c w hk hsm hop hx hv
    have mixed : Tryz.prog.follows .mixedOrders = true := by kernel_rfl
    have IH := Lib.hid ih
    have hn := hk.bound
    have HK := Lib.hid hk
    have Hlen := Lib.hid hk.1
    have HSm := Lib.hid hsm
    obtain ⟨P, HP⟩ : ∃ P : Ending → World → Prop, Hid (P = CopyExp d e w) := ⟨_, rfl⟩
    rw [← HP.out]
    have hrb : (w.alloc (.cells #[.int .i64 e.op, .string e.t.x, .int .i64 e.t.v.k, .int .i64 e.t.v.n, .string e.t.v.s, .slice A n c] 68)).heap[w.heap.size]? = some (.cells #[.int .i64 e.op, .string e.t.x, .int .i64 e.t.v.k, .int .i64 e.t.v.n, .string e.t.v.s, .slice A n c] 68 (0, 0)) := heapNew rfl
    obtain ⟨b0, b1, b2, b3, b4, b5⟩ := facts6 hrb
    have hr2 : (((w.alloc (.cells (expC e A n c).toArray 68)).alloc (.cells zeC.toArray 52)).alloc (.cells (expC e none 0 0).toArray 52)).heap[w.heap.size + 2]? = some (.cells (expC e none 0 0).toArray 52 (0, 0)) := heapNew (by simp)
    have hr1 : (((w.alloc (.cells (expC e A n c).toArray 68)).alloc (.cells zeC.toArray 52)).alloc (.cells (expC e none 0 0).toArray 52)).heap[w.heap.size + 1]? = some (.cells zeC.toArray 52 (0, 0)) := heapOld (heapNew (by simp))
    have hbw : Below w.heap.size w (((w.alloc (.cells (expC e A n c).toArray 68)).alloc (.cells zeC.toArray 52)).alloc (.cells (expC e none 0 0).toArray 52)) := belowA (belowA (belowA (Below.refl _ _) _) _) _
    have hzw : (((w.alloc (.cells (expC e A n c).toArray 68)).alloc (.cells zeC.toArray 52)).alloc (.cells (expC e none 0 0).toArray 52)).heap.size = w.heap.size + 3 := by simp
    clear ih hk hsm hrb
    go_enter Tryz.func55, Tryz.ntmps55
    go_wp2_with fail
    try simp only [Nat.add_assoc, Nat.reduceAdd]
    generalize hw3 : ((w.alloc _).alloc _).alloc _ = w3
    rw [hw3] at hr2 hr1 hbw hzw
    have HZ := Lib.hid hzw
    clear hzw b0 b1 b2 b3 b4 b5 hw3
    go_loopw [14] (fun i wr => ∃ (j c' : Nat) (A' : Option Addr) (L : List (GExp × List Value)), j ≤ n ∧ i = .int .i64 j ∧ Hid (L.map (·.1) = e.kids.take j) ∧ Hid (Rows (Enc.exp d) (w.heap.size + 3) 52 wr A' j c' L) ∧ wr.heap[w.heap.size + 2]? = some (.cells (expC e A' j c').toArray 52 (0, 0)) ∧ wr.heap[w.heap.size + 1]? = some (.cells zeC.toArray 52 (0, 0)) ∧ Below w.heap.size w wr ∧ w.heap.size + 3 ≤ wr.heap.size) (fun i _ => n - (intOf i).toNat)
    case atStart => exact ⟨0, 0, none, [], by omega, rfl, rfl, Rows.nil _ _ _, hr2, hr1, hbw, by have := HZ.out; omega⟩
    case round =>
      obtain ⟨j, c', A', L, hj, rfl, HL, HR, hg, hg1, hbr, hzr⟩ := hrel
      have i0 : (0 : Int) ≤ (j : Int) := by omega
      by_cases hlt : j < n
      · have i1 : (j : Int) < (n : Int) := by omega
        obtain ⟨b, o, k, Ak, nk, ck, d', rfl, hb, hk', hd, x0, x1, x2, x3, x4, x5, f0, f1, f2, hkk⟩ := (HK.out.below hbr).exp_at hlt
        have hkm := Lib.hid (List.mem_of_getElem? hk'.out)
        have HT : Hid (e.kids.take (j + 1) = e.kids.take j ++ [k]) := by show _ = _; rw [List.take_add_one, hk'.out]; rfl
        have hba : Below wr.heap.size wr (wr.alloc (.cells (expC k Ak nk ck).toArray 68)) := belowA (Below.refl _ _) _
        have HC := Lib.hid (fun (W : World) (h : Below (wr.alloc (.cells (expC k Ak nk ck).toArray 68)).heap.size (wr.alloc (.cells (expC k Ak nk ck).toArray 68)) W) => IH.out d' (by omega) k Ak nk ck W ((hkk.mono' (Nat.le_trans hbr.size hba.size) (Kept.of fun bb hbb => hba.block bb (by have := hbr.size; omega))).mono' h.size (Kept.of h.block)) (HSm.out.kids k hkm.out) f0 f1 f2)
        have hn1 : j + 1 ≤ 1500 := by have := HSm.out.len; have := Hlen.out; omega
        have hdd := Lib.hid hd
        have hx2 : (wr.alloc (.cells (expC k Ak nk ck).toArray 68)).heap[wr.heap.size]? = some (.cells (expC k Ak nk ck).toArray 68 (0, 0)) := heapNew rfl
        have hgA := heapOld (o := .cells (expC k Ak nk ck).toArray 68) hg
        have hg1A := heapOld (o := .cells (expC k Ak nk ck).toArray 68) hg1
        have HRA := Lib.hid (HR.out.out (Out.of_below hba []) (fun _ h _ => by cases h))
        have hbA := below_next hbr hba
        have HzA := Lib.hid hba.size
        have HoG : Hid (w.heap.size + 2 ∉ (Value.slice A' j c').ownBlock.toList) := fun hm => by
          have := (own_blk HR.out.own (b := w.heap.size + 2) (by simpa using hm)).1
          omega
        have HoX : Hid (wr.heap.size ∉ (Value.slice A' j c').ownBlock.toList) := fun hm => by
          have := (own_blk HR.out.own (b := wr.heap.size) (by simpa using hm)).2
          omega
        have HO : Hid ((wr.alloc (.cells (expC k Ak nk ck).toArray 68)).ownsRow (w.heap.size + 3) 52 6 (.slice A' j c') j (L.flatMap (·.2))) := by
          have := HRA.out.own
          rw [Enc.exp_sz] at this
          exact this
        clear hk' hd hba hkk HR hg hg1
        go_wp2_with fail
        try simp only [Nat.add_assoc, Nat.reduceAdd]
        refine push_region (n := 27) mixed rfl rfl (by kernel_rfl) (by kernel_rfl) (by kernel_rfl) (w.heap.size + 2) wr.heap.size 5 (w.heap.size + 3) 52 6 80 j (.agg zeC.toArray) A' c' (L.flatMap (·.2)) (expC k Ak nk ck) (expC e A' j c').toArray
          (fun vcs W => (Enc.exp d).ok (sans W (List.range (wr.heap.size + 1))) W.heap.size vcs k) (fun S vcs W => (Enc.exp d).ok (sans W (List.range (wr.heap.size + 1) ++ S)) W.heap.size vcs k) _
          rfl rfl hgA hx2 rfl (fun w => by simp [go_sem]) Tryz.underlying50 (by kernel_rfl) Tryz.underlying68 rfl (by kernel_rfl) (by kernel_rfl) rfl (by decide) (by decide) HO.out HoG.out HoX.out (by simp [maxLen]; omega) (by omega) (by simp; omega) _ Tryz.func55 (by kernel_rfl) (by kernel_rfl) ?_ ?_ ?_ ?_ ?_ ?_
        · intro vcs W W' h hb
          exact (Enc.exp d).mono hb.size ((Out.of_below hb []).kept (fun _ h _ => by cases h) (fun _ h _ => h)) h
        · intro S vcs W W' h hb
          exact (Enc.exp d).mono hb.size ((Out.of_below hb []).kept (fun _ h _ => by cases h) (fun _ h _ => h)) h
        · intro S vcs W W' h hz ho hS
          refine (Enc.exp d).mono ho.size (ho.kept (T := List.range (wr.heap.size + 1)) (fun b hb _ => ?_) (fun b hb hl => ?_)) h
          · have := (own_blk HO.out (b := b) (by simpa using hb)).2
            simp at this
            exact List.mem_range.2 this
          · rcases List.mem_append.1 hb with hb | hb
            · exact hb
            · rcases hS b hb with h1 | h1
              · have := (own_blk HO.out (b := b) (by simpa using h1)).2
                simp at this
                exact List.mem_range.2 this
              · omega
        · intro vcs W W' h hz ho
          refine (Enc.exp d).mono ho.size (ho.kept (T := List.range (wr.heap.size + 1)) (fun b hb _ => ?_) (fun b hb hl => hb)) h
          have := (own_blk HO.out (b := b) (by simpa using hb)).2
          simp at this
          exact List.mem_range.2 this
        · intro W hb
          refine (HC.out W hb).mono ?_
          rintro r w' ⟨A2, c2, rfl, hs, hb2⟩
          refine ⟨expC k A2 k.kids.length c2, rfl, rfl, by simp [Value.oneCell'], ?_, hb2⟩
          have hd2 := hdd.out
          subst hd2
          refine ⟨A2, k.kids.length, c2, rfl, f0, f1, f2, SliceIs.mono' hs (Nat.le_refl _) ((Out.refl [] w').kept (fun _ h _ => by cases h) (fun b hb' _ => List.mem_range.2 ?_))⟩
          have h1 := List.mem_range.1 hb'
          have h2 := hb.size
          simp at h2
          omega
        · intro u W vcs A2 c2 hl hfar hown hblk ho hgW
          have hsA : (wr.alloc (.cells (expC k Ak nk ck).toArray 68)).heap.size = wr.heap.size + 1 := by simp
          have hR2 := HRA.out.push (by rw [hsA]; omega) (by rw [Enc.exp_sz]; exact hown) hblk ho (by rw [hsA]; exact hfar)
          have HR2 := Lib.hid (hR2.out (set_out W (w.heap.size + 2) 5 (.slice A2 (j + 1) c2)) (fun b hb _ => by simp at hb; omega))
          have HL2 : Hid ((L ++ [(k, vcs)]).map (·.1) = e.kids.take (j + 1)) := by show _ = _; rw [HT.out, List.map_append, HL.out]; rfl
          have hG2 : (W.setCell ⟨w.heap.size + 2, 5, none⟩ (.slice A2 (j + 1) c2)).heap[w.heap.size + 2]? = some (.cells (expC e A2 (j + 1) c2).toArray 52 (0, 0)) := by
            simp [World.setCell, Array.getElem?_modify, hgW]
          have hG1 : (W.setCell ⟨w.heap.size + 2, 5, none⟩ (.slice A2 (j + 1) c2)).heap[w.heap.size + 1]? = some (.cells zeC.toArray 52 (0, 0)) :=
            (World.heap_setCells_other' (by omega)).trans ((ho.block _ (Array.getElem?_eq_some_iff.1 hg1A).1 (fun hm => by
              have := (own_blk HO.out (b := w.heap.size + 1) (by simpa using hm)).1
              omega)).trans hg1A)
          have hzz : wr.heap.size + 1 ≤ W.heap.size := by rw [← hsA]; exact ho.size
          have hB2 : Below w.heap.size w (W.setCell ⟨w.heap.size + 2, 5, none⟩ (.slice A2 (j + 1) c2)) :=
            (hbA.trans (ho.below (B := w.heap.size) (fun b hb => by
              have := (own_blk HO.out (b := b) (by simpa using hb)).1
              omega) (by rw [hsA]; omega))).setCell (by show w.heap.size ≤ w.heap.size + 2; omega) _
          have hzs : (W.setCell ⟨w.heap.size + 2, 5, none⟩ (.slice A2 (j + 1) c2)).heap.size = W.heap.size := World.size_setCell'
          have HZ2 := Lib.hid hzs
          clear hR2 hgW hfar hown hblk ho hsA hgA hg1A hx2 hzs
          simp only [List.foldl_cons, List.foldl_nil, Act.put, List.setIfInBounds_toArray, List.set_cons_zero, List.set_cons_succ]
          generalize W.setCell ⟨w.heap.size + 2, 5, none⟩ (.slice A2 (j + 1) c2) = W2 at *
          go_wp2_with fail
          go_roundw
          case rel => exact ⟨j + 1, c2, A2, _, by omega, by go_num, HL2, HR2, hG2, hG1, hB2, by rw [HZ2.out]; omega⟩
          case measure => simp [intOf]; omega
      · have i1 : ¬ (j : Int) < (n : Int) := by omega
        have hjn : j = n := by omega
        subst hjn
        have hll := Hlen.out
        obtain ⟨c0, c1, c2, c3, c4, c5⟩ := facts6 hg
        have hS := setRow_at (cs' := (expC e A' j c').toArray) hg1
        obtain ⟨s0, s1, s2, s3, s4, s5⟩ := facts6 hS
        have hbS : Below w.heap.size w (wr.setRow (w.heap.size + 1) (expC e A' j c').toArray) := ⟨hbr.os, hbr.tape, hbr.output, by rw [setRow_size]; exact hbr.size, fun x hx => (setRow_ne (by omega)).trans (hbr.block x hx)⟩
        have hoS : Out [w.heap.size + 1] wr (wr.setRow (w.heap.size + 1) (expC e A' j c').toArray) := ⟨rfl, rfl, rfl, by rw [setRow_size]; exact Nat.le_refl _, fun x _ hx => setRow_ne (by simpa using hx)⟩
        have hR3 := HR.out.out hoS (fun b hb _ => by simp at hb; omega)
        have hR2 := hR3.is (base := w.heap.size) (by simpa [reachN] using hn) (by omega)
        rw [HL.out, List.take_of_length_le (by omega)] at hR2
        have hpost : P (.returned (expV e A' j c')) (wr.setRow (w.heap.size + 1) (expC e A' j c').toArray) := by
          rw [HP.out]
          exact ⟨A', c', by rw [hll], by rw [hll]; exact hR2, hbS⟩
        have HPo := Lib.hid hpost
        clear hR2 hR3 HR HL hll hpost hoS hbS hS HP
        go_wp2_with (refine wpList_store_rowTo rfl 52 (.tmp 2) (.tmp 26) rfl rfl (w.heap.size + 1) (expC e A' j c').toArray rfl rfl 52 zeC.toArray hg1 (by kernel_rfl) rfl (by simp [Value.oneCell']) ?_)
        refine bodyPost_ret (v := expV e A' j c') ?_ rfl HPo.out
        simp [results, Tryz.results55, go_sem, s0, s1, s2, s3, s4, s5]
end Go.Proofs.YtfklheagafffmaaGreatDoor
