/- Merged by my own program of: PushC, PaA, PaI. -/
import Derived.Test.YtplekbpmfaghbaaGreatDoorMa12
import Derived.Test.YtplekbpmfaghbaaGreatDoorMp2
/- A drawn region that reads one more struct by a call that writes a block of the caller's, and appends it to a slice in a field: 'out.f = append(out.f, r.read())'. Nothing of any program. -/
namespace Go.Proofs.YtplekbpmfaghbaaGreatDoor
open Go.RowKit

section
variable {P : Program}
/-- the region's text -/
abbrev pcOps (T sT f tb : Nat) (x2 : Op) (aT : TypeId) (fld d0 d1 d2 d3 d4 d5 d6 : Nat) (y0 y1 y2 y3 y4 y5 y6 y7 : TypeId) (p : String) : Array Oper := #[
  { dst := some d0, op := .fieldAddr T (.tmp tb) fld, type := y0, pos := p, after := #[], guard := none },
  { dst := some d1, op := .load sT (.tmp d0), type := y1, pos := p, after := #[⟨0, .data⟩], guard := none },
  { dst := some d2, op := x2, type := y2, pos := p, after := #[], guard := none },
  { dst := some d3, op := .call { callee := .value (.func f), args := #[.tmp d2], argTypes := #[aT] }, type := y3, pos := p, after := #[⟨2, .data⟩], guard := none },
  { dst := some d4, op := .buildSlice sT 1 #[(0, .tmp d3)], type := y4, pos := p, after := #[⟨3, .data⟩], guard := none },
  { dst := some d5, op := .call { callee := .builtin .append, args := #[.tmp d1, .tmp d4], argTypes := #[sT, sT] }, type := y5, pos := p, after := #[⟨1, .data⟩, ⟨4, .data⟩, ⟨3, .chain⟩], guard := none },
  { dst := some d6, op := .fieldAddr T (.tmp tb) fld, type := y6, pos := p, after := #[⟨0, .phase⟩, ⟨1, .phase⟩, ⟨2, .phase⟩, ⟨3, .phase⟩, ⟨4, .phase⟩, ⟨5, .phase⟩], guard := none },
  { dst := none, op := .store sT (.tmp d6) (.tmp d5), type := y7, pos := p, after := #[⟨6, .data⟩, ⟨5, .data⟩, ⟨5, .chain⟩, ⟨0, .phase⟩, ⟨1, .phase⟩, ⟨2, .phase⟩, ⟨3, .phase⟩, ⟨4, .phase⟩, ⟨5, .phase⟩], guard := none }]

/-- what an operation's value is -/
def pcF (base eT size k g q : Nat) (S : List Nat) (A : Option Addr) (c : Nat) (xs : List Value) (rv : Value) (Res : List Value → World → Prop) (Res2 : List Nat → List Value → World → Prop) (w0 : World) (i : Nat) (v : Value) (W : World) : Prop := match i with
  | 0 => v = .pointer (some ⟨g, q, none⟩)
  | 1 => v = .slice A k c
  | 2 => v = rv
  | 3 => ∃ vcs : List Value, v = .agg vcs.toArray ∧ vcs.length = size ∧ (∀ u ∈ vcs, u.oneCell' = true) ∧ Res vcs W ∧ w0.heap.size ≤ W.heap.size
  | 4 => ∃ (vcs : List Value) (b : Nat), v = .slice (some ⟨b, 0, none⟩) 1 1 ∧ vcs.length = size ∧ (∀ u ∈ vcs, u.oneCell' = true) ∧ Res vcs W ∧ W.heap[b]? = some (.cells vcs.toArray eT (0, 0)) ∧ w0.heap.size ≤ b
  | 5 => ∃ (vcs : List Value) (A' : Option Addr) (c' : Nat), v = .slice A' (k + 1) c' ∧ vcs.length = size ∧ Res2 (Value.slice A' (k + 1) c').ownBlock.toList vcs W ∧ W.ownsRow base eT size (.slice A' (k + 1) c') (k + 1) (xs ++ vcs) ∧ (∀ b, (Value.slice A' (k + 1) c').ownBlock = some b → b ∈ S ∨ w0.heap.size ≤ b) ∧ w0.heap.size < W.heap.size
  | 6 => v = .pointer (some ⟨g, q, none⟩)
  | _ => True
structure PcG (T g gr : Nat) (S : List Nat) (cs : Array Value) (w0 W : World) : Prop where
  g : W.heap[g]? = some (.cells cs T (0, 0))
  out : Out (gr :: S) w0 W
theorem PcG.keep {T g gr : Nat} {S : List Nat} {cs : Array Value} {w0 W W' : World} (h : PcG T g gr S cs w0 W) (hb : Below W.heap.size W W') : PcG T g gr S cs w0 W' :=
  ⟨(hb.block _ (Array.getElem?_eq_some_iff.1 h.g).1).trans h.g, h.out.trans (Out.of_below hb []) (fun _ h _ => by cases h)⟩

set_option maxRecDepth 20000 in
set_option maxHeartbeats 2000000 in
theorem pushC_region {id : Nat} {a : Act} {w : World} {Q : Exit → Act → World → Prop} {T sT f tb fld d0 d1 d2 d3 d4 d5 d6 : Nat} {x2 : Op} {aT y0 y1 y2 y3 y4 y5 y6 y7 : TypeId} {p : String} (n tx : Nat) (hm : P.follows .mixedOrders = true)
    (hn : a.tmps.size = n) (hd : a.defers = []) (hok : drawnOk (pcOps T sT f tb x2 aT fld d0 d1 d2 d3 d4 d5 d6 y0 y1 y2 y3 y4 y5 y6 y7 p) 7 n = true)
    (htb : ((pcOps T sT f tb x2 aT fld d0 d1 d2 d3 d4 d5 d6 y0 y1 y2 y3 y4 y5 y6 y7 p).toList.take 7).all (fun o => !decide (o.dst = some tb)) = true)
    (htx : ((pcOps T sT f tb x2 aT fld d0 d1 d2 d3 d4 d5 d6 y0 y1 y2 y3 y4 y5 y6 y7 p).toList.take 7).all (fun o => !decide (o.dst = some tx)) = true)
    (g gr q base eT size bytes k : Nat) (z : Value) (A : Option Addr) (c : Nat) (xs : List Value) (cs : Array Value) (rv vx : Value) (Res : List Value → World → Prop) (Res2 : List Nat → List Value → World → Prop)
    (hb : a.tmps[tb]? = some (.pointer (some ⟨g, 0, none⟩))) (hx : a.tmps[tx]? = some vx) (hg0 : w.heap[g]? = some (.cells cs T (0, 0))) (hgg : g ≠ gr)
    (h2 : ∀ (a' : Act) (W : World), a'.tmps[tx]? = some vx → Below w.heap.size w W → (execOp a'.eval { dst := some d2, op := x2, type := y2, pos := p, after := #[], guard := none }).run P W = .ok (.value rv) W)
    (hcq : cs[q]? = some (.slice A k c)) (hfld : ∀ w : World, (Instr.fieldAt T (.pointer (some ⟨g, 0, none⟩)) fld).run P w = .ok (.pointer (some ⟨g, q, none⟩)) w)
    (huS : P.underlying sT = some (.slice eT)) (hiS : (P.info? sT).map (·.size) = some 1)
    (hi : (P.info? eT).map (fun i => (i.zero, i.size, i.bytes)) = some (some z, size, bytes)) (hzs : z.cells.size = size) (hsz : 0 < size) (hs24 : size ≤ 2 ^ 24)
    (hown : w.ownsRow base eT size (.slice A k c) k xs) (hT : g ∉ (Value.slice A k c).ownBlock.toList) (hR : gr ∉ (Value.slice A k c).ownBlock.toList) (h63 : k + 1 ≤ maxLen) (hbytes : (k + 1) * bytes ≤ 140737488355328) (hbase : base ≤ w.heap.size)
    (fn : Func) (hfn : P.funcs[f]? = some fn) (hbd : fn.body.isSome = true) (hng : (fn.name == "runtime.NumGoroutine") = false)
    (hRes : ∀ vcs W W', Res vcs W → Below W.heap.size W W' → Res vcs W') (hResB : ∀ S vcs W W', Res2 S vcs W → Below W.heap.size W W' → Res2 S vcs W')
    (hRes3 : ∀ S vcs W W', Res vcs W → w.heap.size ≤ W.heap.size → Out (Value.slice A k c).ownBlock.toList W W' → (∀ b ∈ S, b ∈ (Value.slice A k c).ownBlock.toList ∨ W.heap.size ≤ b) → Res2 S vcs W')
    (hRes2 : ∀ vcs W W', Res vcs W → w.heap.size ≤ W.heap.size → Out (Value.slice A k c).ownBlock.toList W W' → Res vcs W')
    (hcall : ∀ W, Below w.heap.size w W → W.heap.size = w.heap.size → Calls P f #[rv] W (fun r w' => ∃ vcs : List Value, r = .returned (.agg vcs.toArray) ∧ vcs.length = size ∧ (∀ u ∈ vcs, u.oneCell' = true) ∧ Res vcs w' ∧ Out [gr] W w'))
    (hQ : ∀ (u : Nat → Value) (W : World) (vcs : List Value) (A' : Option Addr) (c' : Nat),
      vcs.length = size → Res2 (Value.slice A' (k + 1) c').ownBlock.toList vcs W → W.ownsRow base eT size (.slice A' (k + 1) c') (k + 1) (xs ++ vcs) → (∀ b, (Value.slice A' (k + 1) c').ownBlock = some b → b ∈ (Value.slice A k c).ownBlock.toList ∨ w.heap.size ≤ b) → Out (gr :: (Value.slice A k c).ownBlock.toList) w W →
      W.heap[g]? = some (.cells cs T (0, 0)) → Q .normal ([d0, d1, d2, d3, d4, d5, d6].foldl (fun x d => x.put (some d) (u d)) a) (W.setCell ⟨g, q, none⟩ (.slice A' (k + 1) c'))) :
    (Code.region id (pcOps T sT f tb x2 aT fld d0 d1 d2 d3 d4 d5 d6 y0 y1 y2 y3 y4 y5 y6 y7 p) true).wp P Q a w := by
  have hw0 : Below w.heap.size w w.drew := below_drewN w 1 _
  have hown0 : w.drew.ownsRow base eT size (.slice A k c) k xs := own_below hown hw0
  have hG0 : PcG T g gr (Value.slice A k c).ownBlock.toList cs w w.drew := ⟨hg0, Out.of_below hw0 _⟩
  have hblk : ∀ b, w.heap.size ≤ b → b ∉ (Value.slice A k c).ownBlock.toList := fun b hb hmem => by
    have := (own_blk hown (b := b) (by simpa using hmem)).2
    omega
  refine drawn hm 7 n (fun j W => PcG T g gr (Value.slice A k c).ownBlock.toList cs w W ∧ (j = 5 → W.ownsRow base eT size (.slice A k c) k xs) ∧ (j = 2 ∨ j = 3 → Below w.heap.size w W ∧ W.heap.size = w.heap.size)) (pcF base eT size k g q (Value.slice A k c).ownBlock.toList A c xs rv Res Res2 w)
    (fun j W W' => if j = 5 then Out (Value.slice A k c).ownBlock.toList W W' else if j = 4 then Below W.heap.size W W' else if j = 3 then Out [gr] W W' ∧ W.heap.size = w.heap.size else W' = W) hn hok hd (fun j _ => ⟨hG0, fun _ => hown0, fun _ => ⟨hw0, rfl⟩⟩) ?_ ?_ ?_ ?_
  · intro i j v W W' hij hil hj hF hRr
    by_cases h5 : j = 5
    · subst h5
      simp only [if_true] at hRr
      match i, hF with
      | 0, h => exact h
      | 1, h => exact h
      | 2, h => exact h
      | 3, ⟨vcs, h1, h2, h3, h4, h5⟩ => exact ⟨vcs, h1, h2, h3, hRes2 _ _ _ h4 h5 hRr, Nat.le_trans h5 hRr.size⟩
      | 4, ⟨vcs, b, h1, h2, h3, h4, h5, h6⟩ =>
        have hbl := (Array.getElem?_eq_some_iff.1 h5).1
        exact ⟨vcs, b, h1, h2, h3, hRes2 _ _ _ h4 (by omega) hRr, (hRr.block _ hbl (hblk b h6)).trans h5, h6⟩
      | 5, _ => exact absurd rfl hij
      | 6, h => exact h
      | _ + 7, _ => exact trivial
    rw [if_neg h5] at hRr
    by_cases h4 : j = 4
    · subst h4
      simp only [if_true] at hRr
      match i, hF with
      | 0, h => exact h
      | 1, h => exact h
      | 2, h => exact h
      | 3, ⟨vcs, h1, h2, h3, h4, h5⟩ => exact ⟨vcs, h1, h2, h3, hRes _ _ _ h4 hRr, Nat.le_trans h5 hRr.size⟩
      | 4, _ => exact absurd rfl hij
      | 5, ⟨vcs, A', c', h1, h2, h3, h4, h5, h6⟩ => exact ⟨vcs, A', c', h1, h2, hResB _ _ _ _ h3 hRr, own_below h4 hRr, h5, Nat.lt_of_lt_of_le h6 hRr.size⟩
      | 6, h => exact h
      | _ + 7, _ => exact trivial
    rw [if_neg h4] at hRr
    by_cases h3 : j = 3
    · subst h3
      simp only [if_true] at hRr
      obtain ⟨-, hsz0⟩ := hRr
      match i, hF with
      | 0, h => exact h
      | 1, h => exact h
      | 2, h => exact h
      | 3, _ => exact absurd rfl hij
      | 4, ⟨vcs, b, h1, h2, h3, h4, h5, h6⟩ =>
        have hbl := (Array.getElem?_eq_some_iff.1 h5).1
        omega
      | 5, ⟨vcs, A', c', h1, h2, h3, h4, h5, h6⟩ => omega
      | 6, h => exact h
      | _ + 7, _ => exact trivial
    rw [if_neg h3] at hRr
    subst hRr
    exact hF
  · intro i j W W' hij hil hj hanc hG hRr
    by_cases h5 : i = 5
    · subst h5
      simp only [if_true] at hRr
      refine ⟨⟨(hRr.block _ (Array.getElem?_eq_some_iff.1 hG.1.g).1 hT).trans hG.1.g, hG.1.out.trans hRr (fun _ h _ => List.mem_cons_of_mem _ h)⟩, fun e => absurd e (Ne.symm hij), fun e => absurd (by rcases e with rfl | rfl <;> simp [ancs, Region.binds]) hanc⟩
    rw [if_neg h5] at hRr
    by_cases h4 : i = 4
    · subst h4
      simp only [if_true] at hRr
      exact ⟨hG.1.keep hRr, fun e => own_below (hG.2.1 e) hRr, fun e => absurd (by rcases e with rfl | rfl <;> simp [ancs, Region.binds]) hanc⟩
    rw [if_neg h4] at hRr
    by_cases h3 : i = 3
    · subst h3
      simp only [if_true] at hRr
      obtain ⟨ho, hs0⟩ := hRr
      have hlast : j = 2 ∨ j = 3 → Below w.heap.size w W' ∧ W'.heap.size = w.heap.size := fun e => by
        rcases e with rfl | rfl
        · exact absurd (by simp [ancs, Region.binds]) hanc
        · exact absurd rfl hij
      refine ⟨⟨(ho.block _ (Array.getElem?_eq_some_iff.1 hG.1.g).1 (by simpa using hgg)).trans hG.1.g, hG.1.out.trans ho (fun b h _ => by simp at h; simp [h])⟩, fun e => own_out' (hG.2.1 e) ho (fun b hb hb' => hR (by simp at hb'; rw [← hb']; simpa using hb)), fun e => hlast e⟩
    rw [if_neg h3] at hRr
    subst hRr
    exact hG
  · intro i o a' W hil ho hd' hold hGi hGL hw
    have hr1 := (hold tb htb).trans hb
    have hr2 := (hold tx htx).trans hx
    match i, hil, ho with
    | 0, _, ho =>
      injection ho with ho; subst ho
      exact op_val _ (by simp [execOp, Act.eval, hr1, hfld]) ⟨_, rfl, by simp, rfl⟩
    | 1, _, ho =>
      injection ho with ho; subst ho
      obtain ⟨v0, h0, e0⟩ := hw 0 d0 rfl
      obtain rfl : v0 = _ := e0
      exact op_val _ (by simp [execOp, Act.eval, h0, run_load1 huS ((cell_of_row _ _ _ _ _ _ hGi.1.g).trans hcq)]) ⟨_, rfl, by simp, rfl⟩
    | 2, _, ho =>
      injection ho with ho; subst ho
      exact op_val _ (h2 a' W hr2 (hGi.2.2 (.inl rfl)).1) ⟨_, rfl, by simp, rfl⟩
    | 3, _, ho =>
      injection ho with ho; subst ho
      obtain ⟨v0, h0, e0⟩ := hw 2 d2 rfl
      obtain rfl : v0 = _ := e0
      obtain ⟨hbw, hzw⟩ := hGi.2.2 (.inr rfl)
      refine op_call f _ rfl rfl #[v0] (by simp [Act.eval, h0]) fn hfn hbd hng ((hcall W hbw hzw).mono ?_)
      rintro r w' ⟨vcs, rfl, e1, e2, e3, e4⟩
      exact ⟨_, rfl, _, rfl, by simp [e4, hzw], vcs, rfl, e1, e2, e3, Nat.le_trans hGi.1.out.size e4.size⟩
    | 4, _, ho =>
      injection ho with ho; subst ho
      obtain ⟨v0, h0, vcs, e0, e1, e2, e3, -⟩ := hw 3 d3 rfl
      obtain rfl : v0 = _ := e0
      refine op_bslice sT eT 1 _ rfl size [.agg vcs.toArray] huS (by obtain ⟨i, hi1, hi2⟩ := Option.map_eq_some_iff.1 hi; rw [hi1]; simp at hi2 ⊢; simp [hi2]) hsz rfl (by decide) (by omega) (by simp [Act.eval, h0]) (by simp [Value.cells, e1]) ?_
      simp only [List.flatMap_cons, List.flatMap_nil, List.append_nil, Value.cells]
      exact ⟨_, rfl, by simpa using belowA (Below.refl W.heap.size W) (.cells vcs.toArray eT), vcs, _, rfl, e1, e2, hRes _ _ _ e3 (belowA (Below.refl _ _) _), heapNew rfl, hGi.1.out.size⟩
    | 5, _, ho =>
      injection ho with ho; subst ho
      obtain ⟨v0, h0, e0⟩ := hw 1 d1 rfl
      obtain rfl : v0 = _ := e0
      obtain ⟨v1, h1, vcs, b, e1, e2, e3, e4, e5, e6⟩ := hw 4 d4 rfl
      obtain rfl : v1 = _ := e1
      obtain ⟨A', c', w', k1, k2, k3, k4⟩ := push_more (P := P) (ty := y5) W huS hi hzs hsz (hGi.2.1 rfl) b vcs e2 e5 e3 h63 hbytes (Nat.le_trans hbase hGi.1.out.size)
      have hbl := (Array.getElem?_eq_some_iff.1 e5).1
      refine op_append _ _ _ rfl _ _ (eval_tmp h0) (eval_tmp h1) k1 ⟨_, rfl, ?_, vcs, A', c', rfl, e2, hRes3 _ _ _ _ e4 hGi.1.out.size k3 (fun b hb => (k4 b (by simpa using hb)).imp (fun h => by simp [h]) (fun h => h)), k2, fun b hb => ?_, Nat.lt_of_lt_of_le (by omega) k3.size⟩
      · simp only [if_true]
        exact k3
      · rcases k4 b hb with h | h
        · exact .inl (by simp [h])
        · exact .inr (Nat.le_trans hGi.1.out.size h)
    | 6, _, ho =>
      injection ho with ho; subst ho
      exact op_val _ (by simp [execOp, Act.eval, hr1, hfld]) ⟨_, rfl, by simp, rfl⟩
    | n + 7, hil, _ => omega
  · intro o a' W ho hd' hs hold hGL hw
    obtain ⟨v0, h0, e0⟩ := hw 6 d6 (by decide) rfl
    obtain ⟨v1, h1, vcs, A', c', e1, e2, e3, e4, e5, -⟩ := hw 5 d5 (by decide) rfl
    obtain rfl : v0 = _ := e0
    obtain rfl : v1 = _ := e1
    injection ho with ho; subst ho
    have hqs : q < cs.size := (Array.getElem?_eq_some_iff.1 hcq).1
    have hrun : (execOp a'.eval { dst := none, op := .store sT (.tmp d6) (.tmp d5), type := y7, pos := p, after := #[⟨6, .data⟩, ⟨5, .data⟩, ⟨5, .chain⟩, ⟨0, .phase⟩, ⟨1, .phase⟩, ⟨2, .phase⟩, ⟨3, .phase⟩, ⟨4, .phase⟩, ⟨5, .phase⟩], guard := none }).run P W = .ok .skip (W.setCell ⟨g, q, none⟩ (.slice A' (k + 1) c')) := by
      simp [execOp, Act.eval, h0, h1, run_store1 (A := A') (n := k + 1) (c := c') hiS hGL.1.g hqs]
    obtain ⟨u, hu, -⟩ := frame_of (a := a) (a' := a') [d0, d1, d2, d3, d4, d5, d6] (by rw [hs, hn]) (by rw [hd', hd]) (fun t ht => hold t (by simp at ht; simp [Ne.symm ht.1, Ne.symm ht.2.1, Ne.symm ht.2.2.1, Ne.symm ht.2.2.2.1, Ne.symm ht.2.2.2.2.1, Ne.symm ht.2.2.2.2.2.1, Ne.symm ht.2.2.2.2.2.2]))
    refine op_skip hrun ?_
    have hq := hQ u W vcs A' c' e2 e3 e4 e5 hGL.1.out hGL.1.g
    rw [← hu] at hq
    exact hq
end
end Go.Proofs.YtplekbpmfaghbaaGreatDoor

/- atom: an atom that is read. -/
namespace Go.Proofs.YtplekbpmfaghbaaGreatDoor
open Go.RowKit

theorem run_loadP {P : Program} {w : World} {ty e : TypeId} {a : Addr} {v : Value} (hu : P.underlying ty = some (.pointer e)) (h : w.cell? a = some v) : (Instr.loadAt ty (.pointer (some a))).run P w = .ok v w := by
  have hagg : (isAgg ty).run P w = .ok false w := by
    unfold isAgg
    rw [Sem.run_bind, run_underlying hu w]
    rfl
  simp [Instr.loadAt, Instr.sureAddr, loadVar, hagg, go_sem, h]
section
variable {B g : Nat} {A : Option Addr} {c : Nat} {T : List GTok} {E : Nat} {s : PS} {w : World}
def toldOk (t : GTold) : Prop := t.x.size ≤ reachN ∧ t.v.ok
theorem toldOk_z : toldOk zT := ⟨Nat.zero_le _, GV.ok_zero⟩
theorem bytes_sz (l : List UInt8) : (bytes l).size = l.length := rfl
theorem peek_len (h : Rd B g A c T E s w) (s' : PS) (k : Nat) : (peekP T E s' k).t.length ≤ reachN := by
  unfold peekP
  cases hq : T[s'.next + k]? with
  | none => exact Nat.zero_le _
  | some q => exact tok_len h (List.mem_of_getElem? hq)
theorem takeT_len (h : Rd B g A c T E s w) (s' : PS) (k : Int) : (takeT T E s' k).length ≤ reachN := by
  unfold takeT
  split
  · exact peek_len h s' 0
  · exact Nat.zero_le _
theorem term_ok (h : Rd B g A c T E s w) (s' : PS) : toldOk (termP T E s').2 := by
  have hp := peek_len h (mayP T E s' [45]) 0
  have f0 : fits 0 := by unfold fits; decide
  have f1 : fits 1 := by unfold fits; decide
  have f2 : fits 2 := by unfold fits; decide
  unfold termP
  dsimp only
  by_cases k4 : (peekP T E (mayP T E s' [45]) 0).k = 4
  · rw [if_pos k4]
    have hm : peekP T E (mayP T E s' [45]) 0 ∈ T := List.mem_of_getElem? (peek_at (peek_some (by rw [k4]; decide)))
    have ht := h.texts _ hm
    rw [k4] at ht
    obtain ⟨n, h1, -, h3⟩ := num_tok ht
    refine ⟨Nat.zero_le _, f1, ?_, Nat.zero_le _⟩
    dsimp only
    rw [h3]
    split <;> exact (fits_iff _).2 ⟨by omega, by omega⟩
  · rw [if_neg k4]
    by_cases hm : isP T E s' [45] = true
    · rw [if_pos hm]; exact toldOk_z
    · rw [if_neg hm]
      by_cases k3 : (peekP T E (mayP T E s' [45]) 0).k = 3
      · rw [if_pos k3]; exact ⟨hp, GV.ok_zero⟩
      · rw [if_neg k3]
        by_cases k2 : (peekP T E (mayP T E s' [45]) 0).k = 2
        · rw [if_pos k2]; exact ⟨Nat.zero_le _, f2, f0, hp⟩
        · rw [if_neg k2]; exact toldOk_z

/-- an atom's arguments under way: the atom in block ab, the reader's own box rb -/
structure AtJ (B g : Nat) (A : Option Addr) (c : Nat) (T : List GTok) (E : Nat) (w : World) (ab rb rr N0 : Nat) (rel : ByteArray) (i : Nat) (x : PS × List GTold) (W : World) : Prop where
  rd : Rd B g A c T E x.1 W
  out : Out [g] w W
  len : x.2.length = i
  at_ : ∃ A' c', W.heap[ab]? = some (.cells #[.string rel, .slice A' i c'] 24 (0, 0)) ∧ W.ownsRow N0 33 4 (.slice A' i c') i (x.2.flatMap GTold.cells)
  rb : W.heap[rb]? = some (.cells #[.pointer (some ⟨g, 0, none⟩)] 174 (0, 0))
  rr : W.heap[rr]? = some (.cells #[.string ⟨#[]⟩, .slice none 0 0] 24 (0, 0))
  n0 : N0 ≤ W.heap.size
  ok : ∀ t ∈ x.2, toldOk t
theorem AtJ.jok {ab rb rr N0 : Nat} {rel : ByteArray} (ha : g ≠ ab) (hb : g ≠ rb) (hr : g ≠ rr) (hN : g < N0) : JOk B g A c T E (AtJ B g A c T E w ab rb rr N0 rel) where
  rd i x W h := h.rd
  go i x s' W W' h hr' ho := by
    obtain ⟨A', c', h1, h2⟩ := h.at_
    refine ⟨hr', out_next h.out ho, h.len, ⟨A', c', (ho.block _ (Array.getElem?_eq_some_iff.1 h1).1 (by simp; omega)).trans h1, own_out' h2 ho (fun b hb' hm => by have := (own_blk h2 hb').1; simp at hm; omega)⟩, (ho.block _ (Array.getElem?_eq_some_iff.1 h.rb).1 (by simp; omega)).trans h.rb, (ho.block _ (Array.getElem?_eq_some_iff.1 h.rr).1 (by simp; omega)).trans h.rr, Nat.le_trans h.n0 ho.size, h.ok⟩
theorem term_info : (Tryz.prog.info? 33).map (fun i => (i.zero, i.size, i.bytes)) = some (some (.agg #[.string ⟨#[]⟩, .int .i64 0, .int .i64 0, .string ⟨#[]⟩]), 4, 48) := by kernel_rfl
set_option maxRecDepth 100000 in
set_option maxHeartbeats 4000000 in
theorem atom1_any {ab rb rr N0 : Nat} {rel : ByteArray} (hB : B ≤ w.heap.size) (hg : g < w.heap.size) (ha : w.heap.size ≤ ab ∧ ab < N0) (hb : w.heap.size ≤ rb ∧ rb < N0) (hr : w.heap.size ≤ rr ∧ rr < N0) (hab : ab ≠ rb ∧ ab ≠ rr) (i : Nat) (x : PS × List GTold) (W : World) (hi : i < 6) (h : AtJ B g A c T E w ab rb rr N0 rel i x W) :
    Calls Tryz.prog 195 #[.int .i64 i, .pointer (some ⟨ab, 0, none⟩), .pointer (some ⟨rb, 0, none⟩)] W (fun e W' => e = .returned (.tuple #[]) ∧ AtJ B g A c T E w ab rb rr N0 rel (i + 1) (argsR T E i x) W') := by
  have mixed : Tryz.prog.follows .mixedOrders = true := by kernel_rfl
  obtain ⟨A', c', h1, h2⟩ := h.at_
  have hnm : ∀ b, b < N0 → b ∉ (Value.slice A' i c').ownBlock.toList := fun b hb hm => by
    have := (own_blk h2 (b := b) (by simpa using hm)).1
    omega
  have hSn : ∀ b ∈ (Value.slice A' i c').ownBlock.toList, N0 ≤ b := fun b hb => (own_blk h2 (b := b) (by simpa using hb)).1
  go_enter Tryz.func195, Tryz.ntmps195
  go_wp2_with fail
  refine pushC_region (n := 11) 2 mixed rfl rfl (by kernel_rfl) (by kernel_rfl) (by kernel_rfl) ab g 1 N0 33 4 48 i (.agg #[.string ⟨#[]⟩, .int .i64 0, .int .i64 0, .string ⟨#[]⟩]) A' c' (x.2.flatMap GTold.cells) #[.string rel, .slice A' i c'] (.pointer (some ⟨g, 0, none⟩)) (.pointer (some ⟨rb, 0, none⟩))
    (fun vcs W' => vcs = (termP T E x.1).2.cells ∧ Rd B g A c T E (termP T E x.1).1 W') (fun _ vcs W' => vcs = (termP T E x.1).2.cells ∧ Rd B g A c T E (termP T E x.1).1 W')
    rfl rfl h1 (by omega) ?_ rfl (fun w => by simp [go_sem]) Tryz.underlying22 (by kernel_rfl) term_info rfl (by decide) (by decide) h2 (hnm _ ha.2) (hnm _ (by omega)) (by simp [maxLen]; omega) (by omega) h.n0 _ Tryz.func182 (by kernel_rfl) (by kernel_rfl) ?_ ?_ ?_ ?_ ?_ ?_
  · intro a' V hx hbV
    have hc := below_cell hbV ((cell_of_row _ _ 0 _ _ _ h.rb).trans rfl)
    simp [execOp, Act.eval, hx, run_loadP Tryz.underlying174 hc]
  · exact fun vcs V V' hv hbV => ⟨hv.1, hv.2.on hbV⟩
  · exact fun S vcs V V' hv hbV => ⟨hv.1, hv.2.on hbV⟩
  · exact fun S vcs V V' hv _ ho _ => ⟨hv.1, hv.2.out ho (fun b hb' _ => by have := hSn b hb'; omega)⟩
  · exact fun vcs V V' hv _ ho => ⟨hv.1, hv.2.out ho (fun b hb' _ => by have := hSn b hb'; omega)⟩
  · intro V hbV _
    refine (rterm_any (h.rd.on hbV)).mono ?_
    rintro e V' ⟨rfl, hrd, ho⟩
    exact ⟨(termP T E x.1).2.cells, rfl, rfl, by simp [GTold.cells, Value.oneCell'], ⟨rfl, hrd⟩, ho⟩
  · rintro u V vcs A2 c2 hl ⟨rfl, hrd⟩ hown hblk ho hrow
    simp only [List.foldl_cons, List.foldl_nil, Act.put, List.setIfInBounds_toArray, List.set_cons_zero, List.set_cons_succ]
    go_end0
    refine ⟨rfl, ?_⟩
    have hoS := set_out V ab 1 (.slice A2 (i + 1) c2)
    have hnot : ∀ b, b < N0 → b ≠ g → b < W.heap.size → V.heap[b]? = W.heap[b]? := fun b hb hbg hbl => ho.block b hbl (by simp only [List.mem_cons, not_or]; exact ⟨hbg, hnm b hb⟩)
    refine ⟨hrd.out hoS (fun b hb _ => by simp at hb; omega), ?_, by simp [argsR, h.len], ⟨A2, c2, set_one hrow, ?_⟩, ?_, ?_, ?_, ?_⟩
    · have h3 : Out [g] w V := h.out.trans ho (fun b hb hbl => by
        rcases List.mem_cons.1 hb with rfl | hb
        · simp
        · have := hSn b hb; omega)
      exact h3.trans hoS (fun b hb hbl => by simp at hb; omega)
    · have h4 : (argsR T E i x).2.flatMap GTold.cells = x.2.flatMap GTold.cells ++ (termP T E x.1).2.cells := by simp [argsR]
      rw [h4]
      exact own_out' hown hoS (fun b hb hm => by have := (own_blk hown hb).1; simp at hm; omega)
    · have hl := (Array.getElem?_eq_some_iff.1 h.rb).1
      exact (World.heap_setCells_other' (by omega)).trans ((hnot _ hb.2 (by omega) hl).trans h.rb)
    · have hl := (Array.getElem?_eq_some_iff.1 h.rr).1
      exact (World.heap_setCells_other' (by omega)).trans ((hnot _ hr.2 (by omega) hl).trans h.rr)
    · rw [World.size_setCell']; exact Nat.le_trans h.n0 ho.size
    · intro t ht
      rcases List.mem_append.1 ht with ht | ht
      · exact h.ok t ht
      · simp only [List.mem_singleton] at ht
        rw [ht]; exact term_ok h.rd x.1

theorem own_farT {w : World} {base e : Nat} {A : Option Addr} {n c : Nat} {l : List GTold} (h : w.ownsRow base e 4 (.slice A n c) n (l.flatMap GTold.cells)) (hl : l.length = n) (hn : n ≤ 1000000) (hok : ∀ t ∈ l, toldOk t) : SliceFar Enc.told w (List.range base) A n c l := by
  have h2 := own_sans (S := List.range base) h (fun b hb' => by have := List.mem_range.1 hb'; omega)
  have h3 := SliceIs.of_flat (E := Enc.told) GTold.cells (fun _ => rfl) h2 hl (by simp [reachN]; omega) (fun q hq => ⟨rfl, hok q hq⟩)
  rw [sans_size] at h3
  exact h3
/-- an atom that is read: its arguments lie in memory that is new -/
def AtomPost (B g : Nat) (A : Option Addr) (c : Nat) (T : List GTok) (E : Nat) (y : PS × GAtom) (w : World) (e : Ending) (w' : World) : Prop :=
  ∃ A' n' c', e = .returned (.agg #[.string y.2.rel, .slice A' n' c']) ∧ Rd B g A c T E y.1 w' ∧ Out [g] w w' ∧ y.2.rel.size ≤ reachN ∧ SliceFar Enc.told w' (List.range w.heap.size) A' n' c' y.2.args
theorem set2_out (W : World) (b : Nat) (v0 v1 : Value) : Out [b] W ((W.setCell ⟨b, 0, none⟩ v0).setCell ⟨b, 1, none⟩ v1) := out_next (set_out _ _ _ _) (set_out _ _ _ _)
set_option maxRecDepth 100000 in
set_option maxHeartbeats 4000000 in
theorem ratom_any (h : Rd B g A c T E s w) : Calls Tryz.prog 183 #[.pointer (some ⟨g, 0, none⟩)] w (AtomPost B g A c T E (atomP T E s) w) := by
  have HP : Hid (∀ (i : Nat) A' c' W, i ≤ 6 → (atomP T E s).2.args.length = i → Rd B g A c T E (atomP T E s).1 W → Out [g] w W → SliceFar Enc.told W (List.range w.heap.size) A' i c' (atomP T E s).2.args → AtomPost B g A c T E (atomP T E s) w (.returned (.agg #[.string (bytes (takeT T E s 2)), .slice A' i c'])) W) :=
    fun i A' c' W hi hl hr ho hs => ⟨A', i, c', rfl, hr, ho, takeT_len h s 2, hs⟩
  generalize AtomPost B g A c T E (atomP T E s) w = P at *
  have hB := h.size
  have hgl := h.glt
  have hF0 := ((Fr.start h).alloc (.cells #[.pointer (some ⟨g, 0, none⟩)] 174)).alloc (.cells #[.string ⟨#[]⟩, .slice none 0 0] 24)
  rw [World.size_alloc] at hF0
  have HF0 := Lib.hid hF0
  have HTk := Lib.hid (fun (W : World) (hR : Rd B g A c T E s W) => show Calls Tryz.prog 164 #[.pointer (some ⟨g, 0, none⟩), .int .i64 2] W (RdPost B g A c T E (takeP T E s 2) (.string (bytes (takeT T E s 2))) W) from rtake_any hR 2 (by decide))
  obtain ⟨rel, Hrel⟩ : ∃ rel, Hid (rel = bytes (takeT T E s 2)) := ⟨_, rfl⟩
  rw [← Hrel.out] at HP HTk
  have k0 := (cell_of_row _ _ 0 _ _ _ (HF0.out.row (p := (w.heap.size, Obj.cells #[.pointer (some ⟨g, 0, none⟩)] 174 (0, 0))) (by simp))).trans rfl
  clear h hF0 Hrel
  go_enter Tryz.func183, Tryz.ntmps183
  go_wp2_with fail
  refine (HTk.out _ HF0.out.rd).mono ?_
  rintro e w1 ⟨rfl, hr1, ho1⟩
  have hG1 := HF0.out.go hr1 ho1
  have hz0 := (Array.getElem?_eq_some_iff.1 (hG1.row (p := (w.heap.size, Obj.cells #[.pointer (some ⟨g, 0, none⟩)] 174 (0, 0))) (by simp))).1
  have hz1 := (Array.getElem?_eq_some_iff.1 (hG1.row (p := (w.heap.size + 1, Obj.cells #[.string ⟨#[]⟩, .slice none 0 0] 24 (0, 0))) (by simp))).1
  dsimp only at hz0 hz1
  have HF1 := Lib.hid (hG1.alloc (.cells #[.string rel, .slice none 0 0] 24))
  clear hr1 ho1 hG1 HF0 HTk k0
  have k1 := (cell_of_row _ _ 0 _ _ _ (HF1.out.row (p := (w.heap.size, Obj.cells #[.pointer (some ⟨g, 0, none⟩)] 174 (0, 0))) (by simp))).trans rfl
  go_wp2_with fail
  have hJ0 : AtJ B g A c T E w w1.heap.size w.heap.size (w.heap.size + 1) (w1.heap.size + 1) rel 0 (takeP T E s 2, []) (w1.alloc (.cells #[.string rel, .slice none 0 0] 24)) :=
    ⟨HF1.out.rd, HF1.out.out, rfl, ⟨none, 0, HF1.out.row (p := (w1.heap.size, Obj.cells #[.string rel, .slice none 0 0] 24 (0, 0))) (by simp), World.ownsRow_nil _ _ _ _⟩,
      HF1.out.row (p := (w.heap.size, Obj.cells #[.pointer (some ⟨g, 0, none⟩)] 174 (0, 0))) (by simp), HF1.out.row (p := (w.heap.size + 1, Obj.cells #[.string ⟨#[]⟩, .slice none 0 0] 24 (0, 0))) (by simp), by simp, fun _ h => by cases h⟩
  refine (rcommas_any (AtJ.jok (by omega) (by omega) (by omega) (by omega)) 195 #[.pointer (some ⟨w1.heap.size, 0, none⟩), .pointer (some ⟨w.heap.size, 0, none⟩)] (enters_of Tryz.func195 (by kernel_rfl) rfl) 6 (by omega) (argsR T E)
    (fun i x W hi he hj => atom1_any hB hgl ⟨by omega, by omega⟩ ⟨by omega, by omega⟩ ⟨by omega, by omega⟩ ⟨by omega, by omega⟩ i x W hi hj) (takeP T E s 2, []) _ hJ0).mono ?_
  rintro e w2 ⟨rfl, i, hi, hj⟩
  obtain ⟨hrd, hout, hlen, ⟨A', c', hat, hown⟩, hrb, hrr, hn0, hok⟩ := hj
  have hlen2 : (atomP T E s).2.args.length = i := hlen
  have HRD := Lib.hid hrd
  have HOU := Lib.hid hout
  have HOk := Lib.hid hok
  have HLn := Lib.hid hlen2
  obtain ⟨a0, a1⟩ := facts2 hat
  obtain ⟨r0, r1⟩ := facts2 hrr
  have r2 := froz4 hrr
  have HO2 := Lib.hid hown
  clear hrd hout hlen hat hown hrb hrr hok hlen2 hJ0 k1 HF1
  go_wp2_with fail
  have ho3 := set2_out w2 (w.heap.size + 1) (.string rel) (.slice A' i c')
  refine bodyPost_ret (v := .agg #[.string rel, .slice A' i c']) (by simp [results, Tryz.results183, go_sem, r0, r1]) rfl (HP.out i A' c' _ hi HLn.out (HRD.out.out ho3 (fun b hb _ => by simp at hb; omega)) (HOU.out.trans ho3 (fun b hb hl => by simp at hb; omega)) ?_)
  have hown3 := own_out' HO2.out ho3 (fun b hb hm => by have := (own_blk HO2.out hb).1; simp at hm; omega)
  have h9 := own_farT hown3 HLn.out (by omega) HOk.out
  exact SliceIs.mono' h9 (Nat.le_refl _) ((Out.refl [] _).kept (fun _ h _ => by cases h) (fun b hb' _ => List.mem_range.2 (by have := List.mem_range.1 hb'; omega)))
end
end Go.Proofs.YtplekbpmfaghbaaGreatDoor

/- slices.Index at strings: where a text stands; the parser's tables. -/
namespace Go.Proofs.YtplekbpmfaghbaaGreatDoor
open Go.RowKit

def IdxAt (l : List ByteArray) (s : ByteArray) (w : World) (e : Ending) (w' : World) : Prop := ∃ k : Int, e = .returned (.int .i64 k) ∧ ((k = -1 ∧ s ∉ l) ∨ ∃ j : Nat, k = (j : Int) ∧ l[j]? = some s) ∧ Below w.heap.size w w'
set_option maxRecDepth 100000 in
set_option maxHeartbeats 400000 in
theorem indexAt_any (A : Option Addr) (n c : Nat) (l : List ByteArray) (s : ByteArray) (w : World) (hl : SliceIs Enc.str w w.heap.size A n c l) :
    Calls Tryz.prog 181 #[.slice A n c, .string s] w (IdxAt l s w) := by
  have hn := hl.bound
  have hlen := Lib.hid hl.1
  go_enter Tryz.func181, Tryz.ntmps181
  go_wp2
  go_loop [5, 8] (fun _ i => ∃ k : Nat, k ≤ n ∧ i = .int .i64 k ∧ Hid (s ∉ l.take k)) (fun _ i => n - (intOf i).toNat)
  case atStart => exact ⟨0, by omega, rfl, by simp [Hid]⟩
  case round =>
    obtain ⟨k, hk, rfl, hpre⟩ := hrel
    by_cases hlt : k < n
    · obtain ⟨b, o, x, rfl, _, hx, hc, hs⟩ := hl.str_at hlt
      have i0 : (0 : Int) ≤ (k : Int) := by omega
      have i1 : (k : Int) < (n : Int) := by omega
      have hb := World.block_lt_of_cell? w _ hc
      clear hl
      by_cases h1 : x = s
      · have h1' : (s.toList == x.toList) = true := by simp [h1]
        have HR : Hid (l[k]? = some s) := by show _ = _; rw [← h1]; exact hx.out
        clear h1
        go_wp2
        go_ret
        exact ⟨_, rfl, .inr ⟨k, rfl, HR.out⟩, Below.refl _ _⟩
      · have h1' : (s.toList == x.toList) = false := by simp [toList_inj, Ne.symm h1]
        have HN : Hid (s ∉ l.take (k + 1)) := by
          show ¬ _
          rw [mem_take_succ hx.out]; intro h; rcases h with h | h
          · exact hpre.out h
          · exact h1 h
        clear h1
        go_wp2
        go_round
        case rel => exact ⟨k + 1, by omega, by go_num, HN⟩
        case measure => simp [intOf]; omega
    · have HR : Hid (s ∉ l) := by
        have h := hpre.out
        rw [List.take_of_length_le (by have := hlen.out; omega)] at h
        exact h
      have i1 : ¬ (k : Int) < (n : Int) := by omega
      go_wp2
      go_ret
      exact ⟨_, rfl, .inl ⟨rfl, HR.out⟩, Below.refl _ _⟩

theorem bytes_inj {a b : List UInt8} (h : bytes a = bytes b) : a = b := by
  have h1 : (bytes a).toList = (bytes b).toList := by rw [h]
  rwa [show (bytes a).toList = a from toList_mk a, show (bytes b).toList = b from toList_mk b] at h1
theorem idx_of {L : List (List UInt8)} {t : List UInt8} {j : Nat} (h : (L.map bytes)[j]? = some (bytes t)) : L[j]? = some t := by
  rw [List.getElem?_map] at h
  obtain ⟨l, hl, he⟩ := Option.map_eq_some_iff.1 h
  rw [hl, bytes_inj he]
theorem agg_idx {t : List UInt8} {k : Int} (h : (k = -1 ∧ bytes t ∉ paggsL.map bytes) ∨ ∃ j : Nat, k = (j : Int) ∧ (paggsL.map bytes)[j]? = some (bytes t)) : k + 1 = (aggN t : Int) := by
  rcases h with ⟨rfl, hn⟩ | ⟨j, rfl, hj⟩
  · have h1 : t ∉ paggsL := fun hm => hn (List.mem_map.2 ⟨t, hm, rfl⟩)
    simp only [paggsL, List.mem_cons, List.not_mem_nil, or_false, not_or] at h1
    unfold aggN
    rw [if_neg h1.1, if_neg h1.2.1, if_neg h1.2.2.1, if_neg h1.2.2.2]; rfl
  · have h1 := idx_of hj
    match j, h1 with
    | 0, h1 => simp [paggsL] at h1; subst h1; rfl
    | 1, h1 => simp [paggsL] at h1; subst h1; rfl
    | 2, h1 => simp [paggsL] at h1; subst h1; rfl
    | 3, h1 => simp [paggsL] at h1; subst h1; rfl
    | j + 4, h1 => simp [paggsL] at h1
theorem sgn_idx {t : List UInt8} {k : Int} (h : (k = -1 ∧ bytes t ∉ psignsL.map bytes) ∨ ∃ j : Nat, k = (j : Int) ∧ (psignsL.map bytes)[j]? = some (bytes t)) : k + 1 = (sgnN t : Int) := by
  rcases h with ⟨rfl, hn⟩ | ⟨j, rfl, hj⟩
  · have h1 : t ∉ psignsL := fun hm => hn (List.mem_map.2 ⟨t, hm, rfl⟩)
    simp only [psignsL, List.mem_cons, List.not_mem_nil, or_false, not_or] at h1
    unfold sgnN
    rw [if_neg h1.1, if_neg h1.2.1, if_neg h1.2.2.1, if_neg h1.2.2.2.1, if_neg h1.2.2.2.2.1, if_neg h1.2.2.2.2.2]; rfl
  · have h1 := idx_of hj
    match j, h1 with
    | 0, h1 => simp [psignsL] at h1; subst h1; rfl
    | 1, h1 => simp [psignsL] at h1; subst h1; rfl
    | 2, h1 => simp [psignsL] at h1; subst h1; rfl
    | 3, h1 => simp [psignsL] at h1; subst h1; rfl
    | 4, h1 => simp [psignsL] at h1; subst h1; rfl
    | 5, h1 => simp [psignsL] at h1; subst h1; rfl
    | j + 6, h1 => simp [psignsL] at h1
section
variable {B g : Nat} {A : Option Addr} {c : Nat} {T : List GTok} {E : Nat} {s : PS} {w : World}
theorem aggs_any (h : Rd B g A c T E s w) (t : List UInt8) : Calls Tryz.prog 181 #[.slice (some ⟨3, 0, none⟩) 4 4, .string (bytes t)] w (RetV (.int .i64 ((aggN t : Int) - 1)) w) := by
  refine (indexAt_any _ 4 4 _ (bytes t) w (h.par.aggs.is (by decide) (by decide))).mono ?_
  rintro e w' ⟨k, rfl, hk, hb⟩
  have h1 := agg_idx hk
  exact ⟨by rw [show k = (aggN t : Int) - 1 by omega], hb⟩
theorem signs_any (h : Rd B g A c T E s w) (t : List UInt8) : Calls Tryz.prog 181 #[.slice (some ⟨4, 0, none⟩) 6 6, .string (bytes t)] w (RetV (.int .i64 ((sgnN t : Int) - 1)) w) := by
  refine (indexAt_any _ 6 6 _ (bytes t) w (h.par.signs.is (by decide) (by decide))).mono ?_
  rintro e w' ⟨k, rfl, hk, hb⟩
  have h1 := sgn_idx hk
  exact ⟨by rw [show k = (sgnN t : Int) - 1 by omega], hb⟩
end
end Go.Proofs.YtplekbpmfaghbaaGreatDoor
