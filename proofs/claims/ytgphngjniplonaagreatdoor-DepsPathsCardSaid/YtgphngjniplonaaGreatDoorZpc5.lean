/- My own texts DgOpen, DgWk, DgWs, Queue, as far as this claim needs them. -/
import Derived.Test.YtgphngjniplonaaGreatDoorZp24
import Derived.Test.YtgphngjniplonaaGreatDoorZpc4
set_option linter.unusedVariables false
set_option linter.unusedSimpArgs false
set_option maxRecDepth 1000000
set_option maxHeartbeats 16000000
namespace Go.Proofs.YtgphngjniplonaaGreatDoor
open Go.ChangeShapes Go.WideShapes Go.ChangeAt Go.RowKit
set_option linter.unusedVariables false
theorem opens_edge {P : Program} {t a b c : TypeId} (hf : fieldsOf P t = [(a, 0, 1), (b, 1, 1), (c, 2, 1)]) (hz : P.cellsOf t = 3) (ha : P.underlying a = some (.int .i64)) (hb : P.underlying b = some (.int .i64)) (hc : P.underlying c = some .bool) : Opens P t Enc.edge := by
  intro H enc w fuel cs x hx hwt
  obtain ⟨hl, hat⟩ := open_fields hf (by simp) hx hwt
  rw [hz] at hl
  match cs, hl with
  | [u0, u1, u2], _ =>
    obtain ⟨y, n, h, hw⟩ := hat 0 _ rfl
    obtain ⟨k, e0, f0⟩ := opens_int ha _ _ _ _ _ _ h hw
    obtain ⟨y, n, h, hw⟩ := hat 1 _ rfl
    obtain ⟨i, e1, f1⟩ := opens_int hb _ _ _ _ _ _ h hw
    obtain ⟨y, n, h, hw⟩ := hat 2 _ rfl
    obtain ⟨s, e2, _⟩ := DataW.trod_bool hc h
    simp at e0 e1 e2
    subst e0 e1 e2
    exact ⟨⟨k, i, s⟩, rfl, f0, f1⟩
theorem o_edge : Opens Tryz.prog 71 Enc.edge := opens_edge (a := 3) (b := 3) (c := 4) (by kernel_rfl) (by kernel_rfl) (by kernel_rfl) (by kernel_rfl) (by kernel_rfl)
theorem u_edges : Tryz.prog.underlying 29 = some (.slice 71) := by kernel_rfl
theorem o_edges : Opens Tryz.prog 29 (Enc.slice Enc.edge) := opens_slice u_edges o_edge (by kernel_rfl) (by decide) (of_decide_eq_true (by kernel_rfl))
theorem open_graphG {H : Type} {enc : TypeId × Value → H} {P : Program} {w : World} {t a b : TypeId} {v : Value} {d : DataW H} {p : List MemPlace} {r : Reach} {b0 : Nat} (hf : fieldsOf P t = [(a, 0, 1), (b, 1, 1)]) (hz : P.cellsOf t = 2) (ha : P.underlying a = some (.int .i64)) (hb : Opens P b (Enc.slice Enc.edge))
    (hval : Value.okWide P w r b0 t v) (h : DataW.Trod enc P w 0 (fun _ => true) true t v d p) (hwt : ∀ n ∈ d.weights P t, n ≤ reachBytes) :
    ∃ n A m c l, v = .agg #[.int .i64 n, .slice A m c] ∧ fits n ∧ SliceIs Enc.edge w w.heap.size A m c l := by
  obtain ⟨fs, hs⟩ : ∃ fs, P.underlying t = some (.struct fs) := by
    unfold fieldsOf at hf
    split at hf
    · exact ⟨_, by assumption⟩
    · cases hf
  obtain ⟨cs, rfl, hsz⟩ := okWide_struct hs hval
  obtain ⟨fuel, hx⟩ := h
  obtain ⟨hl, hat⟩ := open_fields hf (by simp) hx hwt
  obtain ⟨cs⟩ := cs
  rw [hz] at hsz
  match cs, hsz with
  | [u0, u1], _ =>
    obtain ⟨y, n, h, hw⟩ := hat 0 _ rfl
    obtain ⟨s, e0, f0⟩ := opens_int ha _ _ _ _ _ _ h hw
    obtain ⟨y, n, h, hw⟩ := hat 1 _ rfl
    obtain ⟨l, A, m, c, e1, f1⟩ := hb _ _ _ _ _ _ h hw
    simp [Value.cells] at e0 e1
    subst e0 e1
    exact ⟨s, A, m, c, l, rfl, f0, f1⟩
theorem open_graph {H : Type} {enc : TypeId × Value → H} {w : World} {v : Value} {d : DataW H} {p : List MemPlace} {r : Reach} {b0 : Nat} (hval : Value.okWide Tryz.prog w r b0 31 v) (h : DataW.Trod enc Tryz.prog w 0 (fun _ => true) true 31 v d p) (hwt : ∀ n ∈ d.weights Tryz.prog 31, n ≤ reachBytes) :
    ∃ n A m c l, v = .agg #[.int .i64 n, .slice A m c] ∧ fits n ∧ SliceIs Enc.edge w w.heap.size A m c l :=
  open_graphG (a := 3) (b := 29) (by kernel_rfl) (by kernel_rfl) (by kernel_rfl) o_edges hval h hwt
end Go.Proofs.YtgphngjniplonaaGreatDoor

namespace Go.Proofs.YtgphngjniplonaaGreatDoor
open Go.RowKit
theorem needsF_up (a : Int) : ∀ (l : List GEdge) (last : Int), l.Pairwise (fun x y => lessE x y = true) → (∀ e ∈ l, e.a = a → last ≤ e.b) → (needsF a last l).Pairwise (· < ·) ∧ ∀ b ∈ needsF a last l, last < b
  | [], _, _, _ => by simp [needsF]
  | e :: l, last, hp, hl => by
    rw [List.pairwise_cons] at hp
    unfold needsF
    by_cases h : e.a = a ∧ e.b ≠ last
    · rw [if_pos h]
      have h0 := hl e (List.mem_cons_self ..) h.1
      obtain ⟨h1, h2⟩ := needsF_up a l e.b hp.2 (fun x hx hxa => by
        have h3 := hp.1 x hx
        unfold lessE at h3
        rw [if_pos (by rw [h.1, hxa])] at h3
        split at h3
        · omega
        · have := of_decide_eq_true h3; omega)
      have h5 := h.2
      refine ⟨List.pairwise_cons.2 ⟨h2, h1⟩, fun b hb => ?_⟩
      rcases List.mem_cons.1 hb with rfl | hb
      · omega
      · have := h2 b hb; omega
    · rw [if_neg h]
      exact needsF_up a l last hp.2 (fun x hx => hl x (List.mem_cons_of_mem _ hx))
theorem right_pairs {n : Int} {l : List GEdge} (hr : rightG n l = true) : l.Pairwise (fun x y => lessE x y = true) := by
  rw [List.pairwise_iff_getElem]
  intro i j hi hj hij
  have := right_less hr (i := i) (p := l[i]) (List.getElem?_eq_getElem hi) (j - i - 1) (x := l[j]) (by rw [show i + 1 + (j - i - 1) = j by omega]; exact List.getElem?_eq_getElem hj)
  exact this
theorem needs_at {N : Nat} {l : List GEdge} (hr : rightG (N : Int) l = true) (a : Nat) : ∃ ys : List Nat, needsF (a : Int) (-1) l = ys.map (fun y : Nat => (y : Int)) ∧ ys.Pairwise (· < ·) ∧ (∀ y, y ∈ ys ↔ hasN l a y = true) ∧ ∀ y ∈ ys, y < N := by
  have hw := right_in hr
  have hnn : ∀ b ∈ needsF (a : Int) (-1) l, 0 ≤ b ∧ b < (N : Int) ∧ ∃ e ∈ l, e.a = a ∧ e.b = b := fun b hb => by
    have h1 := (needsF_up (a : Int) l (-1) (right_pairs hr) (fun e he _ => by
      have := hw e he
      simp only [withinE, Bool.and_eq_true, decide_eq_true_eq] at this
      omega)).2 b hb
    have h2 := (needsF_mem (a : Int) l (-1) b).1 (.inl hb)
    rcases h2 with ⟨e, he, h3, h4⟩ | h2
    · have := hw e he
      simp only [withinE, Bool.and_eq_true, decide_eq_true_eq] at this
      exact ⟨by omega, by omega, e, he, h3, h4⟩
    · omega
  have hup := (needsF_up (a : Int) l (-1) (right_pairs hr) (fun e he _ => by
      have := hw e he
      simp only [withinE, Bool.and_eq_true, decide_eq_true_eq] at this
      omega)).1
  have hmap : (needsF (a : Int) (-1) l).map (fun b : Int => ((b.toNat : Nat) : Int)) = needsF (a : Int) (-1) l := by
    have h3 : ∀ b ∈ needsF (a : Int) (-1) l, (fun b : Int => ((b.toNat : Nat) : Int)) b = id b := fun b hb => by
      have := (hnn b hb).1
      simp only [id]
      omega
    rw [List.map_congr_left h3, List.map_id]
  refine ⟨(needsF (a : Int) (-1) l).map Int.toNat, by rw [List.map_map]; exact hmap.symm, ?_, ?_, ?_⟩
  · rw [List.pairwise_map]
    refine List.Pairwise.imp_of_mem (fun {x y} hx hy hxy => ?_) hup
    have h1 := (hnn x hx).1
    have h2 := (hnn y hy).1
    omega
  · intro y
    constructor
    · intro h
      obtain ⟨b, hb, rfl⟩ := List.mem_map.1 h
      obtain ⟨h0, -, e, he, h1, h2⟩ := hnn b hb
      unfold hasN hasL
      rw [List.any_eq_true]
      exact ⟨e, he, by simp only [Bool.and_eq_true, decide_eq_true_eq]; omega⟩
    · intro h
      unfold hasN hasL at h
      rw [List.any_eq_true] at h
      obtain ⟨e, he, h1⟩ := h
      simp only [Bool.and_eq_true, decide_eq_true_eq] at h1
      rcases (needsF_mem (a : Int) l (-1) (y : Int)).2 (.inl ⟨e, he, h1.1, h1.2⟩) with h2 | h2
      · exact List.mem_map.2 ⟨(y : Int), h2, by simp⟩
      · omega
  · intro y h
    obtain ⟨b, hb, rfl⟩ := List.mem_map.1 h
    have := hnn b hb
    omega
theorem needs_out {N : Nat} {l : List GEdge} (hr : rightG (N : Int) l = true) {a : Int} (ha : a < 0 ∨ (N : Int) ≤ a) : needsF a (-1) l = [] := by
  refine List.eq_nil_iff_forall_not_mem.2 fun b hb => ?_
  have hw := right_in hr
  have h1 := (needsF_up a l (-1) (right_pairs hr) (fun e he _ => by
      have := hw e he
      simp only [withinE, Bool.and_eq_true, decide_eq_true_eq] at this
      omega)).2 b hb
  rcases (needsF_mem a l (-1) b).1 (.inl hb) with ⟨e, he, h3, h4⟩ | h2
  · have := hw e he
    simp only [withinE, Bool.and_eq_true, decide_eq_true_eq] at this
    omega
  · omega
abbrev outs (a : Nat) (ps : List (List Nat)) : List Nat := ps.map (wayEnd a)
structure WkS (l : List GEdge) (N a : Nat) (ps : List (List Nat)) (k : Nat) (ds : List Nat) : Prop where
  p : PInv (hasN l) a ps k ds
  b : BInv (hasN l) a (outs a ps) k ds
  lt : ∀ q ∈ ps, wayEnd a q < N
theorem WkS.start (l : List GEdge) (N a : Nat) : WkS l N a [] 0 [] := ⟨PInv.start, BInv.start, fun q h => by cases h⟩
theorem WkS.at_ {l : List GEdge} {N a : Nat} {ps : List (List Nat)} {k : Nat} {ds : List Nat} (_h : WkS l N a ps k ds) {x : Nat} (hx : (a :: outs a ps)[k]? = some x) : ∃ q, ([] :: ps)[k]? = some q ∧ wayEnd a q = x := by
  have e : (a :: outs a ps) = ([] :: ps).map (wayEnd a) := rfl
  rw [e, List.getElem?_map, Option.map_eq_some_iff] at hx
  exact hx
theorem WkS.skip {l : List GEdge} {N a : Nat} {ps : List (List Nat)} {k : Nat} {ds : List Nat} (h : WkS l N a ps k ds) {x y : Nat} (hx : (a :: outs a ps)[k]? = some x) (hy : y ∈ outs a ps) : WkS l N a ps k (ds ++ [y]) := by
  obtain ⟨q, hq, -⟩ := h.at_ hx
  obtain ⟨p, hp, he⟩ := List.mem_map.1 hy
  exact ⟨h.p.skip hq hp he, h.b.skip hy, h.lt⟩
theorem WkS.add {l : List GEdge} {N a : Nat} {ps : List (List Nat)} {k : Nat} {ds : List Nat} (h : WkS l N a ps k ds) {x y : Nat} (hx : (a :: outs a ps)[k]? = some x) (hxy : hasN l x y = true) (hy : y ∉ outs a ps) (hup : ∀ z ∈ ds, z < y) (hN : y < N) :
    ∃ q, wayEnd a q = x ∧ (q = [] ∨ q ∈ ps) ∧ WkS l N a (ps ++ [q ++ [y]]) k (ds ++ [y]) := by
  obtain ⟨q, hq, he⟩ := h.at_ hx
  have hm : q = [] ∨ q ∈ ps := by
    rcases List.mem_cons.1 (List.mem_of_getElem? hq) with h1 | h1
    · exact .inl h1
    · exact .inr h1
  have hw : IsWay (hasN l) a q := by
    rcases hm with rfl | h1
    · trivial
    · exact (h.p.way q h1).2
  refine ⟨q, he, hm, h.p.add hq hw (by rw [he]; exact hxy) hup, ?_, fun p hp => ?_⟩
  · have h1 := h.b.add hx hxy hy
    have e : outs a (ps ++ [q ++ [y]]) = outs a ps ++ [y] := by
      unfold outs
      rw [List.map_append, List.map_singleton, last_snoc]
    rw [e]
    exact h1
  · rcases List.mem_append.1 hp with h1 | h1
    · exact h.lt p h1
    · rw [List.mem_singleton.1 h1, last_snoc]; exact hN
theorem WkS.next {l : List GEdge} {N a : Nat} {ps : List (List Nat)} {k : Nat} {ds : List Nat} (h : WkS l N a ps k ds) {x : Nat} (hx : (a :: outs a ps)[k]? = some x) (hd : ∀ y, hasN l x y = true → y ∈ ds) : WkS l N a ps (k + 1) [] := by
  obtain ⟨q, hq, he⟩ := h.at_ hx
  exact ⟨h.p.next hq (by rw [he]; exact hd), h.b.next hx hd, h.lt⟩
theorem nodup_inj {α β : Type} (f : α → β) : ∀ {l : List α}, (l.map f).Nodup → ∀ x ∈ l, ∀ y ∈ l, f x = f y → x = y
  | [], _, x, hx, _, _, _ => by cases hx
  | z :: l, h, x, hx, y, hy, e => by
    rw [List.map_cons, List.nodup_cons] at h
    rcases List.mem_cons.1 hx with hx1 | hx1
    · rcases List.mem_cons.1 hy with hy1 | hy1
      · rw [hx1, hy1]
      · exact absurd (List.mem_map.2 ⟨y, hy1, by rw [← e, hx1]⟩) h.1
    · rcases List.mem_cons.1 hy with hy1 | hy1
      · exact absurd (List.mem_map.2 ⟨x, hx1, by rw [e, hy1]⟩) h.1
      · exact nodup_inj f h.2 x hx1 y hy1 e
theorem nodup_most {N : Nat} : ∀ {l : List Nat}, l.Nodup → (∀ x ∈ l, x < N) → l.length ≤ N := by
  intro l hn hl
  have h1 := nodup_len l (List.range N) hn (fun x hx => List.mem_range.2 (hl x hx))
  rw [List.length_range] at h1
  exact h1
theorem WkS.most {l : List GEdge} {N a : Nat} {ps : List (List Nat)} {k : Nat} {ds : List Nat} (h : WkS l N a ps k ds) : ps.length ≤ N := by
  have h1 := nodup_most (N := N) h.b.nod (fun x hx => by
    obtain ⟨p, hp, rfl⟩ := List.mem_map.1 hx
    exact h.lt p hp)
  simpa using h1
theorem WkS.one {l : List GEdge} {N a : Nat} {ps : List (List Nat)} {k : Nat} {ds : List Nat} (h : WkS l N a ps k ds) : ∀ p ∈ ps, ∀ q ∈ ps, wayEnd a p = wayEnd a q → p = q := nodup_inj _ h.b.nod
def fmL (a : Nat) (ps : List (List Nat)) : List (Int × Value) := ps.map fun p => (((wayEnd a p : Nat) : Int), Value.int .i64 ((wayEnd a p.dropLast : Nat) : Int))
theorem fmL_snoc (a : Nat) (ps : List (List Nat)) (q : List Nat) (y : Nat) : fmL a (ps ++ [q ++ [y]]) = fmL a ps ++ [(((y : Nat) : Int), Value.int .i64 ((wayEnd a q : Nat) : Int))] := by
  unfold fmL
  rw [List.map_append, List.map_singleton, last_snoc, List.dropLast_concat]
theorem fmL_none {a : Nat} : ∀ {ps : List (List Nat)} {y : Nat}, y ∉ outs a ps → knGet (fmL a ps) (y : Int) = none
  | [], y, _ => rfl
  | p :: ps, y, h => by
    show knGet ((((wayEnd a p : Nat) : Int), _) :: fmL a ps) _ = _
    rw [kvGet_consN, if_neg (fun e => h (by have : wayEnd a p = y := by omega
                                            rw [← this]; exact List.mem_cons_self ..))]
    exact fmL_none (fun hm => h (List.mem_cons_of_mem _ hm))
theorem fmL_set {a : Nat} : ∀ {ps : List (List Nat)} {y : Nat} (v : Value), y ∉ outs a ps → knSet (fmL a ps) (y : Int) v = fmL a ps ++ [((y : Int), v)]
  | [], y, v, _ => rfl
  | p :: ps, y, v, h => by
    show knSet ((((wayEnd a p : Nat) : Int), _) :: fmL a ps) _ _ = _
    unfold knSet
    rw [if_neg (fun e => h (by have : wayEnd a p = y := by omega
                               rw [← this]; exact List.mem_cons_self ..))]
    rw [fmL_set v (fun hm => h (List.mem_cons_of_mem _ hm))]
    rfl
theorem fmL_get {a : Nat} : ∀ {ps : List (List Nat)}, (outs a ps).Nodup → ∀ {p : List Nat}, p ∈ ps → knGet (fmL a ps) ((wayEnd a p : Nat) : Int) = some (.int .i64 ((wayEnd a p.dropLast : Nat) : Int))
  | [], _, p, hp => by cases hp
  | q :: ps, h, p, hp => by
    show knGet ((((wayEnd a q : Nat) : Int), _) :: fmL a ps) _ = _
    rw [kvGet_consN]
    by_cases e : wayEnd a q = wayEnd a p
    · have : q = p := nodup_inj (wayEnd a) h q (List.mem_cons_self ..) p hp e
      subst this
      rw [if_pos rfl]
    · rw [if_neg (fun e' => e (by omega))]
      rcases List.mem_cons.1 hp with rfl | hp
      · exact absurd rfl e
      · exact fmL_get (List.nodup_cons.1 h).2 hp
theorem fmL_not {a : Nat} {ps : List (List Nat)} {z : Int} (h : ∀ y ∈ outs a ps, ((y : Nat) : Int) ≠ z) : knGet (fmL a ps) z = none := by
  induction ps with
  | nil => rfl
  | cons p ps ih =>
    show knGet ((((wayEnd a p : Nat) : Int), _) :: fmL a ps) _ = _
    rw [kvGet_consN, if_neg (h _ (List.mem_cons_self ..))]
    exact ih (fun y hy => h y (List.mem_cons_of_mem _ hy))
end Go.Proofs.YtgphngjniplonaaGreatDoor

namespace Go.Proofs.YtgphngjniplonaaGreatDoor
open Go.RowKit
def okA (n : Int) (l : List GEdge) (a : Int) : Prop := rightG n l = true ∧ 0 ≤ a ∧ a < n
theorem okA_nat {n : Int} {l : List GEdge} {a : Int} (h : okA n l a) : ∃ N A : Nat, n = (N : Int) ∧ a = (A : Int) ∧ A < N ∧ N ≤ 32 ∧ rightG (N : Int) l = true := by
  obtain ⟨h1, h2, h3⟩ := h
  have h4 : n ≤ 32 := by
    unfold rightG at h1
    simp only [Bool.and_eq_true, decide_eq_true_eq] at h1
    omega
  refine ⟨n.toNat, a.toNat, by omega, by omega, by omega, by omega, ?_⟩
  rw [show ((n.toNat : Nat) : Int) = n by omega]
  exact h1
theorem needsG_none {n : Int} {l : List GEdge} {a : Int} (h : ¬ okA n l a) : needsG n l a = [] := by
  unfold needsG
  split
  · rename_i hr
    have hn : 0 ≤ n := by
      have h1 := hr
      unfold rightG at h1
      simp only [Bool.and_eq_true, decide_eq_true_eq] at h1
      omega
    have hr' : rightG ((n.toNat : Nat) : Int) l = true := by rw [show ((n.toNat : Nat) : Int) = n by omega]; exact hr
    refine needs_out hr' ?_
    unfold okA at h
    by_cases h0 : a < 0
    · exact .inl h0
    · right
      rw [show ((n.toNat : Nat) : Int) = n by omega]
      refine Int.not_lt.1 fun h1 => h ⟨hr, by omega, h1⟩
  · rfl
def outsI (a : Int) (ps : List (List Nat)) : List Int := (outs a.toNat ps).map (fun y : Nat => (y : Int))
def quI (a : Int) (ps : List (List Nat)) : List Int := a :: outsI a ps
theorem outsI_len (a : Int) (ps : List (List Nat)) : (outsI a ps).length = ps.length := by simp [outsI, outs]
theorem quI_len (a : Int) (ps : List (List Nat)) : (quI a ps).length = ps.length + 1 := by simp [quI, outsI_len]
theorem outsI_snoc (a : Int) (ps : List (List Nat)) (q : List Nat) (y : Nat) : outsI a (ps ++ [q ++ [y]]) = outsI a ps ++ [((y : Nat) : Int)] := by
  unfold outsI outs
  rw [List.map_append, List.map_singleton, last_snoc, List.map_append]
  rfl
theorem quI_snoc (a : Int) (ps : List (List Nat)) (q : List Nat) (y : Nat) : quI a (ps ++ [q ++ [y]]) = quI a ps ++ [((y : Nat) : Int)] := by
  unfold quI
  rw [outsI_snoc]
  rfl
def WS (n : Int) (l : List GEdge) (a : Int) (ps : List (List Nat)) (k : Nat) (ds : List Nat) : Prop :=
  (okA n l a ∧ WkS l n.toNat a.toNat ps k ds) ∨ (¬ okA n l a ∧ ps = [] ∧ ds = [] ∧ k ≤ 1)
theorem WS.start (n : Int) (l : List GEdge) (a : Int) : WS n l a [] 0 [] := by
  by_cases h : okA n l a
  · exact .inl ⟨h, WkS.start l _ _⟩
  · exact .inr ⟨h, rfl, rfl, by omega⟩
theorem WS.most {n : Int} {l : List GEdge} {a : Int} {ps : List (List Nat)} {k : Nat} {ds : List Nat} (h : WS n l a ps k ds) : ps.length ≤ 32 := by
  rcases h with ⟨h1, h2⟩ | ⟨-, rfl, -, -⟩
  · obtain ⟨N, A, rfl, -, -, h3, -⟩ := okA_nat h1
    have := h2.most
    simp at this
    omega
  · simp
theorem cast_at {A : Nat} {L : List Nat} {k : Nat} {x : Int} (h : (((A : Nat) : Int) :: L.map (fun y : Nat => (y : Int)))[k]? = some x) : ∃ x' : Nat, x = (x' : Int) ∧ (A :: L)[k]? = some x' := by
  have e : (((A : Nat) : Int) :: L.map (fun y : Nat => (y : Int))) = (A :: L).map (fun y : Nat => (y : Int)) := rfl
  rw [e, List.getElem?_map, Option.map_eq_some_iff] at h
  obtain ⟨x', h1, h2⟩ := h
  exact ⟨x', h2.symm, h1⟩
theorem WS.needs {n : Int} {l : List GEdge} {a : Int} {ps : List (List Nat)} {k : Nat} (h : WS n l a ps k []) {x : Int} (hx : (quI a ps)[k]? = some x) :
    ∃ ys : List Nat, needsG n l x = ys.map (fun y : Nat => (y : Int)) ∧
      (∀ ps' pre y post, ys = pre ++ y :: post → WS n l a ps' k pre → (quI a ps')[k]? = some x → (y ∈ outs a.toNat ps' → WS n l a ps' k (pre ++ [y])) ∧ (y ∉ outs a.toNat ps' → ∃ q, x = ((wayEnd a.toNat q : Nat) : Int) ∧ WS n l a (ps' ++ [q ++ [y]]) k (pre ++ [y]))) ∧
      (∀ ps', WS n l a ps' k ys → (quI a ps')[k]? = some x → WS n l a ps' (k + 1) []) := by
  by_cases hk : okA n l a
  · obtain ⟨N, A, rfl, rfl, hAN, hN, hr⟩ := okA_nat hk
    obtain ⟨x', rfl, hx'⟩ := cast_at hx
    obtain ⟨ys, h1, h2, h3, h4⟩ := needs_at hr x'
    have hat : ∀ ps', (quI (A : Int) ps')[k]? = some ((x' : Nat) : Int) → (A :: outs A ps')[k]? = some x' := fun ps' hq => by
      obtain ⟨x2, e1, e2⟩ := cast_at hq
      have : x2 = x' := by omega
      rw [this] at e2
      exact e2
    have hin : ∀ {ps' : List (List Nat)} {k' : Nat} {ds : List Nat}, WS (N : Int) l (A : Int) ps' k' ds → WkS l N A ps' k' ds := fun h => by
      rcases h with ⟨-, h⟩ | ⟨h, -⟩
      · simpa using h
      · exact absurd hk h
    have hout : ∀ {ps' : List (List Nat)} {k' : Nat} {ds : List Nat}, WkS l N A ps' k' ds → WS (N : Int) l (A : Int) ps' k' ds := fun h => .inl ⟨hk, by simpa using h⟩
    refine ⟨ys, ?_, ?_, ?_⟩
    · unfold needsG; rw [if_pos hr]; exact h1
    · intro ps' pre y post he hw hq
      have hy : y ∈ ys := by rw [he]; simp
      refine ⟨fun hm => hout ((hin hw).skip (hat ps' hq) (by simpa using hm)), fun hm => ?_⟩
      obtain ⟨q, e1, -, e3⟩ := (hin hw).add (hat ps' hq) ((h3 y).1 hy) (by simpa using hm) (fun z hz => by
        rw [he] at h2
        exact (List.pairwise_append.1 h2).2.2 z hz y (List.mem_cons_self ..)) (h4 y hy)
      exact ⟨q, by simp [e1], hout e3⟩
    · intro ps' hw hq
      exact hout ((hin hw).next (hat ps' hq) (fun y hy => (h3 y).2 hy))
  · rcases h with ⟨h1, -⟩ | ⟨-, rfl, -, hk1⟩
    · exact absurd h1 hk
    · have hk0 : k = 0 ∧ x = a := by
        cases k with
        | zero => simp [quI] at hx; exact ⟨rfl, hx.symm⟩
        | succ k => have := (List.getElem?_eq_some_iff.1 hx).1; simp [quI, outsI, outs] at this
      obtain ⟨rfl, rfl⟩ := hk0
      refine ⟨[], by rw [needsG_none hk]; rfl, ?_, ?_⟩
      · intro ps' pre y post he
        simp at he
      · intro ps' hw _
        rcases hw with ⟨h1, -⟩ | ⟨-, h2, -, -⟩
        · exact absurd h1 hk
        · exact .inr ⟨hk, h2, rfl, by omega⟩
end Go.Proofs.YtgphngjniplonaaGreatDoor

namespace Go.Proofs.YtgphngjniplonaaGreatDoor
open Go.RowKit
def QRow (w : World) (base e : Nat) (A : Option Addr) (n c : Nat) (xs : List Value) : Prop :=
  xs.length = n ∧ ((A = none ∧ n = 0 ∧ c = 0) ∨ ∃ g off cur, A = some ⟨g, off, none⟩ ∧ base ≤ g ∧ w.heap[g]? = some (.cells cur e (0, 0)) ∧ n ≤ c ∧ c ≤ maxLen ∧ off + c ≤ cur.size ∧ (cur.toList.drop off).take n = xs)
def blkQ (A : Option Addr) : List Nat := A.toList.map (·.block)
section
variable {w w' : World} {base e : Nat} {A : Option Addr} {n c : Nat} {xs : List Value}
theorem QRow.blk (h : QRow w base e A n c xs) {b : Nat} (hb : b ∈ blkQ A) : base ≤ b ∧ b < w.heap.size := by
  rcases h.2 with ⟨rfl, -⟩ | ⟨g, off, cur, rfl, h1, h2, -⟩
  · cases hb
  · simp [blkQ] at hb
    subst hb
    exact ⟨h1, (Array.getElem?_eq_some_iff.1 h2).1⟩
theorem QRow.same (h : QRow w base e A n c xs) (hs : ∀ b ∈ blkQ A, w'.heap[b]? = w.heap[b]?) : QRow w' base e A n c xs := by
  refine ⟨h.1, ?_⟩
  rcases h.2 with h0 | ⟨g, off, cur, rfl, h1, h2, h3⟩
  · exact .inl h0
  · exact .inr ⟨g, off, cur, rfl, h1, (hs g (by simp [blkQ])).trans h2, h3⟩
theorem QRow.one {g : Nat} {u : Value} (hg : w.heap[g]? = some (.cells #[u] e (0, 0))) : QRow w g e (some ⟨g, 0, none⟩) 1 1 [u] :=
  ⟨rfl, .inr ⟨g, 0, _, rfl, Nat.le_refl _, hg, by omega, by simp [maxLen], by simp, by simp⟩⟩
theorem QRow.head {u : Value} {us : List Value} (h : QRow w base e A n c (u :: us)) : ∃ g off, A = some ⟨g, off, none⟩ ∧ w.cell? ⟨g, off, none⟩ = some u ∧ 0 < n ∧ n ≤ c := by
  have hn := h.1
  rcases h.2 with ⟨-, rfl, -⟩ | ⟨g, off, cur, rfl, h1, h2, h3, h4, h5, h6⟩
  · simp at hn
  · refine ⟨g, off, rfl, ?_, by simp at hn; omega, h3⟩
    rw [cell_of_row _ _ _ _ _ _ h2]
    have e0 : ((cur.toList.drop off).take n)[0]? = some u := by rw [h6]; rfl
    rw [List.getElem?_take, if_pos (by simp at hn; omega), List.getElem?_drop] at e0
    simpa using e0
theorem QRow.tail {u : Value} {us : List Value} {g off : Nat} (h : QRow w base e (some ⟨g, off, none⟩) (n + 1) c (u :: us)) : (1 < c → QRow w base e (some ⟨g, off + 1, none⟩) n (c - 1) us) ∧ (c = 1 → QRow w base e (some ⟨g, off, none⟩) n (c - 1) us) := by
  have hn := h.1
  rcases h.2 with ⟨h0, -⟩ | ⟨g', off', cur, hA, h1, h2, h3, h4, h5, h6⟩
  · cases h0
  · injection hA with hA
    injection hA with e1 e2 e3
    subst e1 e2
    have hus : us.length = n := by simpa using hn
    refine ⟨fun hc => ⟨hus, .inr ⟨g, off + 1, cur, rfl, h1, h2, by omega, by omega, by omega, ?_⟩⟩, fun hc => ⟨hus, .inr ⟨g, off, cur, rfl, h1, h2, by omega, by omega, by omega, ?_⟩⟩⟩
    · have e0 : (cur.toList.drop (off + 1)).take n = ((cur.toList.drop off).take (n + 1)).tail := by
        rw [← List.drop_one, List.drop_take, List.drop_drop]
        rfl
      rw [e0, h6]
      rfl
    · have hn0 : n = 0 := by omega
      subst hn0
      have : us = [] := List.eq_nil_of_length_eq_zero hus
      subst this
      simp
theorem QRow.push {P : Program} {t ty bytes : Nat} {z : Value} (ht : P.underlying t = some (.slice e)) (hi : (P.info? e).map (fun i => (i.zero, i.size, i.bytes)) = some (some z, 1, bytes)) (hzs : z.cells.size = 1)
    (h : QRow w base e A n c xs) {g : Nat} {u : Value} (hg : w.heap[g]? = some (.cells #[u] e (0, 0))) (h1 : u.oneCell' = true) (h63 : n + 1 ≤ maxLen) (hbytes : (n + 1) * bytes ≤ 140737488355328) (hbase : base ≤ w.heap.size) :
    ∃ A' c' w', (Builtin.append_ #[t, t] ty #[.slice A n c, .slice (some ⟨g, 0, none⟩) 1 1]).run P w = .ok (.slice A' (n + 1) c') w' ∧ QRow w' base e A' (n + 1) c' (xs ++ [u]) ∧ Out (blkQ A) w w' ∧ ∀ b ∈ blkQ A', b ∈ blkQ A ∨ w.heap.size ≤ b := by
  obtain ⟨i, hi', hz, hs, hb⟩ := info_parts hi
  have hnews : ∀ j v, [u][j]? = some v → w.cell? ((⟨g, 0, none⟩ : Addr).add j) = some v := by
    intro j v hu
    have hadd : (⟨g, 0, none⟩ : Addr).add j = ⟨g, j, none⟩ := by unfold Addr.add; split <;> simp_all
    rw [hadd, cell_of_row _ g j _ e (0, 0) hg]
    simpa using hu
  have hl : [u].length = 1 * i.size := by rw [hs]; rfl
  have hone : ∀ v ∈ [u], v.oneCell' = true := fun v hv => by rw [List.mem_singleton.1 hv]; exact h1
  have hx := h.1
  have hsmall : n + 1 ≤ 9223372036854775807 := by simp only [maxLen] at h63; omega
  have grown : ∀ (old : Nat) (T : List Nat), old < n + 1 →
      QRow (w.drew.alloc (.cells (xs.toArray ++ [u].toArray ++ Builtin.zeroCells z.cells (grownCap w (n + 1) old e - (n + 1))) e)) base e (some ⟨w.heap.size, 0, none⟩) (n + 1) (grownCap w (n + 1) old e) (xs ++ [u]) ∧
      Out T w (w.drew.alloc (.cells (xs.toArray ++ [u].toArray ++ Builtin.zeroCells z.cells (grownCap w (n + 1) old e - (n + 1))) e)) := by
    intro old T ho
    have hge := grownCap_ge w (n + 1) old e
    have hcm : grownCap w (n + 1) old e ≤ maxLen := grownCap_le_maxLen w (n + 1) old e h63
    refine ⟨⟨by simp [hx], .inr ⟨w.heap.size, 0, _, rfl, hbase, heap_alloc_new w.drew _, hge, hcm, ?_, ?_⟩⟩, ⟨rfl, rfl, rfl, by simp, fun k hk _ => by first | exact heap_alloc_old w.drew _ k hk | exact heap_alloc_old w.drew _ hk⟩⟩
    · simp only [Array.size_append, List.size_toArray, size_zeroCells, hzs, hx, List.length_singleton]
      omega
    · simp only [Array.toList_append, List.append_assoc, List.drop_zero]
      rw [← List.append_assoc, show n + 1 = (xs ++ [u]).length by simp [hx]]
      exact List.take_left
  rcases h.2 with ⟨rfl, rfl, rfl⟩ | ⟨g0, off, cur, rfl, hbg, hg0, hnc, hcm, hcs, htake⟩
  · have hxe : xs = [] := List.eq_nil_of_length_eq_zero hx
    subst hxe
    have hr := run_append_nil (P := P) w t ty e i z ht hi' hz ⟨g, 0, none⟩ 1 1 [u] hl hnews (by omega) (by omega) (by rw [hb]; omega)
    obtain ⟨q1, q2⟩ := grown 0 (blkQ none) (by omega)
    simp only [Nat.zero_add, List.nil_append, Array.empty_append] at q1 q2 hr ⊢
    refine ⟨_, _, _, hr, ?_, ?_, fun b hb' => .inr ?_⟩
    · simpa using q1
    · simpa using q2
    · simp [blkQ] at hb'; omega
  · by_cases hroom : n + 1 ≤ c
    · have hf := run_firstCells_some (P := P) w i.size 1 ⟨g, 0, none⟩ 1 1 [u] hl hnews
      have hst := run_storeCells_at P g0 (off + n) e [u] 0 cur w hg0 (by simp; omega) hone
      simp only [Nat.add_zero] at hst
      have hr : (Builtin.append_ #[t, t] ty #[.slice (some ⟨g0, off, none⟩) n c, .slice (some ⟨g, 0, none⟩) 1 1]).run P w =
          .ok (.slice (some ⟨g0, off, none⟩) (n + 1) c) (w.setRow g0 (cur.toList.take (off + n) ++ [u] ++ cur.toList.drop (off + n + 1)).toArray) := by
        rw [hs] at hf
        simp [Builtin.append_, run_underlying ht, sizeOf, typeInfo, hi', hs, Builtin.lenOf, hroom, hf, Addr.add_lit, hst]
      refine ⟨_, _, _, hr, ⟨by simp [hx], .inr ⟨g0, off, _, rfl, hbg, setRow_heap w g0 cur _ e _ hg0, hroom, hcm, ?_, ?_⟩⟩, ⟨rfl, rfl, rfl, by simp, fun k _ hk => setRow_other w g0 k _ (fun e => hk (by simp [blkQ, e]))⟩, fun b hb' => .inl hb'⟩
      · simp only [List.size_toArray, List.length_append, List.length_take, List.length_drop, Array.length_toList, List.length_singleton]
        omega
      · have hlt : (cur.toList.take (off + n)).length = off + n := by rw [List.length_take, Array.length_toList]; omega
        rw [List.append_assoc, List.drop_append_of_le_length (by omega), List.drop_take, show off + n - off = n by omega, htake, ← List.append_assoc, show n + 1 = (xs ++ [u]).length by simp [hx]]
        exact List.take_left
    · have holds : ∀ j v, xs[j]? = some v → w.cell? ((⟨g0, off, none⟩ : Addr).add j) = some v := by
        intro j v hv
        have hadd : (⟨g0, off, none⟩ : Addr).add j = ⟨g0, off + j, none⟩ := by unfold Addr.add; split <;> simp_all
        rw [hadd, cell_of_row _ g0 _ cur e (0, 0) hg0]
        rw [← htake, List.getElem?_take] at hv
        split at hv
        · rw [List.getElem?_drop] at hv; simpa using hv
        · cases hv
      have hr := run_append_grow (P := P) w t ty e i z ht hi' hz ⟨g0, off, none⟩ n c xs (by rw [hx, hs, Nat.mul_one]) holds ⟨g, 0, none⟩ 1 1 [u] hl hnews (by omega) (by omega) (growslice_fits (by omega) (by rw [hb]; exact hbytes))
      obtain ⟨q1, q2⟩ := grown c (blkQ (some ⟨g0, off, none⟩)) (by omega)
      exact ⟨_, _, _, hr, q1, q2, fun b hb' => .inr (by simp [blkQ] at hb'; omega)⟩
end
end Go.Proofs.YtgphngjniplonaaGreatDoor
