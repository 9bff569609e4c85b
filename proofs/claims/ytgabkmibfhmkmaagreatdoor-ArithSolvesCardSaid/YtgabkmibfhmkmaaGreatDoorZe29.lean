/- My own texts ArMap, ArT, as far as this claim needs them. -/
import Derived.Test.YtgabkmibfhmkmaaGreatDoorZe2
import Derived.Test.YtgabkmibfhmkmaaGreatDoorZe28
import Derived.Deep.LoopGhost
set_option linter.unusedVariables false
set_option linter.unusedSimpArgs false
namespace Go.Proofs.YtgabkmibfhmkmaaGreatDoor
open Go.RowKit
/-- a map's value, nil or not -/
def MapV (w : World) (v : Value) (kvs : List (ByteArray × GV)) : Prop := (v = .map none ∧ kvs = []) ∨ ∃ g, v = .map (some g) ∧ MapIs w g (gvs kvs)
theorem told_ok {w : World} {B : Nat} {A : Option Addr} {n c : Nat} {l : List GTold} (h : SliceIs Enc.told w B A n c l) : ∀ t ∈ l, t.x.size ≤ reachN ∧ t.v.ok := by
  intro t ht
  rcases h.2.2.2.2 with h4 | ⟨b, o, _, _, hc⟩
  · subst h4; cases ht
  · obtain ⟨i, hi⟩ := List.mem_iff_getElem?.1 ht
    obtain ⟨cs, hok, _⟩ := hc i t hi
    exact hok.2
theorem getT_ok {w : World} {B : Nat} {A : Option Addr} {n c : Nat} {l : List GTold} (h : SliceIs Enc.told w B A n c l) : ∀ s v, getT l s = some v → v.ok := by
  intro s v hv
  simp only [getT, Option.map_eq_some_iff] at hv
  obtain ⟨t, ht, rfl⟩ := hv
  exact (told_ok h t (List.mem_of_find?_eq_some ht)).2
theorem mapV_lookup_ok {w : World} {v : Value} {kvs : List (ByteArray × GV)} (h : MapV w v kvs) (s : ByteArray) :
    (Instr.lookup 54 v (.string s) true).run Tryz.prog w = .ok (.tuple #[((kvGet kvs s).getD zeroV).v, .bool (kvGet kvs s).isSome]) w := by
  rcases h with ⟨rfl, rfl⟩ | ⟨g, rfl, h⟩
  · exact lookup_nil_ok Tryz.underlying54 Tryz.underlying9 (zero_value _) s
  · rw [h.lookup_ok Tryz.underlying54 Tryz.underlying9 (zero_value _) s, gvs_get]
    cases kvGet kvs s <;> rfl
theorem mapV_len {w : World} {v : Value} {kvs : List (ByteArray × GV)} (h : MapV w v kvs) (ty : TypeId) :
    (Builtin.len_ #[54] ty #[v]).run Tryz.prog w = .ok (.int .i64 kvs.length) w := by
  rcases h with ⟨rfl, rfl⟩ | ⟨g, rfl, h⟩
  · exact Maps.len_nil Tryz.underlying54 ty
  · rw [h.len Tryz.underlying54]; simp [gvs]
theorem MapV.below {w w' : World} {v : Value} {kvs : List (ByteArray × GV)} (h : MapV w v kvs) (hb : Below w.heap.size w w') : MapV w' v kvs := by
  rcases h with ⟨rfl, rfl⟩ | ⟨g, rfl, h⟩
  · exact .inl ⟨rfl, rfl⟩
  · exact .inr ⟨g, rfl, h.below hb h.lt⟩
/-- the same keys with the same values: as many of them -/
theorem keys_same {a b : List (ByteArray × GV)} (ha : (a.map Prod.fst).Nodup) (hb : (b.map Prod.fst).Nodup) (h : ∀ s, kvGet a s = kvGet b s) : a.length = b.length := by
  have mem : ∀ (l : List (ByteArray × GV)) (s : ByteArray), s ∈ l.map Prod.fst ↔ (kvGet l s).isSome = true := by
    intro l s
    induction l with
    | nil => simp [kvGet]
    | cons p l ih =>
      rw [kvGet_cons]
      by_cases e : p.1 = s
      · simp [e]
      · rw [if_neg e, ← ih]
        simp only [List.map_cons, List.mem_cons]
        exact ⟨fun h => h.resolve_left (fun h => e h.symm), .inr⟩
  have h1 := nodup_len _ (b.map Prod.fst) ha (fun s hs => (mem b s).2 (by rw [← h]; exact (mem a s).1 hs))
  have h2 := nodup_len _ (a.map Prod.fst) hb (fun s hs => (mem a s).2 (by rw [h]; exact (mem b s).1 hs))
  simp at h1 h2
  omega
theorem envOf_keys (l : List GTold) : ((envOf l).map Prod.fst).Nodup := by
  have : ∀ (l : List GTold) (e : List (ByteArray × GV)), (e.map Prod.fst).Nodup → ((l.foldl envAdd e).map Prod.fst).Nodup := by
    intro l
    induction l with
    | nil => intro e h; exact h
    | cons t l ih =>
      intro e h
      apply ih
      unfold envAdd
      split
      · exact h
      · exact kvSet_keys h
  exact this l [] (by simp)
theorem kvGet_mem {l : List (ByteArray × GV)} (hn : (l.map Prod.fst).Nodup) {p : ByteArray × GV} (hp : p ∈ l) : kvGet l p.1 = some p.2 := by
  induction l with
  | nil => cases hp
  | cons q l ih =>
    rw [kvGet_cons]
    simp only [List.map_cons, List.nodup_cons] at hn
    rcases List.mem_cons.1 hp with rfl | hp
    · simp
    · rw [if_neg (fun e => hn.1 (by rw [e]; exact List.mem_map.2 ⟨p, hp, rfl⟩))]
      exact ih hn.2 hp
theorem gvs_mem {l : List (ByteArray × GV)} {p : ByteArray × Value} (h : p ∈ gvs l) : ∃ v, p = (p.1, GV.v v) ∧ (p.1, v) ∈ l := by
  obtain ⟨q, hq, rfl⟩ := List.mem_map.1 h
  exact ⟨q.2, rfl, hq⟩
set_option maxRecDepth 100000 in
set_option maxHeartbeats 800000 in
theorem same13_any (m : Value) (kvs : List (ByteArray × GV)) (A : Option Addr) (n c : Nat) (l : List GTold) (w : World) (hm : MapV w m kvs) (hk : (kvs.map Prod.fst).Nodup) (hl : SliceIs Enc.told w w.heap.size A n c l) (hs : ∀ s, kvGet kvs s = getT l s) :
    Calls Tryz.prog 22 #[m, .slice A n c] w (RetBool true w) := by
  have henv := Lib.hid (env_any A n c l w hl)
  have hlen : kvs.length = (envOf l).length := keys_same hk (envOf_keys l) (fun s => by rw [hs, envOf_get])
  have hln : ((kvs.length : Int) != ((envOf l).length : Int)) = false := by simp [hlen]
  have Hgm : Hid (∀ g', m = .map (some g') → g' < w.heap.size) := by
    intro g' e
    rcases hm with ⟨h, _⟩ | ⟨g2, h, h'⟩
    · rw [h] at e; cases e
    · rw [h] at e; cases e; exact h'.lt
  have Hs := Lib.hid hs
  clear hs hlen hl
  go_enter Tryz.func22, Tryz.ntmps22
  go_wp2_with fail
  refine henv.out.mono ?_
  rintro e w1 ⟨g, rfl, hg, hgs, hb1⟩
  have hm1 := hm.below hb1
  have l1 := mapV_len hm1
  have l2 : ∀ ty, (Builtin.len_ #[54] ty #[.map (some g)]).run Tryz.prog w1 = .ok (.int .i64 (envOf l).length) w1 := fun ty => mapV_len (.inr ⟨g, rfl, hg⟩) ty
  obtain ⟨clock, hr, hit⟩ := hg.range (P := Tryz.prog) Tryz.underlying54
  have hitlt := hit.lt
  go_wp2_with fail
  have hb2 := belowA hb1 (.mapIter (some g) clock #[] clock)
  have hm2 := hm.below hb2
  generalize w1.alloc (.mapIter (some g) clock #[] clock) = wb at hit hb2 hm2 hitlt ⊢
  generalize hitn : w1.heap.size = it at hit hitlt ⊢
  have hig : g < it := by have := hg.lt; omega
  have hwi : w.heap.size ≤ it := by have := hb1.size; omega
  have Hkk := Lib.hid hk
  clear l1 l2 hr hm hm1 hg hb1 hitn hk
  go_loopg [6, 7, 8, 9] (gvs (envOf l)).length (fun gk _ _ _ _ wr => ∃ done, gk + done.length = (gvs (envOf l)).length ∧ IterIs wr it g (gvs (envOf l)) done ∧ Below w.heap.size w wr ∧ MapV wr m kvs ∧ it < wr.heap.size)
  case atStart => exact ⟨[], by simp, hit, hb2, hm2, hitlt⟩
  case round =>
    obtain ⟨done, hcnt, hi, hbw, hmw, hlt⟩ := hrel
    have Hcnt := Lib.hid hcnt
    clear hcnt hit hb2 hm2
    rcases hi.next (P := Tryz.prog) (by omega) 0 with ⟨_, hnx⟩ | ⟨p, w2, hp, hpd, hnx, hi2, hgr, hsz⟩
    · go_wp2_with fail
      go_ret
      exact ⟨rfl, hbw⟩
    · obtain ⟨v, hpv, hmem⟩ := gvs_mem hp
      have hen := hi2.entry (P := Tryz.prog)
      have Hget := Lib.hid ((Hs.out p.1).trans ((envOf_get l p.1).symm.trans (kvGet_mem (envOf_keys l) hmem)))
      have hp2 : p.2 = v.v := by rw [hpv]
      rw [hp2] at hnx hen
      have Hi2 := Lib.hid hi2
      have hb2 := hbw.grown hgr (Nat.le_trans hwi (Nat.le_of_lt hlt)) (by rintro _ ⟨rfl⟩; exact hwi)
      have Hm2 : MapV w2 m kvs := by
        rcases hmw with ⟨rfl, rfl⟩ | ⟨g', rfl, h'⟩
        · exact .inl ⟨rfl, rfl⟩
        · exact .inr ⟨g', rfl, h'.grown hgr (by have := Hgm.out g' rfl; simp; omega)⟩
      have hlk := fun o => mapV_lookup_ok (Hm2.below (belowA (Below.refl _ _) o)) p.1
      rw [Hget.out] at hlk
      simp only [Option.getD_some, Option.isSome_some] at hlk
      have rn := run_neq_value v v
      rw [GV.beq_self] at rn
      clear hpv hp2 hi hi2
      go_wp2_with fail
      have hlen2 := Hi2.out.len
      have hc := Hcnt.out
      simp only [List.length_append, List.length_cons, List.length_nil] at hlen2
      have hz2 : it < w2.heap.size := Hi2.out.lt
      go_roundg (gk - 1)
      case measure => omega
      case rel =>
        exact ⟨done ++ [p], by simp only [List.length_append, List.length_cons, List.length_nil]; omega, ((Hi2.out.below (belowA (Below.refl _ _) _) hz2 Hi2.out.map.lt).below (belowA (Below.refl _ _) _) (by simp; omega) (by simp; have := Hi2.out.map.lt; omega)), belowA (belowA hb2 _) _,
          (Hm2.below (belowA (Below.refl _ _) _)).below (belowA (Below.refl _ _) _), by simp; omega⟩
/-- the value is a map that tells f -/
def EnvIs (w : World) (v : Value) (f : ByteArray → Option GV) : Prop := ∃ kvs, MapV w v kvs ∧ (kvs.map Prod.fst).Nodup ∧ ∀ s, kvGet kvs s = f s
theorem EnvIs.below {w w' : World} {v : Value} {f : ByteArray → Option GV} (h : EnvIs w v f) (hb : Below w.heap.size w w') : EnvIs w' v f := by
  obtain ⟨kvs, h1, h2, h3⟩ := h
  exact ⟨kvs, h1.below hb, h2, h3⟩
theorem EnvIs.lookup {w : World} {v : Value} {f : ByteArray → Option GV} (h : EnvIs w v f) (s : ByteArray) :
    (Instr.lookup 54 v (.string s) true).run Tryz.prog w = .ok (.tuple #[((f s).getD zeroV).v, .bool (f s).isSome]) w := by
  obtain ⟨kvs, h1, h2, h3⟩ := h
  rw [mapV_lookup_ok h1 s, h3]
theorem run_range_nil {P : Program} {w : World} {t k e : TypeId} (ht : P.underlying t = some (.map k e)) :
    (Instr.range t (.map none)).run P w = .ok (.pointer (some ⟨w.heap.size, 0, none⟩)) (w.alloc (.mapIter none 0 #[] 0)) := by
  simp only [Instr.range, Sem.run_bind, run_underlying ht, Result.andThen_ok, Sem.run_pure]
  rfl
theorem run_next_nil {P : Program} {w : World} (o : Obj) (ho : o = .mapIter none 0 #[] 0) {it : Nat} (h : w.heap[it]? = some o) (ty : TypeId) :
    (Instr.next (.pointer (some ⟨it, 0, none⟩)) false ty).run P w = .ok (.tuple #[.bool false]) w := by
  subst ho
  have hgo : (getObj it).run P w = .ok (.mapIter none 0 #[] 0) w := by simp [getObj, Sem.run, h]
  simp [Instr.next, hgo]
theorem kvGet_snoc {α : Type} (l : List (ByteArray × α)) (p : ByteArray × α) (s : ByteArray) : kvGet (l ++ [p]) s = (kvGet l s).or (if p.1 = s then some p.2 else none) := by
  induction l with
  | nil => rw [List.nil_append, kvGet_cons]; simp [kvGet]
  | cons q l ih => rw [List.cons_append, kvGet_cons, kvGet_cons, ih]; split <;> simp
theorem kvGet_memV {α : Type} {l : List (ByteArray × α)} (hn : (l.map Prod.fst).Nodup) {p : ByteArray × α} (hp : p ∈ l) : kvGet l p.1 = some p.2 := by
  induction l with
  | nil => cases hp
  | cons q l ih =>
    rw [kvGet_cons]
    simp only [List.map_cons, List.nodup_cons] at hn
    rcases List.mem_cons.1 hp with rfl | hp
    · simp
    · rw [if_neg (fun e => hn.1 (by rw [e]; exact List.mem_map.2 ⟨p, hp, rfl⟩))]
      exact ih hn.2 hp
theorem mem_kvGet {α : Type} {l : List (ByteArray × α)} {s : ByteArray} {v : α} (h : kvGet l s = some v) : (s, v) ∈ l := by
  induction l with
  | nil => simp [kvGet] at h
  | cons q l ih =>
    rw [kvGet_cons] at h
    split at h
    · rename_i e
      injection h with h
      subst h
      subst e
      simp
    · exact List.mem_cons_of_mem _ (ih h)
theorem gvs_of {dk : List (ByteArray × Value)} (h : ∀ p ∈ dk, ∃ v : GV, p.2 = v.v) : ∃ l, dk = gvs l := by
  induction dk with
  | nil => exact ⟨[], rfl⟩
  | cons p dk ih =>
    obtain ⟨v, hv⟩ := h p (by simp)
    obtain ⟨l, hl⟩ := ih (fun q hq => h q (List.mem_cons_of_mem _ hq))
    exact ⟨(p.1, v) :: l, by rw [hl]; show p :: gvs l = (p.1, v.v) :: gvs l; rw [← hv]⟩
theorem gvs_keys (l : List (ByteArray × GV)) : (gvs l).map Prod.fst = l.map Prod.fst := by simp [gvs]
/-- what has been met, all of it: the same function -/
theorem copied {kvs : List (ByteArray × GV)} {dk done : List (ByteArray × Value)} (hk : (kvs.map Prod.fst).Nodup) (hdk : (dk.map Prod.fst).Nodup) (h1 : ∀ s, kvGet dk s = kvGet done s) (h2 : ∀ p ∈ gvs kvs, p ∈ done) (h3 : ∀ p ∈ done, p ∈ gvs kvs) :
    ∃ l, dk = gvs l ∧ (l.map Prod.fst).Nodup ∧ ∀ s, kvGet l s = kvGet kvs s := by
  have hk' : ((gvs kvs).map Prod.fst).Nodup := by rw [gvs_keys]; exact hk
  have hget : ∀ s, kvGet dk s = kvGet (gvs kvs) s := by
    intro s
    rw [h1]
    cases hg : kvGet (gvs kvs) s with
    | some v =>
      have hm := h2 _ (mem_kvGet hg)
      cases hd : kvGet done s with
      | some v' =>
        have := kvGet_memV hk' (h3 _ (mem_kvGet hd))
        simp only [] at this
        rw [← this, hg]
      | none =>
        rcases Option.isSome_iff_exists.1 (show (kvGet done s).isSome = true by
          have : ∀ (l : List (ByteArray × Value)), (s, v) ∈ l → (kvGet l s).isSome = true := by
            intro l hl
            induction l with
            | nil => cases hl
            | cons q l ih =>
              rw [kvGet_cons]
              split
              · rfl
              · rename_i hne
                rcases List.mem_cons.1 hl with h | h
                · subst h; exact absurd rfl hne
                · exact ih h
          exact this done hm) with ⟨x, hx⟩
        rw [hd] at hx; cases hx
    | none =>
      cases hd : kvGet done s with
      | none => rfl
      | some v' =>
        have := kvGet_memV hk' (h3 _ (mem_kvGet hd))
        simp only [] at this
        rw [hg] at this; cases this
  obtain ⟨l, rfl⟩ := gvs_of (dk := dk) (fun p hp => by
    have h := kvGet_memV hdk hp
    rw [hget, gvs_get] at h
    cases hh : kvGet kvs p.1 with
    | none => rw [hh] at h; cases h
    | some v => rw [hh] at h; simp at h; exact ⟨v, h.symm⟩)
  refine ⟨l, rfl, by rw [← gvs_keys]; exact hdk, fun s => ?_⟩
  have h := hget s
  rw [gvs_get, gvs_get] at h
  have inj : ∀ a b : GV, a.v = b.v → a = b := by
    intro a b h
    cases a; cases b
    simp only [GV.v, Value.agg.injEq] at h
    have h := congrArg Array.toList h
    simp at h
    obtain ⟨rfl, rfl, rfl⟩ := h
    rfl
  cases ha : kvGet l s with
  | none => cases hb : kvGet kvs s with
    | none => rfl
    | some b => rw [ha, hb] at h; cases h
  | some a => cases hb : kvGet kvs s with
    | none => rw [ha, hb] at h; cases h
    | some b => rw [ha, hb] at h; simp only [Option.map_some, Option.some.injEq] at h; rw [inj a b h]
def CopiedInto (gd : Nat) (f : ByteArray → Option GV) (B : Nat) (w : World) (e : Ending) (w' : World) : Prop :=
  e = .returned (.tuple #[]) ∧ (∃ l, MapIs w' gd (gvs l) ∧ (l.map Prod.fst).Nodup ∧ ∀ s, kvGet l s = f s) ∧ Below B w w'
set_option maxRecDepth 100000 in
set_option maxHeartbeats 800000 in
theorem mapsCopy_any (gd : Nat) (m : Value) (f : ByteArray → Option GV) (B : Nat) (w : World) (hd : MapIs w gd []) (hm : EnvIs w m f) (hB : B ≤ gd) (hmd : ∀ g, m = .map (some g) → g < B) :
    Calls Tryz.prog 101 #[.map (some gd), m] w (CopiedInto gd f B w) := by
  obtain ⟨kvs, hmv, hk, hf⟩ := hm
  rcases hmv with ⟨rfl, rfl⟩ | ⟨g, rfl, hg⟩
  · have hr := run_range_nil (P := Tryz.prog) (w := w) Tryz.underlying54
    have hnx := run_next_nil (P := Tryz.prog) (w := w.alloc (.mapIter none 0 #[] 0)) _ rfl (heapNew rfl) 0
    have hdd : MapIs (w.alloc (.mapIter none 0 #[] 0)) gd [] := hd.alloc _
    have hbb : Below B w (w.alloc (.mapIter none 0 #[] 0)) := (Below.refl _ _).alloc (by have := hd.lt; omega) _
    have Hf := Lib.hid hf
    clear hf hmd
    go_enter Tryz.func101, Tryz.ntmps101
    go_wp2_with fail
    go_loopg [4, 5] 1 (fun _ _ _ wr => wr = w.alloc (.mapIter none 0 #[] 0))
    case atStart => rfl
    case round =>
      subst hrel
      go_wp2_with fail
      go_end0
      exact ⟨rfl, ⟨[], hdd, by simp, fun s => by rw [← Hf.out]⟩, hbb⟩
  · obtain ⟨clock, hr, hit⟩ := hg.range (P := Tryz.prog) Tryz.underlying54
    have hgB := hmd g rfl
    have hgd := hd.lt
    have hda := hd.alloc (.mapIter (some g) clock #[] clock)
    have hba : Below B w (w.alloc (.mapIter (some g) clock #[] clock)) := (Below.refl _ _).alloc (by omega) _
    have hitlt := hit.lt
    have Hf := Lib.hid hf
    have Hk := Lib.hid hk
    clear hf hmd hk hd hg
    go_enter Tryz.func101, Tryz.ntmps101
    go_wp2_with fail
    clear hr
    generalize w.alloc (.mapIter (some g) clock #[] clock) = wb at hit hba hda hitlt ⊢
    generalize hitn : w.heap.size = it at hit hitlt ⊢
    have hdi : gd < it := by omega
    go_loopg [4, 5] (gvs kvs).length (fun gk _ _ wr => ∃ done dk, gk + done.length = (gvs kvs).length ∧ IterIs wr it g (gvs kvs) done ∧ MapIs wr gd dk ∧ Hid (∀ s, kvGet dk s = kvGet done s) ∧ Below B w wr ∧ it < wr.heap.size)
    case atStart => exact ⟨[], [], by simp, hit, hda, fun _ => rfl, hba, hitlt⟩
    case round =>
      obtain ⟨done, dk, hcnt, hi, hdm, hsame, hbw, hlt⟩ := hrel
      have Hcnt := Lib.hid hcnt
      clear hcnt hit hba hda
      rcases hi.next (P := Tryz.prog) (by omega) 0 with ⟨hall, hnx⟩ | ⟨p, w2, hp, hpd, hnx, hi2, hgr, hsz⟩
      · have hfin := Lib.hid (copied Hk.out hdm.keys hsame.out hall hi.sub)
        clear hall
        go_wp2_with fail
        go_end0
        obtain ⟨l, rfl, h1, h2⟩ := hfin.out
        exact ⟨rfl, ⟨l, hdm, h1, fun s => by rw [h2, Hf.out]⟩, hbw⟩
      · obtain ⟨v, hpv, hmem⟩ := gvs_mem hp
        have hen := hi2.entry (P := Tryz.prog)
        have hp2 : p.2 = v.v := by rw [hpv]
        rw [hp2] at hnx hen
        have Hi2 := Lib.hid hi2
        have hb2 := hbw.grown hgr (by omega) (by rintro _ ⟨rfl⟩; omega)
        have hd2 := hdm.grown hgr (by simp; omega)
        obtain ⟨w3, hup, hd3, hgr3, hsz3⟩ := (hd2.alloc (.cells #[.int .i64 v.k, .int .i64 v.n, .string v.s] 28)).update (P := Tryz.prog) (t := 54) (e := 28) Tryz.underlying54 Tryz.underlying9 p.1 v.v
        have Hp2 := Lib.hid hp2
        clear hpv hp2 hi hi2
        have hpk : p.1 ∉ done.map Prod.fst := by
          intro h
          obtain ⟨q, hq, hqp⟩ := List.mem_map.1 h
          have := key_inj Hi2.out.keys (Hi2.out.sub q (by simp [hq])) hp hqp
          exact hpd (this ▸ hq)
        have Hpk := Lib.hid hpk
        clear hpk hpd hp
        go_wp2_with fail
        have hlen2 := Hi2.out.len
        have hc := Hcnt.out
        simp only [List.length_append, List.length_cons, List.length_nil] at hlen2
        have hz2 : it < w2.heap.size := Hi2.out.lt
        have hb3 := (hb2.alloc (by omega) (.cells #[.int .i64 v.k, .int .i64 v.n, .string v.s] 28)).grown hgr3 (by simp; omega) (by rintro _ ⟨rfl⟩; exact hB)
        go_roundg (gk - 1)
        case measure => omega
        case rel =>
          refine ⟨done ++ [p], kvSet dk p.1 v.v, by simp only [List.length_append, List.length_cons, List.length_nil]; omega, ?_, hd3, fun s => ?_, hb3, by rw [hsz3]; simp; omega⟩
          · have h5 := Hi2.out.below (belowA (Below.refl _ _) (.cells #[.int .i64 v.k, .int .i64 v.n, .string v.s] 28)) hz2 Hi2.out.map.lt
            have h6 := Hi2.out.map.lt
            exact h5.same (hgr3.block it (by simp; omega) (by simp; omega)) (hgr3.block g (by simp; omega) (by simp; omega))
          · rw [kvGet_set, kvGet_snoc, ← hsame.out, Hp2.out]
            by_cases e : p.1 = s
            · have hn : kvGet dk s = none := by
                rw [hsame.out]
                cases hh : kvGet done s with
                | none => rfl
                | some x => exact absurd (List.mem_map.2 ⟨_, mem_kvGet hh, e.symm⟩) Hpk.out
              simp [e, hn]
            · simp [e]
def EnvRet (f : ByteArray → Option GV) (w : World) (e : Ending) (w' : World) : Prop :=
  ∃ g l, e = .returned (.map (some g)) ∧ w.heap.size ≤ g ∧ MapIs w' g (gvs l) ∧ (l.map Prod.fst).Nodup ∧ (∀ s, kvGet l s = f s) ∧ Below w.heap.size w w'
theorem EnvIs.blk {w : World} {v : Value} {f : ByteArray → Option GV} (h : EnvIs w v f) : ∀ g, v = .map (some g) → g < w.heap.size := by
  intro g e
  obtain ⟨kvs, h1, _⟩ := h
  rcases h1 with ⟨h1, _⟩ | ⟨g2, h1, h'⟩
  · rw [h1] at e; cases e
  · rw [h1] at e; cases e; exact h'.lt
set_option maxRecDepth 100000 in
set_option maxHeartbeats 400000 in
theorem copy_any (m : Value) (f : ByteArray → Option GV) (w : World) (hm : EnvIs w m f) : Calls Tryz.prog 23 #[m] w (EnvRet f w) := by
  have hmm := @run_makeMap Tryz.prog
  have hc := Lib.hid (mapsCopy_any w.heap.size m f w.heap.size (w.alloc (.map #[] 0)) MapIs.made (hm.below (belowA (Below.refl _ _) _)) (Nat.le_refl _) hm.blk)
  clear hm
  go_enter Tryz.func23, Tryz.ntmps23
  go_wp2_with fail
  refine hc.out.mono ?_
  rintro e w1 ⟨rfl, ⟨l, h1, h2, h3⟩, hb⟩
  go_wp2_with fail
  go_ret
  exact ⟨_, l, rfl, Nat.le_refl _, h1, h2, h3, (belowA (Below.refl _ _) _).trans hb⟩
end Go.Proofs.YtgabkmibfhmkmaaGreatDoor

namespace Go.Proofs.YtgabkmibfhmkmaaGreatDoor
open Go.RowKit
abbrev GTold.v' (t : GTold) : Value := .agg #[.string t.x, .int .i64 t.v.k, .int .i64 t.v.n, .string t.v.s]
def TermErr (p : GV × Int) (err : Int → Value) (w : World) (e : Ending) (w' : World) : Prop :=
  e = .returned (.tuple #[p.1.v, err p.2]) ∧ Below w.heap.size w w'
set_option maxRecDepth 100000 in
set_option maxHeartbeats 1000000 in
theorem aterm_any (m : Value) (f : ByteArray → Option GV) (t : GTold) (w : World) (hm : EnvIs w m f) :
    Calls Tryz.prog 179 #[t.v', m] w (TermErr (termS f t) (errV 66) w) := by
  by_cases hem : t.x.toList = []
  · have hem0 : t.x.size = 0 := str_empty.1 hem
    have he1 : t.x.toList.isEmpty = true := by simp [hem]
    have hr := fun W => right_any t.v W
    cases hb : rightB t.v with
    | true =>
      have HR : Hid (termS f t = (t.v, 0)) := by show termS f t = (t.v, 0); simp [termS, hem0, hb]
      rw [hb] at hr
      have hr := Lib.hid hr
      clear hem hem0 hb hm
      go_enter Tryz.func179, Tryz.ntmps179
      go_wp2_with fail
      refine (hr.out _).mono ?_
      rintro e w1 ⟨rfl, hb⟩
      obtain ⟨hc, hf⟩ := bcell hb
      have hz := hb.size
      have hb := Lib.hid hb
      simp only [World.size_alloc, Nat.add_one_le_iff] at hz hc hf
      go_wp2_with fail
      exact bodyPost_ret (v := .tuple #[t.v.v, .nilIface]) (by simp [results, Tryz.results179, go_sem, hc]) rfl ⟨by rw [HR.out]; rfl, ((below_next (belowA (belowA (Below.refl _ _) _) _) hb.out).setCell (by simp) _).setCell (by simp) _ |>.setCell (by simp) _⟩
    | false =>
      have HR : Hid (termS f t = (gv0, 2)) := by show termS f t = (gv0, 2); simp [termS, hem0, hb]
      rw [hb] at hr
      have hr := Lib.hid hr
      clear hem hem0 hb hm
      go_enter Tryz.func179, Tryz.ntmps179
      go_wp2_with fail
      refine (hr.out _).mono ?_
      rintro e w1 ⟨rfl, hb⟩
      obtain ⟨hc, hf⟩ := bcell hb
      have hz := hb.size
      have hb := Lib.hid hb
      simp only [World.size_alloc, Nat.add_one_le_iff] at hz hc hf
      go_wp2_with fail
      exact bodyPost_ret (v := .tuple #[gv0.v, .iface 66 (.int .i64 2)]) (by simp [results, Tryz.results179, go_sem, hc, gv0]) rfl ⟨by rw [HR.out]; rfl, ((below_next (belowA (belowA (Below.refl _ _) _) _) hb.out).setCell (by simp) _).setCell (by simp) _ |>.setCell (by simp) _⟩
  · have hem0 : ¬ t.x.size = 0 := fun h => hem (str_empty.2 h)
    have he1 : t.x.toList.isEmpty = false := by simpa using hem
    have hlkp := fun o1 o2 => (hm.below (belowA (belowA (Below.refl w.heap.size w) o1) o2)).lookup t.x
    clear hm
    cases hfx : f t.x with
    | none =>
      have HR : Hid (termS f t = (gv0, 13)) := by show termS f t = (gv0, 13); simp [termS, hem0, hfx]
      rw [hfx] at hlkp
      simp only [Option.getD_none, Option.isSome_none] at hlkp
      clear hem hem0 hfx
      go_enter Tryz.func179, Tryz.ntmps179
      go_wp2_with fail
      exact bodyPost_ret (v := .tuple #[gv0.v, .iface 66 (.int .i64 13)]) (by simp [results, Tryz.results179, go_sem, gv0]) rfl ⟨by rw [HR.out]; rfl, belowA (belowA (belowA (Below.refl _ _) _) _) _⟩
    | some v =>
      rw [hfx] at hlkp
      simp only [Option.getD_some, Option.isSome_some] at hlkp
      have hr := fun W => right_any v W
      cases hb : rightB v with
      | true =>
        have HR : Hid (termS f t = (v, 0)) := by show termS f t = (v, 0); simp [termS, hem0, hfx, hb]
        rw [hb] at hr
        have hr := Lib.hid hr
        clear hem hem0 hb hfx
        go_enter Tryz.func179, Tryz.ntmps179
        go_wp2_with fail
        refine (hr.out _).mono ?_
        rintro e w1 ⟨rfl, hb⟩
        obtain ⟨hc, hf⟩ := bcell hb
        have hz := hb.size
        have hb := Lib.hid hb
        simp only [World.size_alloc, Nat.add_one_le_iff] at hz hc hf
        go_wp2_with fail
        exact bodyPost_ret (v := .tuple #[v.v, .nilIface]) (by simp [results, Tryz.results179, go_sem, hc]) rfl ⟨by rw [HR.out]; rfl, ((below_next (belowA (belowA (belowA (Below.refl _ _) _) _) _) hb.out).setCell (by simp) _).setCell (by simp) _ |>.setCell (by simp) _⟩
      | false =>
        have HR : Hid (termS f t = (gv0, 13)) := by show termS f t = (gv0, 13); simp [termS, hem0, hfx, hb]
        rw [hb] at hr
        have hr := Lib.hid hr
        clear hem hem0 hb hfx
        go_enter Tryz.func179, Tryz.ntmps179
        go_wp2_with fail
        refine (hr.out _).mono ?_
        rintro e w1 ⟨rfl, hb⟩
        obtain ⟨hc, hf⟩ := bcell hb
        have hz := hb.size
        have hb := Lib.hid hb
        simp only [World.size_alloc, Nat.add_one_le_iff] at hz hc hf
        go_wp2_with fail
        exact bodyPost_ret (v := .tuple #[gv0.v, .iface 66 (.int .i64 13)]) (by simp [results, Tryz.results179, go_sem, hc, gv0]) rfl ⟨by rw [HR.out]; rfl, ((below_next (belowA (belowA (belowA (Below.refl _ _) _) _) _) hb.out).setCell (by simp) _).setCell (by simp) _ |>.setCell (by simp) _⟩
def Got (v : GV) (b : Bool) (w : World) (e : Ending) (w' : World) : Prop := e = .returned (.tuple #[v.v, .bool b]) ∧ Below w.heap.size w w'
theorem get_none {f : Nat} {args : Array Value} {W : World} {l : List GTold} {s : ByteArray} (h : Calls Tryz.prog f args W (GetPost l s W)) (e : getT l s = none) : Calls Tryz.prog f args W (Got gv0 false W) :=
  h.mono fun _ _ ⟨h1, h2⟩ => ⟨by rw [h1, e]; rfl, h2⟩
theorem get_some {f : Nat} {args : Array Value} {W : World} {l : List GTold} {s : ByteArray} {v : GV} (h : Calls Tryz.prog f args W (GetPost l s W)) (e : getT l s = some v) : Calls Tryz.prog f args W (Got v true W) :=
  h.mono fun _ _ ⟨h1, h2⟩ => ⟨by rw [h1, e]; rfl, h2⟩
set_option maxRecDepth 100000 in
set_option maxHeartbeats 1000000 in
theorem refAterm_any (t : GTold) (A : Option Addr) (n c : Nat) (l : List GTold) (w : World) (hl : SliceIs Enc.told w w.heap.size A n c l) (ht : t.v.ok) (hok : ∀ s v, getT l s = some v → v.ok) :
    Calls Tryz.prog 183 #[t.v', .slice A n c] w (TermErr (termS (getT l) t) (fun e => .int .i64 e) w) := by
  have Hl := Lib.hid hl
  clear hl
  by_cases hem : t.x.toList = []
  · have hem0 : t.x.size = 0 := str_empty.1 hem
    have he1 : ¬ (0 : Int) < (t.x.size : Int) := by
      have h := congrArg List.length hem
      rw [ByteArray.toList_eq] at h
      have : t.x.size = 0 := h
      omega
    have hr := fun W => refRight_any t.v ht W
    cases hb : rightB t.v with
    | true =>
      have HR : Hid (termS (getT l) t = (t.v, 0)) := by show termS (getT l) t = (t.v, 0); simp [termS, hem0, hb]
      rw [hb] at hr
      have hr := Lib.hid hr
      clear hem hem0 hb hok ht
      go_enter Tryz.func183, Tryz.ntmps183
      go_wp2_with fail
      refine (hr.out _).mono ?_
      rintro e w1 ⟨rfl, hb⟩
      obtain ⟨hc, hf⟩ := bcell hb
      have hz := hb.size
      have hb := Lib.hid hb
      simp only [World.size_alloc, Nat.add_one_le_iff] at hz hc hf
      go_wp2_with fail
      exact bodyPost_ret (v := .tuple #[t.v.v, .int .i64 0]) (by simp [results, Tryz.results183, go_sem, hc]) rfl ⟨by rw [HR.out], ((below_next (belowA (belowA (Below.refl _ _) _) _) hb.out).setCell (by simp) _).setCell (by simp) _ |>.setCell (by simp) _⟩
    | false =>
      have HR : Hid (termS (getT l) t = (gv0, 2)) := by show termS (getT l) t = (gv0, 2); simp [termS, hem0, hb]
      rw [hb] at hr
      have hr := Lib.hid hr
      clear hem hem0 hb hok ht
      go_enter Tryz.func183, Tryz.ntmps183
      go_wp2_with fail
      refine (hr.out _).mono ?_
      rintro e w1 ⟨rfl, hb⟩
      obtain ⟨hc, hf⟩ := bcell hb
      have hz := hb.size
      have hb := Lib.hid hb
      simp only [World.size_alloc, Nat.add_one_le_iff] at hz hc hf
      go_wp2_with fail
      exact bodyPost_ret (v := .tuple #[gv0.v, .int .i64 2]) (by simp [results, Tryz.results183, go_sem, hc, gv0]) rfl ⟨by rw [HR.out], ((below_next (belowA (belowA (Below.refl _ _) _) _) hb.out).setCell (by simp) _).setCell (by simp) _ |>.setCell (by simp) _⟩
  · have hem0 : ¬ t.x.size = 0 := fun h => hem (str_empty.2 h)
    have he1 : (0 : Int) < (t.x.size : Int) := by
      have h : t.x.size ≠ 0 := fun h => hem (by rw [ByteArray.toList_eq]; exact List.eq_nil_of_length_eq_zero h)
      omega
    have Hok := Lib.hid hok
    clear hok ht
    have hg := fun W (h : Below w.heap.size w W) => get_any A n c l t.x W (Hl.out.keep h)
    cases hfx : getT l t.x with
    | none =>
      have HR : Hid (termS (getT l) t = (gv0, 13)) := by show termS (getT l) t = (gv0, 13); simp [termS, hem0, hfx]
      have hg := Lib.hid (fun W h => get_none (hg W h) hfx)
      clear hem hem0 hfx
      go_enter Tryz.func183, Tryz.ntmps183
      go_wp2_with fail
      refine (hg.out _ (belowA (belowA (Below.refl _ _) _) _)).mono ?_
      rintro e w1 ⟨rfl, hb⟩
      obtain ⟨hc, hf⟩ := bcell hb
      have hz := hb.size
      have hb := Lib.hid hb
      simp only [World.size_alloc, Nat.add_one_le_iff] at hz hc hf
      go_wp2_with fail
      exact bodyPost_ret (v := .tuple #[gv0.v, .int .i64 13]) (by simp [results, Tryz.results183, go_sem, hc, hz, gv0]) rfl ⟨by rw [HR.out], belowA (((below_next (belowA (belowA (Below.refl _ _) _) _) hb.out).setCell (by simp) _).setCell (by simp) _ |>.setCell (by simp) _) _⟩
    | some v =>
      have hg := Lib.hid (fun W h => get_some (hg W h) hfx)
      have hr := fun W => refRight_any v (Hok.out _ _ hfx) W
      cases hb : rightB v with
      | true =>
        have HR : Hid (termS (getT l) t = (v, 0)) := by show termS (getT l) t = (v, 0); simp [termS, hem0, hfx, hb]
        rw [hb] at hr
        have hr := Lib.hid hr
        clear hem hem0 hb hfx
        go_enter Tryz.func183, Tryz.ntmps183
        go_wp2_with fail
        refine (hg.out _ (belowA (belowA (Below.refl _ _) _) _)).mono ?_
        rintro e w1 ⟨rfl, hb⟩
        obtain ⟨hc, hf⟩ := bcell hb
        have hz := hb.size
        have hb := Lib.hid hb
        simp only [World.size_alloc, Nat.add_one_le_iff] at hz hc hf
        go_wp2_with fail
        refine (hr.out _).mono ?_
        rintro e w2 ⟨rfl, hb2⟩
        obtain ⟨hc2, hf2⟩ := bcell hb2
        have hz2 := hb2.size
        have hb2 := Lib.hid hb2
        simp only [World.size_alloc, Nat.add_one_le_iff] at hz2 hc2 hf2
        have hz3 : w.heap.size + 1 < w1.heap.size + 1 := by omega
        have hz4 : w.heap.size + 1 < w2.heap.size := by omega
        go_wp2_with fail
        exact bodyPost_ret (v := .tuple #[v.v, .int .i64 0]) (by simp [results, Tryz.results183, go_sem, hc, hc2, hz, hz3]) rfl ⟨by rw [HR.out], ((below_next (belowA (below_next (belowA (belowA (Below.refl _ _) _) _) hb.out) _) hb2.out).setCell (by simp) _).setCell (by simp) _ |>.setCell (by simp) _⟩
      | false =>
        have HR : Hid (termS (getT l) t = (gv0, 13)) := by show termS (getT l) t = (gv0, 13); simp [termS, hem0, hfx, hb]
        rw [hb] at hr
        have hr := Lib.hid hr
        clear hem hem0 hb hfx
        go_enter Tryz.func183, Tryz.ntmps183
        go_wp2_with fail
        refine (hg.out _ (belowA (belowA (Below.refl _ _) _) _)).mono ?_
        rintro e w1 ⟨rfl, hb⟩
        obtain ⟨hc, hf⟩ := bcell hb
        have hz := hb.size
        have hb := Lib.hid hb
        simp only [World.size_alloc, Nat.add_one_le_iff] at hz hc hf
        go_wp2_with fail
        refine (hr.out _).mono ?_
        rintro e w2 ⟨rfl, hb2⟩
        obtain ⟨hc2, hf2⟩ := bcell hb2
        have hz2 := hb2.size
        have hb2 := Lib.hid hb2
        simp only [World.size_alloc, Nat.add_one_le_iff] at hz2 hc2 hf2
        have hz3 : w.heap.size + 1 < w1.heap.size + 1 := by omega
        have hz4 : w.heap.size + 1 < w2.heap.size := by omega
        go_wp2_with fail
        exact bodyPost_ret (v := .tuple #[gv0.v, .int .i64 13]) (by simp [results, Tryz.results183, go_sem, hc, hc2, hz, hz3, gv0]) rfl ⟨by rw [HR.out], ((below_next (belowA (below_next (belowA (belowA (Below.refl _ _) _) _) hb.out) _) hb2.out).setCell (by simp) _).setCell (by simp) _ |>.setCell (by simp) _⟩
end Go.Proofs.YtgabkmibfhmkmaaGreatDoor
