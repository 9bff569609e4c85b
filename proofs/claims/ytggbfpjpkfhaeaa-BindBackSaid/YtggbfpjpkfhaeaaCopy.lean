/- arith.Copy: an environment in new memory. -/
import Derived.Test.YtggbfpjpkfhaeaaSame
namespace Go.Proofs.Ytggbfpjpkfhaeaa
open Go.RowKit

/-- the value is a map that tells f -/
def EnvIs (w : World) (v : Value) (f : ByteArray → Option GV) : Prop := ∃ kvs, MapV w v kvs ∧ (kvs.map Prod.fst).Nodup ∧ ∀ s, kvGet kvs s = f s
theorem EnvIs.below {w w' : World} {v : Value} {f : ByteArray → Option GV} (h : EnvIs w v f) (hb : Below w.heap.size w w') : EnvIs w' v f := by
  obtain ⟨kvs, h1, h2, h3⟩ := h
  exact ⟨kvs, h1.below hb, h2, h3⟩
theorem EnvIs.lookup {w : World} {v : Value} {f : ByteArray → Option GV} (h : EnvIs w v f) (s : ByteArray) :
    (Instr.lookup 35 v (.string s) true).run Try.prog w = .ok (.tuple #[((f s).getD zeroV).v, .bool (f s).isSome]) w := by
  obtain ⟨kvs, h1, h2, h3⟩ := h
  rw [mapV_lookup_ok h1 s, h3]

theorem run_range_nil {P : Program} {w : World} {t k e : TypeId} (ht : P.underlying t = some (.map k e)) :
    (Instr.range t (.map none)).run P w = .ok (.pointer (some ⟨w.heap.size, 0, none⟩)) (w.alloc (.mapIter none 0 #[] 0)) := by
  simp only [Instr.range, Sem.run_bind, run_underlying ht, Result.andThen_ok, Sem.run_pure]
  rfl
theorem run_next_nil {P : Program} {w : World} (o : Obj) (ho : o = .mapIter none 0 #[] 0) {it : Nat} (h : w.heap[it]? = some o) (ty : TypeId) :
    (Instr.next (.pointer (some ⟨it, 0, none⟩)) false ty).run P w = .ok (.tuple #[.bool false]) w := by
  subst ho
  have hgo : (getObj it).run P w = .ok (.mapIter none 0 #[] 0) w := by simp [getObj, Sem.run, h]
  simp [Instr.next, hgo]

theorem kvGet_snoc {α : Type} (l : List (ByteArray × α)) (p : ByteArray × α) (s : ByteArray) : kvGet (l ++ [p]) s = (kvGet l s).or (if p.1 = s then some p.2 else none) := by
  induction l with
  | nil => rw [List.nil_append, kvGet_cons]; simp [kvGet]
  | cons q l ih => rw [List.cons_append, kvGet_cons, kvGet_cons, ih]; split <;> simp
theorem kvGet_memV {α : Type} {l : List (ByteArray × α)} (hn : (l.map Prod.fst).Nodup) {p : ByteArray × α} (hp : p ∈ l) : kvGet l p.1 = some p.2 := by
  induction l with
  | nil => cases hp
  | cons q l ih =>
    rw [kvGet_cons]
    simp only [List.map_cons, List.nodup_cons] at hn
    rcases List.mem_cons.1 hp with rfl | hp
    · simp
    · rw [if_neg (fun e => hn.1 (by rw [e]; exact List.mem_map.2 ⟨p, hp, rfl⟩))]
      exact ih hn.2 hp
theorem mem_kvGet {α : Type} {l : List (ByteArray × α)} {s : ByteArray} {v : α} (h : kvGet l s = some v) : (s, v) ∈ l := by
  induction l with
  | nil => simp [kvGet] at h
  | cons q l ih =>
    rw [kvGet_cons] at h
    split at h
    · rename_i e
      injection h with h
      subst h
      subst e
      simp
    · exact List.mem_cons_of_mem _ (ih h)
theorem gvs_of {dk : List (ByteArray × Value)} (h : ∀ p ∈ dk, ∃ v : GV, p.2 = v.v) : ∃ l, dk = gvs l := by
  induction dk with
  | nil => exact ⟨[], rfl⟩
  | cons p dk ih =>
    obtain ⟨v, hv⟩ := h p (by simp)
    obtain ⟨l, hl⟩ := ih (fun q hq => h q (List.mem_cons_of_mem _ hq))
    exact ⟨(p.1, v) :: l, by rw [hl]; show p :: gvs l = (p.1, v.v) :: gvs l; rw [← hv]⟩
theorem gvs_keys (l : List (ByteArray × GV)) : (gvs l).map Prod.fst = l.map Prod.fst := by simp [gvs]

/-- what has been met, all of it: the same function -/
theorem copied {kvs : List (ByteArray × GV)} {dk done : List (ByteArray × Value)} (hk : (kvs.map Prod.fst).Nodup) (hdk : (dk.map Prod.fst).Nodup) (h1 : ∀ s, kvGet dk s = kvGet done s) (h2 : ∀ p ∈ gvs kvs, p ∈ done) (h3 : ∀ p ∈ done, p ∈ gvs kvs) :
    ∃ l, dk = gvs l ∧ (l.map Prod.fst).Nodup ∧ ∀ s, kvGet l s = kvGet kvs s := by
  have hk' : ((gvs kvs).map Prod.fst).Nodup := by rw [gvs_keys]; exact hk
  have hget : ∀ s, kvGet dk s = kvGet (gvs kvs) s := by
    intro s
    rw [h1]
    cases hg : kvGet (gvs kvs) s with
    | some v =>
      have hm := h2 _ (mem_kvGet hg)
      cases hd : kvGet done s with
      | some v' =>
        have := kvGet_memV hk' (h3 _ (mem_kvGet hd))
        simp only [] at this
        rw [← this, hg]
      | none =>
        rcases Option.isSome_iff_exists.1 (show (kvGet done s).isSome = true by
          have : ∀ (l : List (ByteArray × Value)), (s, v) ∈ l → (kvGet l s).isSome = true := by
            intro l hl
            induction l with
            | nil => cases hl
            | cons q l ih =>
              rw [kvGet_cons]
              split
              · rfl
              · rename_i hne
                rcases List.mem_cons.1 hl with h | h
                · subst h; exact absurd rfl hne
                · exact ih h
          exact this done hm) with ⟨x, hx⟩
        rw [hd] at hx; cases hx
    | none =>
      cases hd : kvGet done s with
      | none => rfl
      | some v' =>
        have := kvGet_memV hk' (h3 _ (mem_kvGet hd))
        simp only [] at this
        rw [hg] at this; cases this
  obtain ⟨l, rfl⟩ := gvs_of (dk := dk) (fun p hp => by
    have h := kvGet_memV hdk hp
    rw [hget, gvs_get] at h
    cases hh : kvGet kvs p.1 with
    | none => rw [hh] at h; cases h
    | some v => rw [hh] at h; simp at h; exact ⟨v, h.symm⟩)
  refine ⟨l, rfl, by rw [← gvs_keys]; exact hdk, fun s => ?_⟩
  have h := hget s
  rw [gvs_get, gvs_get] at h
  have inj : ∀ a b : GV, a.v = b.v → a = b := by
    intro a b h
    cases a; cases b
    simp only [GV.v, Value.agg.injEq] at h
    have h := congrArg Array.toList h
    simp at h
    obtain ⟨rfl, rfl, rfl⟩ := h
    rfl
  cases ha : kvGet l s with
  | none => cases hb : kvGet kvs s with
    | none => rfl
    | some b => rw [ha, hb] at h; cases h
  | some a => cases hb : kvGet kvs s with
    | none => rw [ha, hb] at h; cases h
    | some b => rw [ha, hb] at h; simp only [Option.map_some, Option.some.injEq] at h; rw [inj a b h]

def CopiedInto (gd : Nat) (f : ByteArray → Option GV) (B : Nat) (w : World) (e : Ending) (w' : World) : Prop :=
  e = .returned (.tuple #[]) ∧ (∃ l, MapIs w' gd (gvs l) ∧ (l.map Prod.fst).Nodup ∧ ∀ s, kvGet l s = f s) ∧ Below B w w'

set_option maxRecDepth 100000 in
set_option maxHeartbeats 800000 in
theorem mapsCopy_any (gd : Nat) (m : Value) (f : ByteArray → Option GV) (B : Nat) (w : World) (hd : MapIs w gd []) (hm : EnvIs w m f) (hB : B ≤ gd) (hmd : ∀ g, m = .map (some g) → g < B) :
    Calls Try.prog 54 #[.map (some gd), m] w (CopiedInto gd f B w) := by
  obtain ⟨kvs, hmv, hk, hf⟩ := hm
  rcases hmv with ⟨rfl, rfl⟩ | ⟨g, rfl, hg⟩
  · have hr := run_range_nil (P := Try.prog) (w := w) Try.underlying35
    have hnx := run_next_nil (P := Try.prog) (w := w.alloc (.mapIter none 0 #[] 0)) _ rfl (heapNew rfl) 0
    have hdd : MapIs (w.alloc (.mapIter none 0 #[] 0)) gd [] := hd.alloc _
    have hbb : Below B w (w.alloc (.mapIter none 0 #[] 0)) := (Below.refl _ _).alloc (by have := hd.lt; omega) _
    have Hf := Lib.hid hf
    clear hf hmd
    go_enter Try.func54, Try.ntmps54
    go_wp2_with fail
    go_loopg [4, 5] 1 (fun _ _ _ wr => wr = w.alloc (.mapIter none 0 #[] 0))
    case atStart => rfl
    case round =>
      subst hrel
      go_wp2_with fail
      go_end0
      exact ⟨rfl, ⟨[], hdd, by simp, fun s => by rw [← Hf.out]⟩, hbb⟩
  · obtain ⟨clock, hr, hit⟩ := hg.range (P := Try.prog) Try.underlying35
    have hgB := hmd g rfl
    have hgd := hd.lt
    have hda := hd.alloc (.mapIter (some g) clock #[] clock)
    have hba : Below B w (w.alloc (.mapIter (some g) clock #[] clock)) := (Below.refl _ _).alloc (by omega) _
    have hitlt := hit.lt
    have Hf := Lib.hid hf
    have Hk := Lib.hid hk
    clear hf hmd hk hd hg
    go_enter Try.func54, Try.ntmps54
    go_wp2_with fail
    clear hr
    generalize w.alloc (.mapIter (some g) clock #[] clock) = wb at hit hba hda hitlt ⊢
    generalize hitn : w.heap.size = it at hit hitlt ⊢
    have hdi : gd < it := by omega
    go_loopg [4, 5] (gvs kvs).length (fun gk _ _ wr => ∃ done dk, gk + done.length = (gvs kvs).length ∧ IterIs wr it g (gvs kvs) done ∧ MapIs wr gd dk ∧ Hid (∀ s, kvGet dk s = kvGet done s) ∧ Below B w wr ∧ it < wr.heap.size)
    case atStart => exact ⟨[], [], by simp, hit, hda, fun _ => rfl, hba, hitlt⟩
    case round =>
      obtain ⟨done, dk, hcnt, hi, hdm, hsame, hbw, hlt⟩ := hrel
      have Hcnt := Lib.hid hcnt
      clear hcnt hit hba hda
      rcases hi.next (P := Try.prog) (by omega) 0 with ⟨hall, hnx⟩ | ⟨p, w2, hp, hpd, hnx, hi2, hgr, hsz⟩
      · have hfin := Lib.hid (copied Hk.out hdm.keys hsame.out hall hi.sub)
        clear hall
        go_wp2_with fail
        go_end0
        obtain ⟨l, rfl, h1, h2⟩ := hfin.out
        exact ⟨rfl, ⟨l, hdm, h1, fun s => by rw [h2, Hf.out]⟩, hbw⟩
      · obtain ⟨v, hpv, hmem⟩ := gvs_mem hp
        have hen := hi2.entry (P := Try.prog)
        have hp2 : p.2 = v.v := by rw [hpv]
        rw [hp2] at hnx hen
        have Hi2 := Lib.hid hi2
        have hb2 := hbw.grown hgr (by omega) (by rintro _ ⟨rfl⟩; omega)
        have hd2 := hdm.grown hgr (by simp; omega)
        obtain ⟨w3, hup, hd3, hgr3, hsz3⟩ := (hd2.alloc (.cells #[.int .i64 v.k, .int .i64 v.n, .string v.s] 63)).update (P := Try.prog) (t := 35) (e := 63) Try.underlying35 Try.underlying9 p.1 v.v
        have Hp2 := Lib.hid hp2
        clear hpv hp2 hi hi2
        have hpk : p.1 ∉ done.map Prod.fst := by
          intro h
          obtain ⟨q, hq, hqp⟩ := List.mem_map.1 h
          have := key_inj Hi2.out.keys (Hi2.out.sub q (by simp [hq])) hp hqp
          exact hpd (this ▸ hq)
        have Hpk := Lib.hid hpk
        clear hpk hpd hp
        go_wp2_with fail
        have hlen2 := Hi2.out.len
        have hc := Hcnt.out
        simp only [List.length_append, List.length_cons, List.length_nil] at hlen2
        have hz2 : it < w2.heap.size := Hi2.out.lt
        have hb3 := (hb2.alloc (by omega) (.cells #[.int .i64 v.k, .int .i64 v.n, .string v.s] 63)).grown hgr3 (by simp; omega) (by rintro _ ⟨rfl⟩; exact hB)
        go_roundg (gk - 1)
        case measure => omega
        case rel =>
          refine ⟨done ++ [p], kvSet dk p.1 v.v, by simp only [List.length_append, List.length_cons, List.length_nil]; omega, ?_, hd3, fun s => ?_, hb3, by rw [hsz3]; simp; omega⟩
          · have h5 := Hi2.out.below (belowA (Below.refl _ _) (.cells #[.int .i64 v.k, .int .i64 v.n, .string v.s] 63)) hz2 Hi2.out.map.lt
            have h6 := Hi2.out.map.lt
            exact h5.same (hgr3.block it (by simp; omega) (by simp; omega)) (hgr3.block g (by simp; omega) (by simp; omega))
          · rw [kvGet_set, kvGet_snoc, ← hsame.out, Hp2.out]
            by_cases e : p.1 = s
            · have hn : kvGet dk s = none := by
                rw [hsame.out]
                cases hh : kvGet done s with
                | none => rfl
                | some x => exact absurd (List.mem_map.2 ⟨_, mem_kvGet hh, e.symm⟩) Hpk.out
              simp [e, hn]
            · simp [e]
end Go.Proofs.Ytggbfpjpkfhaeaa
