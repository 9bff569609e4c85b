/- Is an environment the list's? -/
import Derived.Test.YtggbfpjpkfhaeaaBack
import Derived.Test.YtggbfpjpkfhaeaaNum
import Derived.Deep.LoopGhost
namespace Go.Proofs.Ytggbfpjpkfhaeaa
open Go.RowKit

theorem mapV_lookup_ok {w : World} {v : Value} {kvs : List (ByteArray × GV)} (h : MapV w v kvs) (s : ByteArray) :
    (Instr.lookup 35 v (.string s) true).run Try.prog w = .ok (.tuple #[((kvGet kvs s).getD zeroV).v, .bool (kvGet kvs s).isSome]) w := by
  rcases h with ⟨rfl, rfl⟩ | ⟨g, rfl, h⟩
  · exact lookup_nil_ok Try.underlying35 Try.underlying9 (zero_value _) s
  · rw [h.lookup_ok Try.underlying35 Try.underlying9 (zero_value _) s, gvs_get]
    cases kvGet kvs s <;> rfl
theorem mapV_len {w : World} {v : Value} {kvs : List (ByteArray × GV)} (h : MapV w v kvs) (ty : TypeId) :
    (Builtin.len_ #[35] ty #[v]).run Try.prog w = .ok (.int .i64 kvs.length) w := by
  rcases h with ⟨rfl, rfl⟩ | ⟨g, rfl, h⟩
  · exact Maps.len_nil Try.underlying35 ty
  · rw [h.len Try.underlying35]; simp [gvs]
theorem MapV.below {w w' : World} {v : Value} {kvs : List (ByteArray × GV)} (h : MapV w v kvs) (hb : Below w.heap.size w w') : MapV w' v kvs := by
  rcases h with ⟨rfl, rfl⟩ | ⟨g, rfl, h⟩
  · exact .inl ⟨rfl, rfl⟩
  · exact .inr ⟨g, rfl, h.below hb h.lt⟩

/-- the same keys with the same values: as many of them -/
theorem keys_same {a b : List (ByteArray × GV)} (ha : (a.map Prod.fst).Nodup) (hb : (b.map Prod.fst).Nodup) (h : ∀ s, kvGet a s = kvGet b s) : a.length = b.length := by
  have mem : ∀ (l : List (ByteArray × GV)) (s : ByteArray), s ∈ l.map Prod.fst ↔ (kvGet l s).isSome = true := by
    intro l s
    induction l with
    | nil => simp [kvGet]
    | cons p l ih =>
      rw [kvGet_cons]
      by_cases e : p.1 = s
      · simp [e]
      · rw [if_neg e, ← ih]
        simp only [List.map_cons, List.mem_cons]
        exact ⟨fun h => h.resolve_left (fun h => e h.symm), .inr⟩
  have h1 := nodup_len _ (b.map Prod.fst) ha (fun s hs => (mem b s).2 (by rw [← h]; exact (mem a s).1 hs))
  have h2 := nodup_len _ (a.map Prod.fst) hb (fun s hs => (mem a s).2 (by rw [h]; exact (mem b s).1 hs))
  simp at h1 h2
  omega
theorem envOf_keys (l : List GTold) : ((envOf l).map Prod.fst).Nodup := by
  have : ∀ (l : List GTold) (e : List (ByteArray × GV)), (e.map Prod.fst).Nodup → ((l.foldl envAdd e).map Prod.fst).Nodup := by
    intro l
    induction l with
    | nil => intro e h; exact h
    | cons t l ih =>
      intro e h
      apply ih
      unfold envAdd
      split
      · exact h
      · exact kvSet_keys h
  exact this l [] (by simp)
theorem kvGet_mem {l : List (ByteArray × GV)} (hn : (l.map Prod.fst).Nodup) {p : ByteArray × GV} (hp : p ∈ l) : kvGet l p.1 = some p.2 := by
  induction l with
  | nil => cases hp
  | cons q l ih =>
    rw [kvGet_cons]
    simp only [List.map_cons, List.nodup_cons] at hn
    rcases List.mem_cons.1 hp with rfl | hp
    · simp
    · rw [if_neg (fun e => hn.1 (by rw [e]; exact List.mem_map.2 ⟨p, hp, rfl⟩))]
      exact ih hn.2 hp
theorem gvs_mem {l : List (ByteArray × GV)} {p : ByteArray × Value} (h : p ∈ gvs l) : ∃ v, p = (p.1, GV.v v) ∧ (p.1, v) ∈ l := by
  obtain ⟨q, hq, rfl⟩ := List.mem_map.1 h
  exact ⟨q.2, rfl, hq⟩

set_option maxRecDepth 100000 in
set_option maxHeartbeats 800000 in
theorem same_any (m : Value) (kvs : List (ByteArray × GV)) (A : Option Addr) (n c : Nat) (l : List GTold) (w : World) (hm : MapV w m kvs) (hk : (kvs.map Prod.fst).Nodup) (hl : SliceIs Enc.told w w.heap.size A n c l) (hs : ∀ s, kvGet kvs s = getT l s) :
    Calls Try.prog 18 #[m, .slice A n c] w (RetBool true w) := by
  have henv := Lib.hid (env_any A n c l w hl)
  have hlen : kvs.length = (envOf l).length := keys_same hk (envOf_keys l) (fun s => by rw [hs, envOf_get])
  have hln : ((kvs.length : Int) != ((envOf l).length : Int)) = false := by simp [hlen]
  have Hgm : Hid (∀ g', m = .map (some g') → g' < w.heap.size) := by
    intro g' e
    rcases hm with ⟨h, _⟩ | ⟨g2, h, h'⟩
    · rw [h] at e; cases e
    · rw [h] at e; cases e; exact h'.lt
  have Hs := Lib.hid hs
  clear hs hlen hl
  go_enter Try.func18, Try.ntmps18
  go_wp2_with fail
  refine henv.out.mono ?_
  rintro e w1 ⟨g, rfl, hg, hgs, hb1⟩
  have hm1 := hm.below hb1
  have l1 := mapV_len hm1
  have l2 : ∀ ty, (Builtin.len_ #[35] ty #[.map (some g)]).run Try.prog w1 = .ok (.int .i64 (envOf l).length) w1 := fun ty => mapV_len (.inr ⟨g, rfl, hg⟩) ty
  obtain ⟨clock, hr, hit⟩ := hg.range (P := Try.prog) Try.underlying35
  have hitlt := hit.lt
  go_wp2_with fail
  have hb2 := belowA hb1 (.mapIter (some g) clock #[] clock)
  have hm2 := hm.below hb2
  generalize w1.alloc (.mapIter (some g) clock #[] clock) = wb at hit hb2 hm2 hitlt ⊢
  generalize hitn : w1.heap.size = it at hit hitlt ⊢
  have hig : g < it := by have := hg.lt; omega
  have hwi : w.heap.size ≤ it := by have := hb1.size; omega
  have Hkk := Lib.hid hk
  clear l1 l2 hr hm hm1 hg hb1 hitn hk
  go_loopg [6, 7, 8, 9] (gvs (envOf l)).length (fun gk _ _ _ _ wr => ∃ done, gk + done.length = (gvs (envOf l)).length ∧ IterIs wr it g (gvs (envOf l)) done ∧ Below w.heap.size w wr ∧ MapV wr m kvs ∧ it < wr.heap.size)
  case atStart => exact ⟨[], by simp, hit, hb2, hm2, hitlt⟩
  case round =>
    obtain ⟨done, hcnt, hi, hbw, hmw, hlt⟩ := hrel
    have Hcnt := Lib.hid hcnt
    clear hcnt hit hb2 hm2
    rcases hi.next (P := Try.prog) (by omega) 0 with ⟨_, hnx⟩ | ⟨p, w2, hp, hpd, hnx, hi2, hgr, hsz⟩
    · go_wp2_with fail
      go_ret
      exact ⟨rfl, hbw⟩
    · obtain ⟨v, hpv, hmem⟩ := gvs_mem hp
      have hen := hi2.entry (P := Try.prog)
      have Hget := Lib.hid ((Hs.out p.1).trans ((envOf_get l p.1).symm.trans (kvGet_mem (envOf_keys l) hmem)))
      have hp2 : p.2 = v.v := by rw [hpv]
      rw [hp2] at hnx hen
      have Hi2 := Lib.hid hi2
      have hb2 := hbw.grown hgr (Nat.le_trans hwi (Nat.le_of_lt hlt)) (by rintro _ ⟨rfl⟩; exact hwi)
      have Hm2 : MapV w2 m kvs := by
        rcases hmw with ⟨rfl, rfl⟩ | ⟨g', rfl, h'⟩
        · exact .inl ⟨rfl, rfl⟩
        · exact .inr ⟨g', rfl, h'.grown hgr (by have := Hgm.out g' rfl; simp; omega)⟩
      have hlk := fun o => mapV_lookup_ok (Hm2.below (belowA (Below.refl _ _) o)) p.1
      rw [Hget.out] at hlk
      simp only [Option.getD_some, Option.isSome_some] at hlk
      have rn := run_neq_value v v
      rw [GV.beq_self] at rn
      clear hpv hp2 hi hi2
      go_wp2_with fail
      have hlen2 := Hi2.out.len
      have hc := Hcnt.out
      simp only [List.length_append, List.length_cons, List.length_nil] at hlen2
      have hz2 : it < w2.heap.size := Hi2.out.lt
      go_roundg (gk - 1)
      case measure => omega
      case rel =>
        exact ⟨done ++ [p], by simp only [List.length_append, List.length_cons, List.length_nil]; omega, ((Hi2.out.below (belowA (Below.refl _ _) _) hz2 Hi2.out.map.lt).below (belowA (Below.refl _ _) _) (by simp; omega) (by simp; have := Hi2.out.map.lt; omega)), belowA (belowA hb2 _) _,
          (Hm2.below (belowA (Below.refl _ _) _)).below (belowA (Below.refl _ _) _), by simp; omega⟩
end Go.Proofs.Ytggbfpjpkfhaeaa
