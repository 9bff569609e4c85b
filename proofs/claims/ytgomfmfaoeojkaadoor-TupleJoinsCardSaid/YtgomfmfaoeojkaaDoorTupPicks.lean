/- TuplePicks: the walk. -/
import Derived.Test.YtgomfmfaoeojkaaDoorTupTexts
namespace Go.Proofs.YtgomfmfaoeojkaaDoor
open Go.RowKit

theorem pickL_ok {t : List GV} (h : ∀ x ∈ t, x.ok) (cs : List Int) : ∀ x ∈ pickL t cs, x.ok := by
  intro x hx; unfold pickL at hx; split at hx
  · exact pickV_ok h cs x hx
  · cases hx

set_option maxRecDepth 100000 in
set_option maxHeartbeats 4000000 in
theorem tuplePicks_walk (A B : Option Addr) (n c m d : Nat) (t : List GV) (cs : List Int) (wk : Int) (w : World) (ht : SliceIs Enc.val w w.heap.size A n c t) (hc : SliceIs Enc.int w w.heap.size B m d cs) (h : TabW w) :
    Calls Tryd.prog 5 #[.slice A n c, .slice B m d, .int .i64 wk] w (RetBool true w) := by
  have hn := ht.bound
  have hm := hc.bound
  have hlen := Lib.hid ht.1
  have HT := Lib.hid ht
  have HC := Lib.hid hc
  have HW := Lib.hid h
  have Hok := Lib.hid (vals_ok ht)
  clear ht hc h
  go_enter Tryd.func5, Tryd.ntmps5
  go_wp2_with fail
  refine (alive_any _ HW.out).mono ?_
  rintro e2 w1 ⟨rfl, hbw⟩
  have ht1 := HT.out.keep hbw
  have HL := Lib.hid (long02_any (some ⟨w1.heap.size, 0, none⟩) 1 1 [t] _ (one_tuple ht1))
  clear ht1
  go_wp2_with fail
  refine HL.out.mono ?_
  clear HL
  rintro e2 w2 ⟨r, rfl, hr, hq2⟩
  replace hbw := below_next (belowA hbw _) hq2
  clear hq2
  cases r with
  | true =>
    clear hr
    go_wp2_with fail
    go_ret
    exact ⟨rfl, hbw⟩
  | false =>
  have hn50 : n ≤ 50 := by have := hr rfl t (by simp); have := hlen.out; omega
  clear hr
  by_cases hm50 : 50 < m
  · have i1 : (50 : Int) < (m : Int) := by omega
    go_wp2_with fail
    go_ret
    exact ⟨rfl, hbw⟩
  · have i1 : ¬ (50 : Int) < (m : Int) := by omega
    obtain ⟨v3, w3, hrun, hown, hq3⟩ := clone_app (HT.out.keep hbw) (by omega) (belowA (Below.refl _ w2) (.cells #[] 30)) (Nat.le_refl _) (heapNew (w := w2) rfl)
    obtain ⟨A3, c3, rfl⟩ := own_form hown
    have HRun := Lib.hid hrun
    have hown' : TupOwn w3 w2.heap.size (.slice A3 n c3) t := by
      unfold TupOwn; rw [hlen.out]; exact hown
    have hs3 := hown'.is hlen.out (by simp [reachN]; omega) Hok.out
    replace hbw := below_next hbw hq3
    have HT3 := Lib.hid hs3
    have Hp := Lib.hid (pick_any A3 B n c3 m d t cs w3 hs3 (HC.out.keep hbw))
    clear hrun hown hown' hs3 hq3
    go_upto_region 6 with (at_builtin; refine wpList_append_run rfl _ _ _ rfl _ _ rfl rfl (HRun.out _) ?_)
    have hpl := pickL_le t cs
    have hplo := Lib.hid (pickL_ok Hok.out cs)
    have Hrp := Lib.hid (fun W hb => refPick_any A B n c m d t cs W (HT.out.keep hb) (HC.out.keep hb) (by omega))
    have Hs := Lib.hid (fun W (hb : Below w.heap.size w W) (hb3 : Below w3.heap.size w3 W) => shard_any A3 B n c3 m d t cs wk W (HW.out.on hb) (HT3.out.keep hb3) (HC.out.keep hb))
    have Hrs := Lib.hid (fun W (hb : Below w.heap.size w W) => refShard_any A B n c m d t cs wk W (HT.out.keep hb) (HC.out.keep hb) (by omega))
    generalize pickE t.length cs = pe at Hp Hrp
    generalize pickL t cs = pl at Hp Hrp hpl hplo
    generalize shardV t wk cs = sv at Hs Hrs
    generalize shardE t.length wk cs = se at Hs Hrs
    have hb3 := Below.refl w3.heap.size w3
    go_wp2_with fail
    refine Hp.out.mono ?_
    rintro e w4 ⟨A4, c4, rfl, ho4, hq⟩
    have hs4 := ho4.is rfl (by simp [reachN]; omega) hplo.out
    replace hb3 := below_next hb3 hq
    replace hbw := below_next hbw hq
    have HS4 := Lib.hid hs4
    clear hq ho4 hs4
    go_wp2_with fail
    refine (Hrp.out _ hbw).mono ?_
    rintro e w5 ⟨A5, c5, rfl, ho5, hq⟩
    have hs5 := ho5.is rfl (by simp [reachN]; omega) hplo.out
    have hs4 := HS4.out.keep hq
    replace hb3 := below_next hb3 hq
    replace hbw := below_next hbw hq
    have HS45 := Lib.hid (And.intro hs4 hs5)
    clear hq ho5 hs5 hs4 HS4
    have hb5 := Below.refl w5.heap.size w5
    go_wp2_with fail
    refine (Hs.out _ hbw hb3).mono ?_
    rintro e w6 ⟨rfl, hq⟩
    replace hb5 := below_next hb5 hq
    replace hb3 := below_next hb3 hq
    replace hbw := below_next hbw hq
    clear hq
    go_wp2_with fail
    refine (Hrs.out _ hbw).mono ?_
    rintro e w7 ⟨rfl, hq⟩
    replace hb5 := below_next hb5 hq
    replace hb3 := below_next hb3 hq
    replace hbw := below_next hbw hq
    clear hq
    go_wp2_with fail
    refine (num_any pe _).mono ?_
    rintro e w8 ⟨rfl, hq⟩
    replace hb5 := below_next hb5 hq
    replace hb3 := below_next hb3 hq
    replace hbw := below_next hbw hq
    clear hq
    have e1 : (pe == pe) = true := by simp
    have Heq := Lib.hid (tuple_eq A4 A5 pl.length pl.length c4 c5 pl w8 (HS45.out.1.keep hb5) (HS45.out.2.keep hb5))
    go_wp2_with fail
    refine Heq.out.mono ?_
    rintro e w9 ⟨rfl, hq⟩
    replace hb3 := below_next hb3 hq
    replace hbw := below_next hbw hq
    clear hq Heq
    go_wp2_with fail
    refine (num_any se _).mono ?_
    rintro e w10 ⟨rfl, hq⟩
    replace hb3 := below_next hb3 hq
    replace hbw := below_next hbw hq
    clear hq
    have e2 : (se == se) = true := by simp
    have e3 : (sv == sv) = true := by simp
    have Heq := Lib.hid (tuple_eq A3 A n n c3 c t w10 (HT3.out.keep hb3) (HT.out.keep hbw))
    go_wp2_with fail
    refine Heq.out.mono ?_
    rintro e w11 ⟨rfl, hq⟩
    replace hbw := below_next hbw hq
    go_wp2_with fail
    go_ret
    exact ⟨by simp, hbw⟩
end Go.Proofs.YtgomfmfaoeojkaaDoor
