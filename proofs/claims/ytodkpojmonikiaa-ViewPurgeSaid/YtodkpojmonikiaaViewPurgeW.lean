/- The walk of the statement ViewPurge (printed by genviewpurge.py). -/
import Derived.Test.YtodkpojmonikiaaView7
import Derived.Test.YtodkpojmonikiaaView12
namespace Go.Proofs.Ytodkpojmonikiaa
open Go Go.RowKit
set_option linter.unusedVariables false
set_option linter.unusedSimpArgs false

set_option maxRecDepth 100000 in
set_option maxHeartbeats 8000000 in
theorem viewPurge_walk (m : Mc) (hid : BitVec 32) (B : Option Addr) (n c : Nat) (ls : List Ai) (w : World) (h : McOk w m) (hmax : n ≤ maxLen) (hs : SlAct w B n ls) (hsz : n * 16 ≤ 140737488351232) :
    Calls Try.prog 14 #[.agg (mcA m), .int .u32 (W hid), .slice B n c] w fun e w' => e = .returned (.bool true) ∧ Kept w w' := by
  have hka : Kept w (w.alloc (.cells (mcA m) 72)) := (Kept.refl _).alloc _
  have bx := Box.new w (mcA m) 72 w.heap.size rfl
  have HM := Lib.hid (h.kept hka)
  have HKA := Lib.hid hka
  have HSL := Lib.hid (hs.kept hka)
  obtain ⟨w1, hw1⟩ : ∃ w1, w.alloc (.cells (mcA m) 72) = w1 := ⟨_, rfl⟩
  rw [hw1] at bx HM HKA HSL
  have b0 : w1.cell? ⟨w.heap.size, 0, none⟩ = some (.int .i64 m.n) := bx.at_ 0 rfl
  have b1 : w1.cell? ⟨w.heap.size, 1, none⟩ = some (.int .i64 m.us) := bx.at_ 1 rfl
  have b2 : w1.cell? ⟨w.heap.size, 2, none⟩ = some (.int .i64 m.as) := bx.at_ 2 rfl
  have b3 := bx.at_ 3 (u := .slice m.next.1 m.next.2.1 m.next.2.2.1) rfl
  have b4 := bx.at_ 4 (u := .slice m.sees.1 m.sees.2.1 m.sees.2.2.1) rfl
  have HREF := Lib.hid (fun W (hW : McOk W m) => refView_any m W hW)
  have HLEN := Lib.hid hs.2
  have HMAX := Lib.hid hmax
  have HSZ := Lib.hid hsz
  clear h hka bx hs hmax hsz
  by_cases hv : viewF m = 0
  · obtain ⟨N, U, A, hg⟩ := HM.out.good hv
    have HG := Lib.hid hg
    have HV := Lib.hid hv
    have HRUN := Lib.hid (fun W B n c ls (hW : McOk W m) (hWg : MachG W m N U A) (hS : SlAct W B n ls) (hn : n ≤ maxLen) => run_good m N U A B n c ls W hW hWg hv hS hn)
    have hus := hg.us
    have hmn := hg.n
    have hwf : wrongF m hid = if fitB U hid = false then 4 else 0 := wrongF_fit hv hus
    have HFIT := Lib.hid (fun W => vfits_any U (by have := hg.u1; omega) hid W)
    clear hv
    cases hf : fitB U hid with
    | false =>
      rw [hf] at hwf HFIT
      simp only [if_true] at hwf
      have HL := Lib.hid (vleak_bad m hid w1 HM.out (by rw [hwf]; omega))
      rw [hwf] at HL
      clear hwf hf hg hmn
      unfold mcA at hw1 HL HREF HRUN ⊢
      rw [hus] at b1 hw1 HL HREF HRUN ⊢
      clear hus
      go_enter Try.func14, Try.ntmps14
      go_wp2_with fail
      refine HL.out.mono ?_
      rintro e w2 ⟨rfl, hk2⟩
      have HK2 := Lib.hid hk2
      have c0 := (hk2.cell (cell_lt b0)).trans b0
      have c1 := (hk2.cell (cell_lt b1)).trans b1
      have c2 := (hk2.cell (cell_lt b2)).trans b2
      have c3 := (hk2.cell (cell_lt b3)).trans b3
      have c4 := (hk2.cell (cell_lt b4)).trans b4
      have HR := Lib.hid (HRUN.out w2 B n c ls (HM.out.kept hk2) (HG.out.kept hk2) (HSL.out.kept hk2) HMAX.out)
      clear b0 b1 b2 b3 b4 hk2
      go_wp2_with fail
      refine HR.out.mono ?_
      rintro e w3 ⟨hk3, s, f, rfl, hr1, hr2⟩
      have HK3 := Lib.hid hk3
      have d0 := (hk3.cell (cell_lt c0)).trans c0
      have d1 := (hk3.cell (cell_lt c1)).trans c1
      have d2 := (hk3.cell (cell_lt c2)).trans c2
      have d3 := (hk3.cell (cell_lt c3)).trans c3
      have d4 := (hk3.cell (cell_lt c4)).trans c4
      have HCK := Lib.hid (HREF.out w3 (HM.out.kept (HK2.out.trans hk3)))
      clear c0 c1 c2 c3 c4 hk3 hr1 hr2
      go_wp2_with fail
      refine HCK.out.mono ?_
      rintro e w4 ⟨v, rfl, hv, hk4⟩
      obtain rfl : v = 0 := hv.2 HV.out
      have HK4 := Lib.hid hk4
      have e0 := (hk4.cell (cell_lt d0)).trans d0
      have e1 := (hk4.cell (cell_lt d1)).trans d1
      have e2 := (hk4.cell (cell_lt d2)).trans d2
      have e3 := (hk4.cell (cell_lt d3)).trans d3
      have e4 := (hk4.cell (cell_lt d4)).trans d4
      clear d0 d1 d2 d3 d4 hk4 hv
      go_wp2_with fail
      refine (HFIT.out _).mono ?_
      rintro e w5 ⟨rfl, rfl⟩
      go_wp2_with fail
      go_ret
      exact ⟨rfl, HKA.out.trans (HK2.out.trans (HK3.out.trans HK4.out))⟩
    | true =>
      rw [hf] at hwf HFIT
      simp only [Bool.true_eq_false, if_false] at hwf
      have HL := Lib.hid (vleak_any m N U A hid w1 HM.out hg hwf)
      have HLY := Lib.hid (fun W B n c ls (hWg : MachG W m N U A) (hS : SlAct W B n ls) (hn : n ≤ 1000) (hok : ls.all (aiOk U A) = true) => leaky_any m N U A hid B n c ls W hWg hS hn hok)
      have HSE := Lib.hid (fun W s t (hs : s < N) (ht : t < N) (hW : MachG W m N U A) => refSees_any m N U A hid s t hs ht W hW)
      have HAC := Lib.hid (fun W (hW : MachG W m N U A) (hS : SlAct W B n ls) => actsCheck_any m N U A B n c ls W hW hS HMAX.out)
      have HLT := Lib.hid hg.lt
      have HN1 := Lib.hid hg.n1
      have HU1 := Lib.hid hg.u1
      have HPU := Lib.hid (fun W (hk : SlAct W B n ls) => purge_any hid B n c ls W hk HSZ.out)
      clear hwf hf hg
      unfold mcA at hw1 HL HREF HRUN HLY HSE HAC ⊢
      rw [hus] at b1 hw1 HL HREF HRUN HLY HSE HAC ⊢
      rw [hmn] at b0 hw1 HL HREF HRUN HLY HSE HAC ⊢
      clear hus hmn
      have hn6 := HN1.out.2
      go_enter Try.func14, Try.ntmps14
      go_wp2_with fail
      refine HL.out.mono ?_
      rintro e w2 ⟨hk2, hret⟩
      have HK2 := Lib.hid hk2
      have c0 := (hk2.cell (cell_lt b0)).trans b0
      have c1 := (hk2.cell (cell_lt b1)).trans b1
      have c2 := (hk2.cell (cell_lt b2)).trans b2
      have c3 := (hk2.cell (cell_lt b3)).trans b3
      have c4 := (hk2.cell (cell_lt b4)).trans b4
      have HR := Lib.hid (HRUN.out w2 B n c ls (HM.out.kept hk2) (HG.out.kept hk2) (HSL.out.kept hk2) HMAX.out)
      clear b0 b1 b2 b3 b4 hk2
      rcases hret with ⟨htight, rfl⟩ | ⟨l, LB, lc, hleaks, rfl, hls⟩
      · go_wp2_with fail
        refine HR.out.mono ?_
        rintro e w3 ⟨hk3, s, f, rfl, hr1, hr2⟩
        have HR1 := Lib.hid hr1
        have HR2 := Lib.hid hr2
        have HK3 := Lib.hid (HK2.out.trans hk3)
        have d0 := (hk3.cell (cell_lt c0)).trans c0
        have d1 := (hk3.cell (cell_lt c1)).trans c1
        have d2 := (hk3.cell (cell_lt c2)).trans c2
        have d3 := (hk3.cell (cell_lt c3)).trans c3
        have d4 := (hk3.cell (cell_lt c4)).trans c4
        have HCK := Lib.hid (HREF.out w3 (HM.out.kept HK3.out))
        clear c0 c1 c2 c3 c4 hk3 hr1 hr2
        go_wp2_with fail
        refine HCK.out.mono ?_
        rintro e w4 ⟨v, rfl, hv, hk4⟩
        obtain rfl : v = 0 := hv.2 HV.out
        have HK4 := Lib.hid (HK3.out.trans hk4)
        have e0 := (hk4.cell (cell_lt d0)).trans d0
        have e1 := (hk4.cell (cell_lt d1)).trans d1
        have e2 := (hk4.cell (cell_lt d2)).trans d2
        have e3 := (hk4.cell (cell_lt d3)).trans d3
        have e4 := (hk4.cell (cell_lt d4)).trans d4
        clear d0 d1 d2 d3 d4 hv
        clear hk4
        go_wp2_with fail
        refine (HFIT.out _).mono ?_
        rintro e w5 ⟨rfl, rfl⟩
        go_wp2_with fail
        go_region_held3 (fun w' => w'.cell? ⟨w.heap.size, 0, none⟩ = some (.int .i64 (N : Int)) ∧ w'.cell? ⟨w.heap.size, 1, none⟩ = some (.int .i64 (U : Int)) ∧ w'.cell? ⟨w.heap.size, 2, none⟩ = some (.int .i64 m.as) ∧ w'.cell? ⟨w.heap.size, 3, none⟩ = some (.slice m.next.1 m.next.2.1 m.next.2.2.1) ∧ w'.cell? ⟨w.heap.size, 4, none⟩ = some (.slice m.sees.1 m.sees.2.1 m.sees.2.2.1))
          ((refine (fun (k : Kept w4 _) => ⟨(k.cell (cell_lt e0)).trans e0, (k.cell (cell_lt e1)).trans e1, (k.cell (cell_lt e2)).trans e2, (k.cell (cell_lt e3)).trans e3, (k.cell (cell_lt e4)).trans e4⟩) ?_; first | exact KR | exact KP | exact (Kept.refl _).drew | exact Kept.refl _))
          ((first
            | (go_at_call 45
               refine (HPU.out _ (HSL.out.kept (HK4.out.trans (by first | exact (Kept.refl _).drew | exact Kept.refl _)))).mono ?_
               rintro e w7 ⟨v7, rfl, hp7⟩
               obtain ⟨A7, c7, rfl, hs7, k7⟩ := hp7.sl
               have HS7 := Lib.hid hs7
               clear hp7 hs7
               have KP : Kept w4 w7 := Kept.trans (by first | exact (Kept.refl _).drew | exact Kept.refl _) k7)
            | (go_at_call 43
               refine (HRUN.out _ A7 (purgeI hid ls).length c7 (purgeI hid ls) (HM.out.kept (HK4.out.trans KP)) (HG.out.kept (HK4.out.trans KP)) HS7.out (by have := purgeI_len hid ls; have := HMAX.out; have := HLEN.out; omega)).mono ?_
               rintro e w8 ⟨k8, t, g, rfl, hg1, hg2⟩
               have HG1 := Lib.hid hg1
               have HG2 := Lib.hid hg2
               clear hg1 hg2
               have KR : Kept w4 w8 := Kept.trans KP k8)
            | fail))
        have HK8 := Lib.hid (HK4.out.trans KR)
        have q0 := (KR.cell (cell_lt e0)).trans e0
        have q1 := (KR.cell (cell_lt e1)).trans e1
        have q2 := (KR.cell (cell_lt e2)).trans e2
        have q3 := (KR.cell (cell_lt e3)).trans e3
        have q4 := (KR.cell (cell_lt e4)).trans e4
        have HAA := Lib.hid (HAC.out w8 (HG.out.kept HK8.out) (HSL.out.kept HK8.out))
        clear k7 k8 KP KR e0 e1 e2 e3 e4
        go_wp2_with fail
        refine HAA.out.mono ?_
        rintro e w9 ⟨hk9, f9, rfl, hf9⟩
        have HK9 := Lib.hid (HK8.out.trans hk9)
        have r0 := (hk9.cell (cell_lt q0)).trans q0
        have r1 := (hk9.cell (cell_lt q1)).trans q1
        have r2 := (hk9.cell (cell_lt q2)).trans q2
        have r3 := (hk9.cell (cell_lt q3)).trans q3
        have r4 := (hk9.cell (cell_lt q4)).trans q4
        clear q0 q1 q2 q3 q4 hk9
        cases hok : runOk U A n ls with
        | false =>
          have hf1 : (f != 0) = true := by rw [bne_iff_ne]; intro e; have := HR1.out.1 e; rw [hok] at this; cases this
          have hf2 : (f9 != 0) = true := by rw [bne_iff_ne]; intro e; have := hf9.1 e; rw [hok] at this; cases this
          clear hf9 hok
          go_wp2_with fail
          go_ret
          exact ⟨rfl, HKA.out.trans HK9.out⟩
        | true =>
          obtain rfl : f = 0 := HR1.out.2 hok
          obtain rfl : f9 = 0 := hf9.2 hok
          have hall : ls.all (aiOk U A) = true := by unfold runOk at hok; rw [Bool.and_eq_true] at hok; exact hok.2
          have h12 : n ≤ 12 := by unfold runOk at hok; rw [Bool.and_eq_true, decide_eq_true_eq] at hok; exact hok.1
          obtain rfl : g = 0 := HG1.out.2 (runOk_yes (by have := purgeI_len hid ls; have := HLEN.out; omega) (purgeI_all hall))
          have hs0 := HR2.out rfl
          have ht0 := HG2.out rfl
          rw [purge_map (by have := HU1.out.2; omega) hall] at ht0
          have hWO := words_ok hall
          have hsl := leads_lt HLT.out (ls.map acN) 0 hWO (by have := HN1.out; omega)
          have htl := leads_lt HLT.out (purge hid (ls.map acN)) 0 (fun a ha => hWO a (List.mem_filter.1 ha).1) (by have := HN1.out; omega)
          have HSM := Lib.hid (HSE.out w9 _ _ hsl htl (HG.out.kept HK9.out))
          rw [htight _ hWO] at HSM
          subst hs0 ht0
          generalize leads (nxF m) 0 (ls.map acN) = sN at hsl HSM ⊢
          generalize leads (nxF m) 0 (purge hid (ls.map acN)) = tN at htl HSM ⊢
          have x1 : decide ((sN : Int) < 0) = false := by simp
          have x2 : decide ((tN : Int) < 0) = false := by simp
          have x3 : decide ((N : Int) ≤ (sN : Int)) = false := by rw [decide_eq_false_iff_not]; omega
          have x4 : decide ((N : Int) ≤ (tN : Int)) = false := by rw [decide_eq_false_iff_not]; omega
          clear hf9 hok hall hWO
          go_wp2_with fail
          refine HSM.out.mono ?_
          rintro e w10 ⟨rfl, hk10⟩
          go_wp2_with fail
          go_ret
          exact ⟨rfl, HKA.out.trans (HK9.out.trans hk10)⟩
      · go_wp2_with fail
        refine HR.out.mono ?_
        rintro e w3 ⟨hk3, s, f, rfl, hr1, hr2⟩
        have HR1 := Lib.hid hr1
        have HR2 := Lib.hid hr2
        have HK3 := Lib.hid (HK2.out.trans hk3)
        have d0 := (hk3.cell (cell_lt c0)).trans c0
        have d1 := (hk3.cell (cell_lt c1)).trans c1
        have d2 := (hk3.cell (cell_lt c2)).trans c2
        have d3 := (hk3.cell (cell_lt c3)).trans c3
        have d4 := (hk3.cell (cell_lt c4)).trans c4
        have HCK := Lib.hid (HREF.out w3 (HM.out.kept HK3.out))
        have HLS3 := Lib.hid (hls.kept hk3)
        clear hls
        clear c0 c1 c2 c3 c4 hk3 hr1 hr2
        go_wp2_with fail
        refine HCK.out.mono ?_
        rintro e w4 ⟨v, rfl, hv, hk4⟩
        obtain rfl : v = 0 := hv.2 HV.out
        have HK4 := Lib.hid (HK3.out.trans hk4)
        have e0 := (hk4.cell (cell_lt d0)).trans d0
        have e1 := (hk4.cell (cell_lt d1)).trans d1
        have e2 := (hk4.cell (cell_lt d2)).trans d2
        have e3 := (hk4.cell (cell_lt d3)).trans d3
        have e4 := (hk4.cell (cell_lt d4)).trans d4
        clear d0 d1 d2 d3 d4 hv
        have HLS4 := Lib.hid (HLS3.out.kept hk4)
        have HLK := Lib.hid hleaks
        have hl36 := leaks_short (by have := HN1.out; omega) HN1.out.2 HLT.out hleaks
        have HYY := Lib.hid (HLY.out w4 LB l.length lc (l.map acI) (HG.out.kept HK4.out) HLS4.out (by omega) (acI_ok hleaks.1))
        rw [acN_acI, hleaks.2.1] at HYY
        have HL36 := Lib.hid hl36
        clear hk4 hleaks hl36
        go_wp2_with fail
        refine (HFIT.out _).mono ?_
        rintro e w5 ⟨rfl, rfl⟩
        go_wp2_with fail
        refine HYY.out.mono ?_
        rintro e w6 ⟨rfl, hk6⟩
        have HK6 := Lib.hid (HK4.out.trans hk6)
        have g0 := (hk6.cell (cell_lt e0)).trans e0
        have g1 := (hk6.cell (cell_lt e1)).trans e1
        have g2 := (hk6.cell (cell_lt e2)).trans e2
        have g3 := (hk6.cell (cell_lt e3)).trans e3
        have g4 := (hk6.cell (cell_lt e4)).trans e4
        clear e0 e1 e2 e3 e4 hk6
        go_wp2_with fail
        go_region_held3 (fun w' => w'.cell? ⟨w.heap.size, 0, none⟩ = some (.int .i64 (N : Int)) ∧ w'.cell? ⟨w.heap.size, 1, none⟩ = some (.int .i64 (U : Int)) ∧ w'.cell? ⟨w.heap.size, 2, none⟩ = some (.int .i64 m.as) ∧ w'.cell? ⟨w.heap.size, 3, none⟩ = some (.slice m.next.1 m.next.2.1 m.next.2.2.1) ∧ w'.cell? ⟨w.heap.size, 4, none⟩ = some (.slice m.sees.1 m.sees.2.1 m.sees.2.2.1))
          ((refine (fun (k : Kept w6 _) => ⟨(k.cell (cell_lt g0)).trans g0, (k.cell (cell_lt g1)).trans g1, (k.cell (cell_lt g2)).trans g2, (k.cell (cell_lt g3)).trans g3, (k.cell (cell_lt g4)).trans g4⟩) ?_; first | exact KR | exact KP | exact (Kept.refl _).drew | exact Kept.refl _))
          ((first
            | (go_at_call 45
               refine (HPU.out _ (HSL.out.kept (HK6.out.trans (by first | exact (Kept.refl _).drew | exact Kept.refl _)))).mono ?_
               rintro e w7 ⟨v7, rfl, hp7⟩
               obtain ⟨A7, c7, rfl, hs7, k7⟩ := hp7.sl
               have HS7 := Lib.hid hs7
               clear hp7 hs7
               have KP : Kept w6 w7 := Kept.trans (by first | exact (Kept.refl _).drew | exact Kept.refl _) k7)
            | (go_at_call 43
               refine (HRUN.out _ A7 (purgeI hid ls).length c7 (purgeI hid ls) (HM.out.kept (HK6.out.trans KP)) (HG.out.kept (HK6.out.trans KP)) HS7.out (by have := purgeI_len hid ls; have := HMAX.out; have := HLEN.out; omega)).mono ?_
               rintro e w8 ⟨k8, t, g, rfl, hg1, hg2⟩
               have HG1 := Lib.hid hg1
               have HG2 := Lib.hid hg2
               clear hg1 hg2
               have KR : Kept w6 w8 := Kept.trans KP k8)
            | fail))
        have HK8 := Lib.hid (HK6.out.trans KR)
        have q0 := (KR.cell (cell_lt g0)).trans g0
        have q1 := (KR.cell (cell_lt g1)).trans g1
        have q2 := (KR.cell (cell_lt g2)).trans g2
        have q3 := (KR.cell (cell_lt g3)).trans g3
        have q4 := (KR.cell (cell_lt g4)).trans g4
        have HAA := Lib.hid (HAC.out w8 (HG.out.kept HK8.out) (HSL.out.kept HK8.out))
        clear k7 k8 KP KR g0 g1 g2 g3 g4
        go_wp2_with fail
        refine HAA.out.mono ?_
        rintro e w9 ⟨hk9, f9, rfl, hf9⟩
        have HK9 := Lib.hid (HK8.out.trans hk9)
        have r0 := (hk9.cell (cell_lt q0)).trans q0
        have r1 := (hk9.cell (cell_lt q1)).trans q1
        have r2 := (hk9.cell (cell_lt q2)).trans q2
        have r3 := (hk9.cell (cell_lt q3)).trans q3
        have r4 := (hk9.cell (cell_lt q4)).trans q4
        clear q0 q1 q2 q3 q4 hk9
        cases hok : runOk U A n ls with
        | false =>
          have hf1 : (f != 0) = true := by rw [bne_iff_ne]; intro e; have := HR1.out.1 e; rw [hok] at this; cases this
          have hf2 : (f9 != 0) = true := by rw [bne_iff_ne]; intro e; have := hf9.1 e; rw [hok] at this; cases this
          clear hf9 hok
          go_wp2_with fail
          go_ret
          exact ⟨rfl, HKA.out.trans HK9.out⟩
        | true =>
          obtain rfl : f = 0 := HR1.out.2 hok
          obtain rfl : f9 = 0 := hf9.2 hok
          have hall : ls.all (aiOk U A) = true := by unfold runOk at hok; rw [Bool.and_eq_true] at hok; exact hok.2
          have h12 : n ≤ 12 := by unfold runOk at hok; rw [Bool.and_eq_true, decide_eq_true_eq] at hok; exact hok.1
          obtain rfl : g = 0 := HG1.out.2 (runOk_yes (by have := purgeI_len hid ls; have := HLEN.out; omega) (purgeI_all hall))
          have hs0 := HR2.out rfl
          have ht0 := HG2.out rfl
          rw [purge_map (by have := HU1.out.2; omega) hall] at ht0
          have hWO := words_ok hall
          have hsl := leads_lt HLT.out (ls.map acN) 0 hWO (by have := HN1.out; omega)
          have htl := leads_lt HLT.out (purge hid (ls.map acN)) 0 (fun a ha => hWO a (List.mem_filter.1 ha).1) (by have := HN1.out; omega)
          have HSM := Lib.hid (HSE.out w9 _ _ hsl htl (HG.out.kept HK9.out))
          subst hs0 ht0
          have HMIN := Lib.hid (fun hh => HLK.out.2.2 (ls.map acN) hWO hh)
          have HN12 := Lib.hid h12
          generalize leads (nxF m) 0 (ls.map acN) = sN at hsl HSM HMIN ⊢
          generalize leads (nxF m) 0 (purge hid (ls.map acN)) = tN at htl HSM HMIN ⊢
          have x1 : decide ((sN : Int) < 0) = false := by simp
          have x2 : decide ((tN : Int) < 0) = false := by simp
          have x3 : decide ((N : Int) ≤ (sN : Int)) = false := by rw [decide_eq_false_iff_not]; omega
          have x4 : decide ((N : Int) ≤ (tN : Int)) = false := by rw [decide_eq_false_iff_not]; omega
          clear hf9 hok hall hWO
          cases hsm : sameTo (seF m) hid sN tN U with
          | true =>
            rw [hsm] at HSM
            clear hsm
            go_wp2_with fail
            refine HSM.out.mono ?_
            rintro e w10 ⟨rfl, hk10⟩
            go_wp2_with fail
            go_ret
            exact ⟨rfl, HKA.out.trans (HK9.out.trans hk10)⟩
          | false =>
            have hle := HMIN.out hsm
            rw [List.length_map, HLEN.out] at hle
            have hle2 : decide ((l.length : Int) ≤ (n : Int)) = true := by rw [decide_eq_true_eq]; omega
            rw [hsm] at HSM
            clear hsm
            go_wp2_with fail
            refine HSM.out.mono ?_
            rintro e w10 ⟨rfl, hk10⟩
            go_wp2_with fail
            go_ret
            exact ⟨rfl, HKA.out.trans (HK9.out.trans hk10)⟩
  · have HL := Lib.hid (vleak_bad m hid w1 HM.out (by rw [wrongF_bad hv]; exact hv))
    have HR := Lib.hid (fun W (hW : McOk W m) => run_bad m B n c W hW hv)
    rw [wrongF_bad hv] at HL
    have HV := Lib.hid hv
    clear hv
    unfold mcA at hw1 HL HREF HR ⊢
    generalize viewF m = vf at HV HL HREF HR
    have n0 : (vf != 0) = true := by rw [bne_iff_ne]; exact HV.out
    go_enter Try.func14, Try.ntmps14
    go_wp2_with fail
    refine HL.out.mono ?_
    rintro e w2 ⟨rfl, hk2⟩
    have HK2 := Lib.hid hk2
    have c0 := (hk2.cell (cell_lt b0)).trans b0
    have c1 := (hk2.cell (cell_lt b1)).trans b1
    have c2 := (hk2.cell (cell_lt b2)).trans b2
    have c3 := (hk2.cell (cell_lt b3)).trans b3
    have c4 := (hk2.cell (cell_lt b4)).trans b4
    have HR3 := Lib.hid (HR.out w2 (HM.out.kept hk2))
    clear b0 b1 b2 b3 b4 hk2
    go_wp2_with fail
    refine HR3.out.mono ?_
    rintro e w3 ⟨hk3, rfl⟩
    have HK3 := Lib.hid (HK2.out.trans hk3)
    have d0 := (hk3.cell (cell_lt c0)).trans c0
    have d1 := (hk3.cell (cell_lt c1)).trans c1
    have d2 := (hk3.cell (cell_lt c2)).trans c2
    have d3 := (hk3.cell (cell_lt c3)).trans c3
    have d4 := (hk3.cell (cell_lt c4)).trans c4
    have HCK := Lib.hid (HREF.out w3 (HM.out.kept HK3.out))
    clear c0 c1 c2 c3 c4 hk3
    go_wp2_with fail
    refine HCK.out.mono ?_
    rintro e w4 ⟨v, rfl, hv, hk4⟩
    have nv : (v != 0) = true := by rw [bne_iff_ne]; intro e; exact HV.out (hv.1 e)
    clear d0 d1 d2 d3 d4 hv
    go_wp2_with fail
    go_ret
    exact ⟨rfl, HKA.out.trans (HK3.out.trans hk4)⟩
end Go.Proofs.Ytodkpojmonikiaa
