/- The walk of the statement ViewNobody. -/
import Derived.Test.YtodkpojmonikiaaView7
import Derived.Test.YtodkpojmonikiaaView9
namespace Go.Proofs.Ytodkpojmonikiaa
open Go Go.RowKit
set_option linter.unusedVariables false
set_option linter.unusedSimpArgs false

theorem fit_zero (U : Nat) : fitB U 0#32 = true := by unfold fitB; simp
set_option maxRecDepth 100000 in
set_option maxHeartbeats 4000000 in
theorem viewNobody_walk (m : Mc) (w : World) (h : McOk w m) :
    Calls Try.prog 13 #[.agg (mcA m)] w fun e w' => e = .returned (.bool true) ∧ Kept w w' := by
  have hka : Kept w (w.alloc (.cells (mcA m) 72)) := (Kept.refl _).alloc _
  have bx := Box.new w (mcA m) 72 w.heap.size rfl
  have HM := Lib.hid (h.kept hka)
  have HKA := Lib.hid hka
  obtain ⟨w1, hw1⟩ : ∃ w1, w.alloc (.cells (mcA m) 72) = w1 := ⟨_, rfl⟩
  rw [hw1] at bx HM HKA
  have HBX := Lib.hid bx
  have b0 : w1.cell? ⟨w.heap.size, 0, none⟩ = some (.int .i64 m.n) := bx.at_ 0 rfl
  have b1 : w1.cell? ⟨w.heap.size, 1, none⟩ = some (.int .i64 m.us) := bx.at_ 1 rfl
  have b2 : w1.cell? ⟨w.heap.size, 2, none⟩ = some (.int .i64 m.as) := bx.at_ 2 rfl
  have b3 := bx.at_ 3 (u := .slice m.next.1 m.next.2.1 m.next.2.2.1) rfl
  have b4 := bx.at_ 4 (u := .slice m.sees.1 m.sees.2.1 m.sees.2.2.1) rfl
  have HREF := Lib.hid (fun W (hW : McOk W m) => refView_any m W hW)
  clear h hka bx
  by_cases hv : viewF m = 0
  · obtain ⟨N, U, A, hg⟩ := HM.out.good hv
    have HG := Lib.hid hg
    have hw0 : wrongF m 0#32 = 0 := by rw [wrongF_fit hv hg.us, fit_zero]; rfl
    have HL := Lib.hid (vleak_any m N U A 0#32 w1 HM.out hg hw0)
    have HV := Lib.hid hv
    have hu1 := hg.u1
    have hus := hg.us
    have HL2 := Lib.hid (fun (hid : BitVec 32) (hf : fitB U hid = true) (hall : ∀ u, u < U → hid.getLsbD u = true) W (hW : McOk W m) (hWg : MachG W m N U A) => show Calls Try.prog 41 #[.agg (mcA m), .int .u32 (Go.Proofs.Ytodkpojmonikiaa.W hid)] W (fun e w' => e = .returned (.tuple #[.slice none 0 0, .int .i64 5]) ∧ Kept W w') from
      (vleak_any m N U A hid W hW hWg (by rw [wrongF_fit hv hg.us, hf]; rfl)).mono fun e w' ⟨hk, hr⟩ => by
        rcases hr with ⟨_, rfl⟩ | ⟨l, B, c, hl, _⟩
        · exact ⟨rfl, hk⟩
        · exact (tight_leaks (tight_all hall) hl).elim)
    clear hg hw0 hv
    unfold mcA at hw1 HL HL2 HREF ⊢
    rw [hus] at b1 hw1 HL HL2 HREF ⊢
    go_enter Try.func13, Try.ntmps13
    go_wp2_with fail
    refine HL.out.mono ?_
    rintro e w2 ⟨hk2, hr⟩
    obtain rfl : e = .returned (.tuple #[.slice none 0 0, .int .i64 5]) := by
      rcases hr with ⟨_, rfl⟩ | ⟨l, B, c, hl, _⟩
      · rfl
      · exact (tight_leaks (tight_none U A _ _) hl).elim
    clear hr
    have HK2 := Lib.hid hk2
    have r0 := (hk2.cell (p := ⟨w.heap.size, 0, none⟩) HBX.out.1).trans b0
    have r1 := (hk2.cell (p := ⟨w.heap.size, 1, none⟩) HBX.out.1).trans b1
    have r2 := (hk2.cell (p := ⟨w.heap.size, 2, none⟩) HBX.out.1).trans b2
    have r3 := (hk2.cell (p := ⟨w.heap.size, 3, none⟩) HBX.out.1).trans b3
    have r4 := (hk2.cell (p := ⟨w.heap.size, 4, none⟩) HBX.out.1).trans b4
    have HCK := Lib.hid (HREF.out w2 (HM.out.kept hk2))
    clear b0 b1 b2 b3 b4 hk2
    go_wp2_with fail
    refine HCK.out.mono ?_
    rintro e w3 ⟨v, rfl, hv, hk3⟩
    obtain rfl : v = 0 := hv.2 HV.out
    have HK3 := Lib.hid hk3
    have s0 := (hk3.cell (cell_lt r0)).trans r0
    have s1 := (hk3.cell (cell_lt r1)).trans r1
    have s2 := (hk3.cell (cell_lt r2)).trans r2
    have s3 := (hk3.cell (cell_lt r3)).trans r3
    have s4 := (hk3.cell (cell_lt r4)).trans r4
    have HMW := Lib.hid (HM.out.kept (HK2.out.trans hk3))
    have HGW := Lib.hid (HG.out.kept (HK2.out.trans hk3))
    clear r0 r1 r2 r3 r4 hk3 hv
    rcases (show U = 1 ∨ U = 2 ∨ U = 3 by omega) with rfl | rfl | rfl
    · have HL3 := Lib.hid (HL2.out 1#32 (by decide) (fun u hu => by obtain rfl : u = 0 := by omega
                                                                    rfl) w3 HMW.out HGW.out)
      go_wp2_with fail
      refine HL3.out.mono ?_
      rintro e w4 ⟨rfl, hk4⟩
      clear s0 s1 s2 s3 s4
      go_wp2_with fail
      go_ret
      exact ⟨rfl, HKA.out.trans (HK2.out.trans (HK3.out.trans hk4))⟩
    · have HL3 := Lib.hid (HL2.out 3#32 (by decide) (fun u hu => by rcases (show u = 0 ∨ u = 1 by omega) with rfl | rfl <;> rfl) w3 HMW.out HGW.out)
      go_wp2_with fail
      refine HL3.out.mono ?_
      rintro e w4 ⟨rfl, hk4⟩
      clear s0 s1 s2 s3 s4
      go_wp2_with fail
      go_ret
      exact ⟨rfl, HKA.out.trans (HK2.out.trans (HK3.out.trans hk4))⟩
    · have HL3 := Lib.hid (HL2.out 7#32 (by decide) (fun u hu => by rcases (show u = 0 ∨ u = 1 ∨ u = 2 by omega) with rfl | rfl | rfl <;> rfl) w3 HMW.out HGW.out)
      go_wp2_with fail
      refine HL3.out.mono ?_
      rintro e w4 ⟨rfl, hk4⟩
      clear s0 s1 s2 s3 s4
      go_wp2_with fail
      go_ret
      exact ⟨rfl, HKA.out.trans (HK2.out.trans (HK3.out.trans hk4))⟩
  · have HL := Lib.hid (vleak_bad m 0#32 w1 HM.out (by rw [wrongF_bad hv]; exact hv))
    have hc : viewF m = 1 ∨ viewF m = 2 ∨ viewF m = 3 := by rcases viewF_cases m with h | h | h | h <;> simp_all
    rw [wrongF_bad hv] at HL
    have HV := Lib.hid hv
    clear hv
    unfold mcA at hw1 HL HREF ⊢
    generalize viewF m = vf at HV HL HREF hc
    have n0 : (vf != 0) = true := by rw [bne_iff_ne]; exact HV.out
    have n5 : (vf != 5) = true := by rw [bne_iff_ne]; omega
    clear hc
    go_enter Try.func13, Try.ntmps13
    go_wp2_with fail
    refine HL.out.mono ?_
    rintro e w2 ⟨rfl, hk2⟩
    have HK2 := Lib.hid hk2
    have r0 := (hk2.cell (p := ⟨w.heap.size, 0, none⟩) HBX.out.1).trans b0
    have r1 := (hk2.cell (p := ⟨w.heap.size, 1, none⟩) HBX.out.1).trans b1
    have r2 := (hk2.cell (p := ⟨w.heap.size, 2, none⟩) HBX.out.1).trans b2
    have r3 := (hk2.cell (p := ⟨w.heap.size, 3, none⟩) HBX.out.1).trans b3
    have r4 := (hk2.cell (p := ⟨w.heap.size, 4, none⟩) HBX.out.1).trans b4
    have HCK := Lib.hid (HREF.out w2 (HM.out.kept hk2))
    clear b0 b1 b2 b3 b4 hk2
    go_wp2_with fail
    refine HCK.out.mono ?_
    rintro e w3 ⟨v, rfl, hv, hk3⟩
    have nv : (v != 0) = true := by rw [bne_iff_ne]; intro e; exact HV.out (hv.1 e)
    clear r0 r1 r2 r3 r4 hv
    go_wp2_with fail
    go_ret
    exact ⟨rfl, HKA.out.trans (HK2.out.trans hk3)⟩
end Go.Proofs.Ytodkpojmonikiaa
