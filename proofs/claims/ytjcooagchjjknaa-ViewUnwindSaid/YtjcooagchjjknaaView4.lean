/- The walks of view.wrong and view.same. -/
import Derived.Test.YtjcooagchjjknaaView3
namespace Go.Proofs.Ytjcooagchjjknaa
open Go Go.RowKit
set_option linter.unusedVariables false
set_option linter.unusedSimpArgs false

def wrongF (m : Mc) (hid : BitVec 32) : Int := if viewF m ≠ 0 then viewF m else if fitB m.us.toNat hid = false then 4 else 0
theorem vwrong_any (m : Mc) (hid : BitVec 32) (w : World) (h : McOk w m) :
    Calls Try.prog 46 #[.agg (mcA m), .int .u32 (W hid)] w fun e w' => e = .returned (.int .i64 (wrongF m hid)) ∧ Kept w w' := by
  have hka : Kept w (w.alloc (.cells (mcA m) 63)) := (Kept.refl _).alloc _
  have bx := Box.new w (mcA m) 63 w.heap.size rfl
  have HM := Lib.hid (h.kept hka)
  have HKA := Lib.hid hka
  obtain ⟨w1, hw1⟩ : ∃ w1, w.alloc (.cells (mcA m) 63) = w1 := ⟨_, rfl⟩
  rw [hw1] at bx HM HKA
  have HBX := Lib.hid bx
  have b0 : w1.cell? ⟨w.heap.size, 0, none⟩ = some (.int .i64 m.n) := bx.at_ 0 rfl
  have b1 : w1.cell? ⟨w.heap.size, 1, none⟩ = some (.int .i64 m.us) := bx.at_ 1 rfl
  have b2 : w1.cell? ⟨w.heap.size, 2, none⟩ = some (.int .i64 m.as) := bx.at_ 2 rfl
  have b3 := bx.at_ 3 (u := .slice m.next.1 m.next.2.1 m.next.2.2.1) rfl
  have b4 := bx.at_ 4 (u := .slice m.sees.1 m.sees.2.1 m.sees.2.2.1) rfl
  have HC := Lib.hid (viewCheck_any m w1 HM.out)
  have HWF := Lib.hid (show wrongF m hid = if viewF m ≠ 0 then viewF m else if fitB m.us.toNat hid = false then 4 else 0 from rfl)
  have HVZ := Lib.hid (fun h0 : viewF m = 0 => (viewF_zero h0).1)
  clear h hka bx
  unfold mcA at hw1 HC ⊢
  generalize hv : wrongF m hid = wf at HWF ⊢
  clear hv
  by_cases hz : viewF m = 0
  · have HZ := Lib.hid hz
    have hb := HVZ.out hz
    unfold bigB at hb
    rw [decide_eq_false_iff_not] at hb
    obtain ⟨U, hU⟩ := Int.eq_ofNat_of_zero_le (show 0 ≤ m.us by omega)
    have hU3 : U ≤ 3 := by omega
    have HR := Lib.hid (show wf = if fitB U hid = false then 4 else 0 by rw [HWF.out, if_neg (by simpa using HZ.out), hU, Int.toNat_natCast])
    rw [hz] at HC
    rw [hU] at b1 hw1 HC ⊢
    have hsh : (W hid / 2 ^ U) = W (hid >>> U) := W_shr hid U
    clear hz hb HWF HVZ hU
    cases hf : fitB U hid with
    | true =>
      have HE := Lib.hid (show wf = 0 by rw [HR.out, hf]; rfl)
      have g : (hid >>> U == 0#32) = true := hf
      have g2 : (hid >>> U != 0#32) = false := by rw [bne, g]; rfl
      clear hf
      go_enter Try.func46, Try.ntmps46
      go_wp2_with fail
      refine HC.out.mono ?_
      rintro e w2 ⟨rfl, hk2⟩
      have q1 := (hk2.cell (p := ⟨w.heap.size, 1, none⟩) HBX.out.1).trans b1
      have HK2 := Lib.hid hk2
      clear b0 b1 b2 b3 b4 hk2
      go_wp2_with fail
      go_ret
      exact ⟨by rw [HE.out]; rfl, HKA.out.trans HK2.out⟩
    | false =>
      have HE := Lib.hid (show wf = 4 by rw [HR.out, hf]; rfl)
      have g : (hid >>> U == 0#32) = false := hf
      have g2 : (hid >>> U != 0#32) = true := by rw [bne, g]; rfl
      clear hf
      go_enter Try.func46, Try.ntmps46
      go_wp2_with fail
      refine HC.out.mono ?_
      rintro e w2 ⟨rfl, hk2⟩
      have q1 := (hk2.cell (p := ⟨w.heap.size, 1, none⟩) HBX.out.1).trans b1
      have HK2 := Lib.hid hk2
      clear b0 b1 b2 b3 b4 hk2
      go_wp2_with fail
      go_ret
      exact ⟨by rw [HE.out]; rfl, HKA.out.trans HK2.out⟩
  · have g2 : (viewF m != 0) = true := by rw [bne_iff_ne]; exact hz
    have HE := Lib.hid (show wf = viewF m by rw [HWF.out, if_pos hz])
    clear hz HWF HVZ
    generalize viewF m = vf at g2 HC HE
    go_enter Try.func46, Try.ntmps46
    go_wp2_with fail
    refine HC.out.mono ?_
    rintro e w2 ⟨rfl, hk2⟩
    have HK2 := Lib.hid hk2
    clear b0 b1 b2 b3 b4 hk2
    go_wp2_with fail
    go_ret
    exact ⟨by rw [HE.out]; rfl, HKA.out.trans HK2.out⟩
set_option maxRecDepth 100000 in
set_option maxHeartbeats 4000000 in
theorem same_any (m : Mc) (N U A : Nat) (hid : BitVec 32) (s t : Nat) (hs : s < N) (ht : t < N) (w : World) (h : MachG w m N U A) :
    Calls Try.prog 47 #[.agg (mcA m), .int .u32 (W hid), .int .i64 s, .int .i64 t] w fun e w' => e = .returned (.bool (sameTo (seF m) hid s t U)) ∧ Kept w w' := by
  have hka : Kept w (w.alloc (.cells (mcA m) 63)) := (Kept.refl _).alloc _
  have bx := Box.new w (mcA m) 63 w.heap.size rfl
  have hm := h.kept hka
  have HKA := Lib.hid hka
  obtain ⟨w1, hw1⟩ : ∃ w1, w.alloc (.cells (mcA m) 63) = w1 := ⟨_, rfl⟩
  rw [hw1] at bx hm HKA
  obtain ⟨b, o, es, hb, hcs⟩ := hm.sees
  obtain ⟨b1, o1, c1, hb1, k1, hc1⟩ := hcs s hs
  obtain ⟨b2, o2, c2, hb2, k2, hc2⟩ := hcs t ht
  have HC1 := Lib.hid hc1
  have HC2 := Lib.hid hc2
  have q1 : w1.cell? ⟨w.heap.size, 1, none⟩ = some (.int .i64 (U : Int)) := by rw [← hm.us]; exact bx.at_ 1 rfl
  have q4 : w1.cell? ⟨w.heap.size, 4, none⟩ = some (.slice (some ⟨b, o, none⟩) N m.sees.2.2.1) := by
    have := bx.at_ 4 (u := .slice m.sees.1 m.sees.2.1 m.sees.2.2.1) rfl
    rw [es, hm.ls] at this
    exact this
  have hN6 := hm.n1.2
  have hU3 := hm.u1.2
  have i1 : (0 : Int) ≤ (s : Int) := by omega
  have i2 : (s : Int) < (N : Int) := by omega
  have i3 : (0 : Int) ≤ (t : Int) := by omega
  have i4 : (t : Int) < (N : Int) := by omega
  have HF := Lib.hid (sameTo_succ (seF m) hid s t)
  have HI := Lib.hid (fun k => @sameTo_iff (seF m) hid s t k)
  have HS0 := Lib.hid (show sameTo (seF m) hid s t 0 = true from rfl)
  have HBL := Lib.hid bx.1
  clear h hka bx hm hcs hc1 hc2 hs ht es
  unfold mcA at hw1 ⊢
  go_enter Try.func47, Try.ntmps47
  go_wp2_with fail
  go_loopw [12] (fun t' wr => ∃ u : Nat, u ≤ U ∧ t' = .int .i64 (u : Nat) ∧ Kept w1 wr ∧ Hid (sameTo (seF m) hid s t u = true)) (fun t' _ => U - (intOf t').toNat)
  case atStart => exact ⟨0, Nat.zero_le _, rfl, Kept.refl _, HS0⟩
  case round =>
    obtain ⟨u, hu, rfl, hkw, HALL⟩ := hrel
    by_cases hlt : u < U
    · have r1 := (hkw.cell (p := ⟨w.heap.size, 1, none⟩) HBL.out).trans q1
      have r4 := kw_cell ((hkw.cell (p := ⟨w.heap.size, 4, none⟩) HBL.out).trans q4)
      have r5 := kw_cell ((hkw.cell (p := ⟨b, o + s, none⟩) hb).trans k1)
      have r6 := kw_cell ((hkw.cell (p := ⟨b, o + t, none⟩) hb).trans k2)
      have r7 := kw_cell ((hkw.cell (p := ⟨b1, o1 + u, none⟩) hb1).trans (HC1.out u hlt))
      have r8 := kw_cell ((hkw.cell (p := ⟨b2, o2 + u, none⟩) hb2).trans (HC2.out u hlt))
      have j1 : (0 : Int) ≤ (u : Int) := by omega
      have j2 : (u : Int) < (U : Int) := by omega
      have j3 : decide ((u : Int) < 0) = false := by simp
      have HSU := Lib.hid (HF.out u)
      have HX := Lib.hid (fun (e1 : hid.getLsbD u = false) (e2 : seF m s u ≠ seF m t u) => show sameTo (seF m) hid s t U = false from by
        cases hh : sameTo (seF m) hid s t U with
        | false => rfl
        | true => exact absurd ((HI.out U).1 hh u hlt e1) e2)
      clear q1 q4 k1 k2
      cases hbit : hid.getLsbD u with
      | true =>
        have HN := Lib.hid (show sameTo (seF m) hid s t (u + 1) = true by rw [HSU.out, HALL.out, hbit]; rfl)
        go_wp2_with fail
        refine wp_region_kept (by kernel_rfl) (by kernel_rfl) ?_
        repeat (go_big_quiet_step (fail))
        refine wpQuiet_nil ?_
        intro w5 k5
        go_wp2_with fail
        go_roundw
        case rel => exact ⟨u + 1, by omega, by go_num, hkw.trans k5, HN⟩
        case measure => simp [intOf]; omega
      | false =>
        generalize hx : seF m s u = x1 at r7 HSU HX
        generalize hy : seF m t u = x2 at r8 HSU HX
        clear hx hy
        cases hne : (x1 != x2) with
        | true =>
          have HR := Lib.hid (HX.out hbit (by simpa using hne))
          go_wp2_with fail
          refine wp_region_kept (by kernel_rfl) (by kernel_rfl) ?_
          repeat (go_big_quiet_step (fail))
          refine wpQuiet_nil ?_
          intro w5 k5
          go_wp2_with fail
          go_ret
          exact ⟨by rw [HR.out]; rfl, HKA.out.trans (hkw.trans k5)⟩
        | false =>
          have HN := Lib.hid (show sameTo (seF m) hid s t (u + 1) = true by rw [HSU.out, HALL.out]; have : x1 = x2 := by simpa using hne
                                                                            simp [this])
          go_wp2_with fail
          refine wp_region_kept (by kernel_rfl) (by kernel_rfl) ?_
          repeat (go_big_quiet_step (fail))
          refine wpQuiet_nil ?_
          intro w5 k5
          go_wp2_with fail
          go_roundw
          case rel => exact ⟨u + 1, by omega, by go_num, hkw.trans k5, HN⟩
          case measure => simp [intOf]; omega
    · have HA := Lib.hid (show sameTo (seF m) hid s t U = true by
        have := HALL.out
        rw [show u = U by omega] at this
        exact this)
      go_wp2_with fail
      go_ret
      exact ⟨by rw [HA.out]; rfl, HKA.out.trans hkw⟩
end Go.Proofs.Ytjcooagchjjknaa
