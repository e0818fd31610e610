/- Bit and Fits for machines; of what leaks. -/
import Derived.Test.YtjcooagchjjknaaView8
namespace Go.Proofs.Ytjcooagchjjknaa
open Go Go.RowKit
set_option linter.unusedVariables false
set_option linter.unusedSimpArgs false

theorem tight_leaks {U A : Nat} {nx : Nx} {se : Nat → Nat → Int} {hid : BitVec 32} {l : List Ac} (h : Tight U A nx se hid) (k : Leaks U A nx se hid l) : False := by
  have := h l k.1
  rw [k.2.1] at this
  cases this
theorem wrongF_bad {m : Mc} {hid : BitVec 32} (h : viewF m ≠ 0) : wrongF m hid = viewF m := by unfold wrongF; rw [if_pos h]
theorem wrongF_fit {m : Mc} {hid : BitVec 32} {U : Nat} (h : viewF m = 0) (hu : m.us = U) : wrongF m hid = if fitB U hid = false then 4 else 0 := by
  unfold wrongF
  rw [if_neg (by omega), hu, Int.toNat_natCast]
theorem viewF_cases (m : Mc) : viewF m = 0 ∨ viewF m = 1 ∨ viewF m = 2 ∨ viewF m = 3 := by
  unfold viewF
  split
  · exact .inr (.inl rfl)
  · split
    · exact .inr (.inr (.inr rfl))
    · split
      · exact .inr (.inr (.inl rfl))
      · exact .inl rfl
theorem vbit_any (x : BitVec 32) (i : Nat) (hi : i < 32) (w : World) : Calls Try.prog 33 #[.int .u32 (W x), .int .i64 i] w fun e w' => e = .returned (.bool (x.getLsbD i)) ∧ w = w' := by
  have d1 : decide ((i : Int) < 0) = false := by simp
  have d2 : decide (0 ≤ (i : Int)) = true := by simp
  have d3 : decide ((i : Int) < 32) = true := by simp; omega
  have hi0 : (0 : Int) ≤ i := by omega
  go_enter Try.func33, Try.ntmps33
  go_wp2
  go_ret
  exact ⟨rfl, rfl⟩
theorem vfits_any (n : Nat) (hn : n < 32) (x : BitVec 32) (w : World) : Calls Try.prog 31 #[.int .i64 n, .int .u32 (W x)] w fun e w' => e = .returned (.bool (fitB n x)) ∧ w = w' := by
  have h1 : decide (32 ≤ (n : Int)) = false := by simp; omega
  rw [fitB_lt hn]
  go_enter Try.func31, Try.ntmps31
  go_wp2
  go_ret
  exact ⟨rfl, rfl⟩
set_option maxRecDepth 100000 in
set_option maxHeartbeats 4000000 in
theorem refSees_any (m : Mc) (N U A : Nat) (hid : BitVec 32) (s t : Nat) (hs : s < N) (ht : t < N) (w : World) (h : MachG w m N U A) :
    Calls Try.prog 32 #[.agg (mcA m), .int .u32 (W hid), .int .i64 s, .int .i64 t] w fun e w' => e = .returned (.bool (sameTo (seF m) hid s t U)) ∧ Kept w w' := by
  have hka : Kept w (w.alloc (.cells (mcA m) 63)) := (Kept.refl _).alloc _
  have bx := Box.new w (mcA m) 63 w.heap.size rfl
  have hm := h.kept hka
  have HKA := Lib.hid hka
  obtain ⟨w1, hw1⟩ : ∃ w1, w.alloc (.cells (mcA m) 63) = w1 := ⟨_, rfl⟩
  rw [hw1] at bx hm HKA
  obtain ⟨b, o, es, hb, hcs⟩ := hm.sees
  obtain ⟨b1, o1, c1, hb1, k1, hc1⟩ := hcs s hs
  obtain ⟨b2, o2, c2, hb2, k2, hc2⟩ := hcs t ht
  have HC1 := Lib.hid hc1
  have HC2 := Lib.hid hc2
  have q1 : w1.cell? ⟨w.heap.size, 1, none⟩ = some (.int .i64 (U : Int)) := by rw [← hm.us]; exact bx.at_ 1 rfl
  have q4 : w1.cell? ⟨w.heap.size, 4, none⟩ = some (.slice (some ⟨b, o, none⟩) N m.sees.2.2.1) := by
    have := bx.at_ 4 (u := .slice m.sees.1 m.sees.2.1 m.sees.2.2.1) rfl
    rw [es, hm.ls] at this
    exact this
  have hN6 := hm.n1.2
  have hU3 := hm.u1.2
  have i1 : (0 : Int) ≤ (s : Int) := by omega
  have i2 : (s : Int) < (N : Int) := by omega
  have i3 : (0 : Int) ≤ (t : Int) := by omega
  have i4 : (t : Int) < (N : Int) := by omega
  have HF := Lib.hid (sameTo_succ (seF m) hid s t)
  have HI := Lib.hid (fun k => @sameTo_iff (seF m) hid s t k)
  have HS0 := Lib.hid (show sameTo (seF m) hid s t 0 = true from rfl)
  have HBL := Lib.hid bx.1
  clear h hka bx hm hcs hc1 hc2 hs ht es
  unfold mcA at hw1 ⊢
  go_enter Try.func32, Try.ntmps32
  go_wp2_with fail
  go_loopw [9] (fun t' wr => ∃ u : Nat, u ≤ U ∧ t' = .int .i64 (u : Nat) ∧ Kept w1 wr ∧ Hid (sameTo (seF m) hid s t u = true)) (fun t' _ => U - (intOf t').toNat)
  case atStart => exact ⟨0, Nat.zero_le _, rfl, Kept.refl _, HS0⟩
  case round =>
    obtain ⟨u, hu, rfl, hkw, HALL⟩ := hrel
    have r1 := (hkw.cell (p := ⟨w.heap.size, 1, none⟩) HBL.out).trans q1
    by_cases hlt : u < U
    · have s1 := kw_cell r1
      have r4 := kw_cell ((hkw.cell (p := ⟨w.heap.size, 4, none⟩) HBL.out).trans q4)
      have r5 := kw_cell ((hkw.cell (p := ⟨b, o + s, none⟩) hb).trans k1)
      have r6 := kw_cell ((hkw.cell (p := ⟨b, o + t, none⟩) hb).trans k2)
      have r7 := kw_cell ((hkw.cell (p := ⟨b1, o1 + u, none⟩) hb1).trans (HC1.out u hlt))
      have r8 := kw_cell ((hkw.cell (p := ⟨b2, o2 + u, none⟩) hb2).trans (HC2.out u hlt))
      have j1 : (0 : Int) ≤ (u : Int) := by omega
      have j2 : (u : Int) < (U : Int) := by omega
      have HSU := Lib.hid (HF.out u)
      have HX := Lib.hid (fun (e1 : hid.getLsbD u = false) (e2 : seF m s u ≠ seF m t u) => show sameTo (seF m) hid s t U = false from by
        cases hh : sameTo (seF m) hid s t U with
        | false => rfl
        | true => exact absurd ((HI.out U).1 hh u hlt e1) e2)
      have HBT := Lib.hid (fun W => vbit_any hid u (by omega) W)
      clear q1 q4 k1 k2
      cases hbit : hid.getLsbD u with
      | true =>
        have HN := Lib.hid (show sameTo (seF m) hid s t (u + 1) = true by rw [HSU.out, HALL.out, hbit]; rfl)
        rw [hbit] at HBT
        clear hbit
        go_wp2_with fail
        refine wp_region_kept (by kernel_rfl) (by kernel_rfl) ?_
        repeat (go_big_quiet_step ((go_at_call 33; exact kept_of_same (HBT.out _))))
        refine wpQuiet_nil ?_
        intro w5 k5
        go_wp2_with fail
        go_roundw
        case rel => exact ⟨u + 1, by omega, by go_num, hkw.trans k5, HN⟩
        case measure => simp [intOf]; omega
      | false =>
        generalize hx : seF m s u = x1 at r7 HSU HX
        generalize hy : seF m t u = x2 at r8 HSU HX
        clear hx hy
        cases hne : (x1 != x2) with
        | true =>
          have HR := Lib.hid (HX.out hbit (by simpa using hne))
          rw [hbit] at HBT
          clear hbit
          go_wp2_with fail
          refine wp_region_kept (by kernel_rfl) (by kernel_rfl) ?_
          repeat (go_big_quiet_step ((go_at_call 33; exact kept_of_same (HBT.out _))))
          refine wpQuiet_nil ?_
          intro w5 k5
          go_wp2_with fail
          go_ret
          exact ⟨by rw [HR.out]; rfl, HKA.out.trans (hkw.trans k5)⟩
        | false =>
          have HN := Lib.hid (show sameTo (seF m) hid s t (u + 1) = true by rw [HSU.out, HALL.out]; have : x1 = x2 := by simpa using hne
                                                                            simp [this])
          rw [hbit] at HBT
          clear hbit
          go_wp2_with fail
          refine wp_region_kept (by kernel_rfl) (by kernel_rfl) ?_
          repeat (go_big_quiet_step ((go_at_call 33; exact kept_of_same (HBT.out _))))
          refine wpQuiet_nil ?_
          intro w5 k5
          go_wp2_with fail
          go_roundw
          case rel => exact ⟨u + 1, by omega, by go_num, hkw.trans k5, HN⟩
          case measure => simp [intOf]; omega
    · have HA := Lib.hid (show sameTo (seF m) hid s t U = true by
        have := HALL.out
        rw [show u = U by omega] at this
        exact this)
      go_wp2_with fail
      go_ret
      exact ⟨by rw [HA.out]; rfl, HKA.out.trans hkw⟩
end Go.Proofs.Ytjcooagchjjknaa
