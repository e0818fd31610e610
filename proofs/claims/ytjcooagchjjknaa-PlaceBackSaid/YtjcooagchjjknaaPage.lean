/- The walks of package page: Check; and of what the statements ask of pages. -/
import Derived.Test.YtjcooagchjjknaaPageP
import Derived.BigQuiet
import Derived.Deep.QuietTactic
namespace Go.Proofs.Ytjcooagchjjknaa
open Go Go.RowKit
set_option linter.unusedVariables false

theorem pin_any (x y : BitVec 32) (w : World) : Calls Try.prog 42 #[.int .u32 (W x), .int .u32 (W y)] w fun e w' => e = .returned (.bool (subB x y)) ∧ w = w' := by
  go_enter Try.func42, Try.ntmps42
  go_wp2
  go_ret
  exact ⟨rfl, rfl⟩
theorem refBelow_any (l m : Int) (p q : BitVec 32) (w : World) : Calls Try.prog 22 #[.agg #[.int .i64 l, .int .u32 (W p)], .agg #[.int .i64 m, .int .u32 (W q)]] w fun e w' => e = .returned (.bool (leB (l, p) (m, q))) ∧ Kept w w' := by
  cases h : decide (l ≤ m)
  · have H := Lib.hid h
    go_enter Try.func22, Try.ntmps22
    go_wp2_with fail
    go_ret
    exact ⟨by unfold leB; rw [H.out]; rfl, ((Kept.refl _).alloc _).alloc _⟩
  · have H := Lib.hid h
    go_enter Try.func22, Try.ntmps22
    go_wp2_with fail
    refine (pin_any p q _).mono ?_
    rintro e w1 ⟨rfl, rfl⟩
    go_wp2_with fail
    go_ret
    exact ⟨by unfold leB; rw [H.out]; rfl, ((Kept.refl _).alloc _).alloc _⟩
theorem refBelow_is (l m : Int) (p q : BitVec 32) (b : Bool) (hb : leB (l, p) (m, q) = b) (w : World) : Calls Try.prog 22 #[.agg #[.int .i64 l, .int .u32 (W p)], .agg #[.int .i64 m, .int .u32 (W q)]] w fun e w' => e = .returned (.bool b) ∧ Kept w w' := by
  rw [← hb]
  exact refBelow_any l m p q w
theorem least_is (l m : Int) (p q : BitVec 32) (b : Bool) (hb : leB (l, p) (m, q) = b) (w : World) : Calls Try.prog 35 #[.agg #[.int .i64 l, .int .u32 (W p)], .agg #[.int .i64 m, .int .u32 (W q)]] w fun e w' => e = .returned (.bool b) ∧ Kept w w' := by
  rw [← hb]
  exact least_any l m p q w
theorem pgAt_four {ls : List Lf} {k : Nat} (h : labOk (lab (lfAt ls k)) = false) : pgAt ls k = 4 := by unfold pgAt; rw [if_pos h]
theorem pgAt_two {ls : List Lf} {k : Nat} (h : labOk (lab (lfAt ls k)) = true) (h2 : (lfAt ls k).1 < -1 ∨ (k : Int) ≤ (lfAt ls k).1) : pgAt ls k = 2 := by unfold pgAt; rw [if_neg (by rw [h]; simp), if_pos h2]
theorem pgAt_three {ls : List Lf} {k : Nat} (h : labOk (lab (lfAt ls k)) = true) (h2 : ¬ ((lfAt ls k).1 < -1 ∨ (k : Int) ≤ (lfAt ls k).1)) (h3 : 0 ≤ (lfAt ls k).1) (h4 : leB (lab (lfAt ls (lfAt ls k).1.toNat)) (lab (lfAt ls k)) = false) : pgAt ls k = 3 := by unfold pgAt; rw [if_neg (by rw [h]; simp), if_neg h2, if_pos ⟨h3, h4⟩]
theorem SlL.getN {w : World} {A : Option Addr} {n : Nat} {ls} (h : SlL w A n ls) (k : Nat) (hk : k < n) : ∃ b off, A = some ⟨b, off, none⟩ ∧ b < w.heap.size ∧
    w.cell? ⟨b, off + k * 4, none⟩ = some (.int .i64 (lfAt ls k).1) ∧ w.cell? ⟨b, off + k * 4 + 1, none⟩ = some (.int .i64 (lfAt ls k).2.1) ∧ w.cell? ⟨b, off + k * 4 + 2, none⟩ = some (.int .i64 (lfAt ls k).2.2.1) ∧ w.cell? ⟨b, off + k * 4 + 3, none⟩ = some (.int .u32 (W (lfAt ls k).2.2.2)) := by
  obtain ⟨b, off, hl, e, hb, c⟩ := h.get k hk
  rw [← lfAt_eq ls k hl] at c
  exact ⟨b, off, e, hb, c⟩

set_option maxHeartbeats 2000000 in
theorem pageCheck_any (A : Option Addr) (n c : Nat) (ls : List Lf) (w : World) (hs : SlL w A n ls) (hn : n ≤ maxLen) :
    Calls Try.prog 15 #[.slice A n c] w fun e w' => e = .returned (.int .i64 (pageF ls)) ∧ Kept w w' := by
  unfold maxLen at hn
  have HL := Lib.hid hs.2
  by_cases h40 : 40 < n
  · have d1 : decide (40 < (n : Int)) = true := by simp; omega
    have HF := Lib.hid (show pageF ls = 1 by unfold pageF; rw [HL.out, if_pos h40])
    clear hs h40
    go_enter Try.func15, Try.ntmps15
    go_wp2
    go_ret
    exact ⟨by rw [HF.out]; rfl, Kept.refl _⟩
  · have d1 : decide (40 < (n : Int)) = false := by simp; omega
    have HF := Lib.hid (show pageF ls = pageTo ls n by unfold pageF; rw [HL.out, if_neg h40])
    clear h40
    go_enter Try.func15, Try.ntmps15
    go_wp2_with fail
    clear d1
    go_loopw [11] (fun t wr => ∃ k : Nat, k ≤ n ∧ t = .int .i64 k ∧ Kept w wr ∧ Hid (pageTo ls k = 0)) (fun t _ => n - (intOf t).toNat)
    case atStart => exact ⟨0, Nat.zero_le _, rfl, Kept.refl _, Lib.hid rfl⟩
    case round =>
      obtain ⟨k, hk, rfl, hkw, hz⟩ := hrel
      by_cases hlt : k < n
      · obtain ⟨b, off, rfl, hb, c0, c1, c2, c3⟩ := (hs.kept hkw).getN k hlt
        have HST := Lib.hid (fun e (h : pgAt ls k = e) (he : e ≠ 0) => pageTo_stop hz.out h he n hlt)
        have HNX := Lib.hid (show pgAt ls k = 0 → pageTo ls (k + 1) = 0 from fun h => by
          show (if pageTo ls k ≠ 0 then pageTo ls k else pgAt ls k) = 0
          rw [if_neg (by simp [hz.out]), h])
        have H4 := Lib.hid (pgAt_four (ls := ls) (k := k))
        have H2 := Lib.hid (pgAt_two (ls := ls) (k := k))
        have H3 := Lib.hid (pgAt_three (ls := ls) (k := k))
        have H0 := Lib.hid ((pgAt_zero (ls := ls) (i := k)).2)
        unfold lab at H4 H2 H3 H0
        have HU := Lib.hid (fun u (hu : u < k) => (hs.kept hkw).getN u (by omega))
        generalize lfAt ls k = x at c0 c1 c2 c3 H4 H2 H3 H0
        obtain ⟨up, tx, lv, pt⟩ := x
        simp only at c0 c1 c2 c3 H4 H2 H3 H0
        have bx := Box.new wr #[.int .i64 up, .int .i64 tx, .int .i64 lv, .int .u32 (W pt)] 38 wr.heap.size rfl
        have hka : Kept wr (wr.alloc (.cells #[.int .i64 up, .int .i64 tx, .int .i64 lv, .int .u32 (W pt)] 38)) := (Kept.refl _).alloc _
        go_wp2_with fail
        refine (labCheck_any lv pt _).mono ?_
        rintro e w1 ⟨rfl, k1⟩
        have bx1 := bx.kept k1
        have q1 := hkw.trans (hka.trans k1)
        have e0 := bx1.at_ 0 rfl
        have e1 := bx1.at_ 1 rfl
        have e2 := bx1.at_ 2 rfl
        have e3 := bx1.at_ 3 rfl
        clear bx
        cases hok : labOk (lv, pt)
        · have HV := Lib.hid (HST.out 4 (H4.out hok) (by decide))
          rw [labF_four hok]
          clear hok
          go_wp2_with fail
          go_ret
          exact ⟨by rw [HF.out, HV.out]; rfl, q1⟩
        · have HOK := Lib.hid hok
          rw [labF_zero hok]
          clear hok
          by_cases hlow : up < -1
          · have d1 : decide (up < -1) = true := by simpa using hlow
            have HV := Lib.hid (HST.out 2 (H2.out HOK.out (.inl hlow)) (by decide))
            clear hlow
            go_wp2_with fail
            go_ret
            exact ⟨by rw [HF.out, HV.out]; rfl, q1⟩
          · have d1 : decide (up < -1) = false := by simpa using hlow
            by_cases hhi : (k : Int) ≤ up
            · have d2 : decide ((k : Int) ≤ up) = true := by simpa using hhi
              have HV := Lib.hid (HST.out 2 (H2.out HOK.out (.inr hhi)) (by decide))
              clear hlow hhi
              go_wp2_with fail
              go_ret
              exact ⟨by rw [HF.out, HV.out]; rfl, q1⟩
            · have d2 : decide ((k : Int) ≤ up) = false := by simpa using hhi
              by_cases h0 : 0 ≤ up
              · obtain ⟨u, rfl⟩ := Int.eq_ofNat_of_zero_le h0
                have d3 : decide (0 ≤ (u : Int)) = true := by simp
                obtain ⟨b', off', e', _, _, _, g2, g3⟩ := HU.out u (by omega)
                injection e' with e'
                injection e' with e1' e2'
                subst e1' e2'
                have m2 := ((hka.trans k1).cell (p := ⟨b, off + u * 4 + 2, none⟩) hb).trans g2
                have m3 := ((hka.trans k1).cell (p := ⟨b, off + u * 4 + 3, none⟩) hb).trans g3
                simp only [Int.toNat_natCast] at H3 H0
                generalize lfAt ls u = y at m2 m3 H3 H0 g2 g3
                obtain ⟨_, _, lu, pu⟩ := y
                simp only at m2 m3 H3 H0 g2 g3
                have hi1 : (0 : Int) ≤ (u : Int) := by omega
                have hi2 : (u : Int) < (n : Int) := by omega
                have z0 := kw_cell e0
                have z2 := kw_cell e2
                have z3 := kw_cell e3
                have y2 := kw_cell m2
                have y3 := kw_cell m3
                cases hle : leB (lu, pu) (lv, pt)
                · have HV := Lib.hid (HST.out 3 (H3.out HOK.out (by omega) h0 hle) (by decide))
                  have HLE := Lib.hid hle
                  clear hle HU HST HNX
                  go_wp2_with fail
                  refine wp_region_kept (by kernel_rfl) (by kernel_rfl) ?_
                  repeat (go_big_quiet_step ((go_at_call 35; exact kept_of (least_is lu lv pu pt false HLE.out _))))
                  refine wpQuiet_nil ?_
                  intro w2 k2
                  go_wp2_with fail
                  go_ret
                  exact ⟨by rw [HF.out, HV.out]; rfl, q1.trans k2⟩
                · have HV := Lib.hid (HNX.out (H0.out ⟨HOK.out, by omega, fun _ => hle⟩))
                  have HLE := Lib.hid hle
                  clear hle HU HST HNX
                  go_wp2_with fail
                  refine wp_region_kept (by kernel_rfl) (by kernel_rfl) ?_
                  repeat (go_big_quiet_step ((go_at_call 35; exact kept_of (least_is lu lv pu pt true HLE.out _))))
                  refine wpQuiet_nil ?_
                  intro w2 k2
                  go_wp2_with fail
                  go_roundw
                  case rel => exact ⟨k + 1, by omega, by go_num, q1.trans k2, HV⟩
                  case measure => simp [intOf]; omega
              · have d3 : decide (0 ≤ up) = false := by simpa using h0
                have HV := Lib.hid (HNX.out (H0.out ⟨HOK.out, by omega, fun h => absurd h h0⟩))
                have z0 := kw_cell e0
                clear HU HST HNX
                go_wp2_with fail
                refine wp_region_kept (by kernel_rfl) (by kernel_rfl) ?_
                repeat (go_big_quiet_step (fail))
                refine wpQuiet_nil ?_
                intro w2 k2
                go_wp2_with fail
                go_roundw
                case rel => exact ⟨k + 1, by omega, by go_num, q1.trans k2, HV⟩
                case measure => simp [intOf]; omega
      · have HV := Lib.hid (show pageTo ls n = 0 by have h := hz.out; rwa [show k = n by omega] at h)
        go_wp2_with fail
        go_ret
        exact ⟨by rw [HF.out, HV.out]; rfl, hkw⟩

set_option maxHeartbeats 2000000 in
theorem refPageCheck_any (A : Option Addr) (n c : Nat) (ls : List Lf) (w : World) (hs : SlL w A n ls) (hn : n ≤ maxLen) :
    Calls Try.prog 19 #[.slice A n c] w fun e w' => e = .returned (.int .i64 (pageF ls)) ∧ Kept w w' := by
  unfold maxLen at hn
  have HL := Lib.hid hs.2
  by_cases h40 : 40 < n
  · have d1 : decide (40 < (n : Int)) = true := by simp; omega
    have HF := Lib.hid (show pageF ls = 1 by unfold pageF; rw [HL.out, if_pos h40])
    clear hs h40
    go_enter Try.func19, Try.ntmps19
    go_wp2
    go_ret
    exact ⟨by rw [HF.out]; rfl, Kept.refl _⟩
  · have d1 : decide (40 < (n : Int)) = false := by simp; omega
    have HF := Lib.hid (show pageF ls = pageTo ls n by unfold pageF; rw [HL.out, if_neg h40])
    clear h40
    go_enter Try.func19, Try.ntmps19
    go_wp2_with fail
    clear d1
    go_loopw [10] (fun t wr => ∃ k : Nat, k ≤ n ∧ t = .int .i64 k ∧ Kept w wr ∧ Hid (pageTo ls k = 0)) (fun t _ => n - (intOf t).toNat)
    case atStart => exact ⟨0, Nat.zero_le _, rfl, Kept.refl _, Lib.hid rfl⟩
    case round =>
      obtain ⟨k, hk, rfl, hkw, hz⟩ := hrel
      by_cases hlt : k < n
      · obtain ⟨b, off, rfl, hb, c0, c1, c2, c3⟩ := (hs.kept hkw).getN k hlt
        have HST := Lib.hid (fun e (h : pgAt ls k = e) (he : e ≠ 0) => pageTo_stop hz.out h he n hlt)
        have HNX := Lib.hid (show pgAt ls k = 0 → pageTo ls (k + 1) = 0 from fun h => by
          show (if pageTo ls k ≠ 0 then pageTo ls k else pgAt ls k) = 0
          rw [if_neg (by simp [hz.out]), h])
        have H4 := Lib.hid (pgAt_four (ls := ls) (k := k))
        have H2 := Lib.hid (pgAt_two (ls := ls) (k := k))
        have H3 := Lib.hid (pgAt_three (ls := ls) (k := k))
        have H0 := Lib.hid ((pgAt_zero (ls := ls) (i := k)).2)
        unfold lab at H4 H2 H3 H0
        have HU := Lib.hid (fun u (hu : u < k) => (hs.kept hkw).getN u (by omega))
        generalize lfAt ls k = x at c0 c1 c2 c3 H4 H2 H3 H0
        obtain ⟨up, tx, lv, pt⟩ := x
        simp only at c0 c1 c2 c3 H4 H2 H3 H0
        have bx := Box.new wr #[.int .i64 up, .int .i64 tx, .int .i64 lv, .int .u32 (W pt)] 38 wr.heap.size rfl
        have hka : Kept wr (wr.alloc (.cells #[.int .i64 up, .int .i64 tx, .int .i64 lv, .int .u32 (W pt)] 38)) := (Kept.refl _).alloc _
        go_wp2_with fail
        refine (refLabCheck_any lv pt _).mono ?_
        rintro e w1 ⟨rfl, k1⟩
        have bx1 := bx.kept k1
        have q1 := hkw.trans (hka.trans k1)
        have e0 := bx1.at_ 0 rfl
        have e1 := bx1.at_ 1 rfl
        have e2 := bx1.at_ 2 rfl
        have e3 := bx1.at_ 3 rfl
        clear bx
        cases hok : labOk (lv, pt)
        · have HV := Lib.hid (HST.out 4 (H4.out hok) (by decide))
          rw [labF_four hok]
          clear hok
          go_wp2_with fail
          go_ret
          exact ⟨by rw [HF.out, HV.out]; rfl, q1⟩
        · have HOK := Lib.hid hok
          rw [labF_zero hok]
          clear hok
          by_cases hlow : up < -1
          · have d1 : decide (up < -1) = true := by simpa using hlow
            have HV := Lib.hid (HST.out 2 (H2.out HOK.out (.inl hlow)) (by decide))
            clear hlow
            go_wp2_with fail
            go_ret
            exact ⟨by rw [HF.out, HV.out]; rfl, q1⟩
          · have d1 : decide (up < -1) = false := by simpa using hlow
            by_cases hhi : (k : Int) ≤ up
            · have d2 : decide ((k : Int) ≤ up) = true := by simpa using hhi
              have HV := Lib.hid (HST.out 2 (H2.out HOK.out (.inr hhi)) (by decide))
              clear hlow hhi
              go_wp2_with fail
              go_ret
              exact ⟨by rw [HF.out, HV.out]; rfl, q1⟩
            · have d2 : decide ((k : Int) ≤ up) = false := by simpa using hhi
              by_cases h0 : 0 ≤ up
              · obtain ⟨u, rfl⟩ := Int.eq_ofNat_of_zero_le h0
                have d3 : decide (0 ≤ (u : Int)) = true := by simp
                obtain ⟨b', off', e', _, _, _, g2, g3⟩ := HU.out u (by omega)
                injection e' with e'
                injection e' with e1' e2'
                subst e1' e2'
                have m2 := ((hka.trans k1).cell (p := ⟨b, off + u * 4 + 2, none⟩) hb).trans g2
                have m3 := ((hka.trans k1).cell (p := ⟨b, off + u * 4 + 3, none⟩) hb).trans g3
                simp only [Int.toNat_natCast] at H3 H0
                generalize lfAt ls u = y at m2 m3 H3 H0 g2 g3
                obtain ⟨_, _, lu, pu⟩ := y
                simp only at m2 m3 H3 H0 g2 g3
                have hi1 : (0 : Int) ≤ (u : Int) := by omega
                have hi2 : (u : Int) < (n : Int) := by omega
                have z0 := kw_cell e0
                have z2 := kw_cell e2
                have z3 := kw_cell e3
                have y2 := kw_cell m2
                have y3 := kw_cell m3
                cases hle : leB (lu, pu) (lv, pt)
                · have HV := Lib.hid (HST.out 3 (H3.out HOK.out (by omega) h0 hle) (by decide))
                  have HLE := Lib.hid hle
                  clear hle HU HST HNX
                  go_wp2_with fail
                  refine wp_region_kept (by kernel_rfl) (by kernel_rfl) ?_
                  repeat (go_big_quiet_step ((go_at_call 22; exact kept_of (refBelow_is lu lv pu pt false HLE.out _))))
                  refine wpQuiet_nil ?_
                  intro w2 k2
                  go_wp2_with fail
                  go_ret
                  exact ⟨by rw [HF.out, HV.out]; rfl, q1.trans k2⟩
                · have HV := Lib.hid (HNX.out (H0.out ⟨HOK.out, by omega, fun _ => hle⟩))
                  have HLE := Lib.hid hle
                  clear hle HU HST HNX
                  go_wp2_with fail
                  refine wp_region_kept (by kernel_rfl) (by kernel_rfl) ?_
                  repeat (go_big_quiet_step ((go_at_call 22; exact kept_of (refBelow_is lu lv pu pt true HLE.out _))))
                  refine wpQuiet_nil ?_
                  intro w2 k2
                  go_wp2_with fail
                  go_roundw
                  case rel => exact ⟨k + 1, by omega, by go_num, q1.trans k2, HV⟩
                  case measure => simp [intOf]; omega
              · have d3 : decide (0 ≤ up) = false := by simpa using h0
                have HV := Lib.hid (HNX.out (H0.out ⟨HOK.out, by omega, fun h => absurd h h0⟩))
                have z0 := kw_cell e0
                clear HU HST HNX
                go_wp2_with fail
                refine wp_region_kept (by kernel_rfl) (by kernel_rfl) ?_
                repeat (go_big_quiet_step (fail))
                refine wpQuiet_nil ?_
                intro w2 k2
                go_wp2_with fail
                go_roundw
                case rel => exact ⟨k + 1, by omega, by go_num, q1.trans k2, HV⟩
                case measure => simp [intOf]; omega
      · have HV := Lib.hid (show pageTo ls n = 0 by have h := hz.out; rwa [show k = n by omega] at h)
        go_wp2_with fail
        go_ret
        exact ⟨by rw [HF.out, HV.out]; rfl, hkw⟩
end Go.Proofs.Ytjcooagchjjknaa
