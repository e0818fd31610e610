/- The walks of view.Run, ActsCheck, Leads (printed by genview11.py). -/
import Derived.Test.YtodkpojmonikiaaView10
namespace Go.Proofs.Ytodkpojmonikiaa
open Go Go.RowKit
set_option linter.unusedVariables false
set_option linter.unusedSimpArgs false

theorem aiOk_false {U A : Nat} {x : Ai} (h : x.1 < 0 ∨ (U : Int) ≤ x.1 ∨ x.2 < 0 ∨ (A : Int) ≤ x.2) : aiOk U A x = false := by
  cases hh : aiOk U A x with
  | false => rfl
  | true =>
    have := aiOk_iff.1 hh
    omega
theorem runOk_no {U A n : Nat} {ls : List Ai} {k : Nat} (hk : k < ls.length) (h : aiOk U A ls[k] = false) : runOk U A n ls = false := by
  unfold runOk
  rw [takeV_allF hk h]
  simp
theorem runOk_long {U A n : Nat} {ls : List Ai} (h : 12 < n) : runOk U A n ls = false := by
  unfold runOk
  have : decide (n ≤ 12) = false := by rw [decide_eq_false_iff_not]; omega
  rw [this]
  rfl
theorem runOk_yes {U A n : Nat} {ls : List Ai} (h : n ≤ 12) (ha : ls.all (aiOk U A) = true) : runOk U A n ls = true := by
  unfold runOk
  have : decide (n ≤ 12) = true := by rw [decide_eq_true_eq]; omega
  rw [this, ha]
  rfl
/-- the cells that one step reads -/
theorem MachG.step {w : World} {m : Mc} {N U A : Nat} (h : MachG w m N U A) : ∃ b o, m.next.1 = some ⟨b, o, none⟩ ∧ b < w.heap.size ∧ ∀ s u a, s < N → u < U → a < A → ∃ b1 o1 c1 b2 o2 c2, w.cell? ⟨b, o + s, none⟩ = some (.slice (some ⟨b1, o1, none⟩) U c1) ∧ w.cell? ⟨b1, o1 + u, none⟩ = some (.slice (some ⟨b2, o2, none⟩) A c2) ∧ w.cell? ⟨b2, o2 + a, none⟩ = some (.int .i64 (nxF m s u a)) := by
  obtain ⟨b, o, e, hb, hc⟩ := h.next
  refine ⟨b, o, e, hb, fun s u a hs hu ha => ?_⟩
  obtain ⟨b1, o1, c1, hb1, k1, hk1⟩ := hc s hs
  obtain ⟨b2, o2, c2, hb2, k2, hk2⟩ := hk1 u hu
  exact ⟨b1, o1, c1, b2, o2, c2, k1, k2, hk2 a ha⟩
set_option maxRecDepth 100000 in
set_option maxHeartbeats 4000000 in
theorem run_good (m : Mc) (N U A : Nat) (B : Option Addr) (n c : Nat) (ls : List Ai) (w : World) (h : McOk w m) (hg : MachG w m N U A) (hv : viewF m = 0) (hs : SlAct w B n ls) (hmax : n ≤ maxLen) :
    Calls Try.prog 43 #[.agg (mcA m), .slice B n c] w fun e w' => Kept w w' ∧ ∃ s f : Int, e = .returned (.tuple #[.int .i64 s, .int .i64 f]) ∧ (f = 0 ↔ runOk U A n ls = true) ∧ (f = 0 → s = (leads (nxF m) 0 (ls.map acN) : Nat)) := by
  have hka : Kept w (w.alloc (.cells (mcA m) 72)) := (Kept.refl _).alloc _
  have bx := Box.new w (mcA m) 72 w.heap.size rfl
  have HG := Lib.hid (hg.kept hka)
  have HKA := Lib.hid hka
  have HSL := Lib.hid (hs.kept hka)
  obtain ⟨w1, hw1⟩ : ∃ w1, w.alloc (.cells (mcA m) 72) = w1 := ⟨_, rfl⟩
  have HM := Lib.hid (h.kept ((Kept.refl w).alloc (.cells (mcA m) 72)))
  rw [hw1] at bx HG HKA HSL HM
  have HBX := Lib.hid bx
  have b0 : w1.cell? ⟨w.heap.size, 0, none⟩ = some (.int .i64 m.n) := bx.at_ 0 rfl
  have b1 : w1.cell? ⟨w.heap.size, 1, none⟩ = some (.int .i64 m.us) := bx.at_ 1 rfl
  have b2 : w1.cell? ⟨w.heap.size, 2, none⟩ = some (.int .i64 m.as) := bx.at_ 2 rfl
  have b3 := bx.at_ 3 (u := .slice m.next.1 m.next.2.1 m.next.2.2.1) rfl
  have b4 := bx.at_ 4 (u := .slice m.sees.1 m.sees.2.1 m.sees.2.2.1) rfl
  have HLN := Lib.hid hs.2
  have HTS := Lib.hid (fun k hk => takeV_snoc ls k hk)
  have HTA := Lib.hid (fun k hk => takeV_all (aiOk U A) ls k hk)
  clear hka bx hs hg
  have HC := Lib.hid (viewCheck_any m w1 HM.out)
  rw [hv] at HC
  clear h hv hmax
  have e0 := HG.out.n
  have e1 := HG.out.us
  have e2 := HG.out.as
  have e3 := HG.out.ln
  obtain ⟨b, o, en, hb, hcn⟩ := HG.out.step
  have HN := Lib.hid hcn
  have HNB := Lib.hid hb
  have HLT := Lib.hid HG.out.lt
  have HN1 := Lib.hid HG.out.n1
  have hu3 := HG.out.u1.2
  have ha2 := HG.out.a1.2
  have hn6 := HG.out.n1.2
  unfold mcA at hw1 HC ⊢
  rw [e0, e1, e2, e3, en] at hw1 HC ⊢
  rw [e0] at b0
  rw [e1] at b1
  rw [e2] at b2
  rw [e3, en] at b3
  clear e0 e1 e2 e3 en hb hcn
  generalize nxF m = nx at HN HLT ⊢
  by_cases h12 : n ≤ 12
  · have d12 : decide ((12 : Int) < (n : Int)) = false := by rw [decide_eq_false_iff_not]; omega
    have HYES := Lib.hid (fun ha => runOk_yes (U := U) (A := A) (ls := ls) h12 ha)
    go_enter Try.func43, Try.ntmps43
    go_wp2_with fail
    refine HC.out.mono ?_
    rintro e w2 ⟨rfl, hk2⟩
    have HK2 := Lib.hid hk2
    have q1 := (hk2.cell (p := ⟨w.heap.size, 1, none⟩) HBX.out.1).trans b1
    have q2 := (hk2.cell (p := ⟨w.heap.size, 2, none⟩) HBX.out.1).trans b2
    have q3 := (hk2.cell (p := ⟨w.heap.size, 3, none⟩) HBX.out.1).trans b3
    have HQ1 := Lib.hid q1
    have HQ2 := Lib.hid q2
    have HQ3 := Lib.hid q3
    clear b0 b1 b2 b3 b4 hk2 q1 q2 q3
    go_wp2_with fail
    clear d12
    go_loopw [7, 20] (fun s t wr => ∃ k : Nat, k ≤ n ∧ t = .int .i64 (k : Nat) ∧ s = .int .i64 (leads nx 0 ((ls.take k).map acN) : Nat) ∧ Kept w2 wr ∧ Hid ((ls.take k).all (aiOk U A) = true)) (fun _ t _ => n - (intOf t).toNat)
    case atStart => exact ⟨0, Nat.zero_le _, rfl, rfl, Kept.refl _, Lib.hid rfl⟩
    case round =>
      obtain ⟨k, hk, rfl, rfl, hkw, HALL⟩ := hrel
      by_cases hlt : k < n
      · obtain ⟨ab, ao, hkl, rfl, hab, c1, c2⟩ := (HSL.out.kept (HK2.out.trans hkw)).get k hlt
        have HT := Lib.hid (HTS.out k hkl)
        have HTK := Lib.hid (HTA.out k hkl)
        have HNO := Lib.hid (fun h => runOk_no (U := U) (A := A) (n := n) (ls := ls) hkl h)
        have hlt0 := leads_lt HLT.out ((ls.take k).map acN) 0 (words_ok HALL.out) HN1.out.1
        generalize hS0 : leads nx 0 ((ls.take k).map acN) = S0 at hlt0 ⊢
        have HS0 := Lib.hid hS0
        have HLT0 := Lib.hid hlt0
        clear hS0
        have HAF := Lib.hid (fun h : ls[k].1 < 0 ∨ (U : Int) ≤ ls[k].1 ∨ ls[k].2 < 0 ∨ (A : Int) ≤ ls[k].2 => aiOk_false (U := U) (A := A) h)
        have HAI := Lib.hid (@aiOk_iff U A ls[k])
        have HAC := Lib.hid (show acN ls[k] = (ls[k].1.toNat, ls[k].2.toNat) from rfl)
        generalize ls[k] = y at c1 c2 HT HTK HNO HAF HAI HAC
        obtain ⟨y1, y2⟩ := y
        dsimp only at c1 c2 HAF HAI HAC
        have i1 : (0 : Int) ≤ (k : Int) := by omega
        have i2 : (k : Int) < (n : Int) := by omega
        have bxs := Box.new wr #[.int .i64 y1, .int .i64 y2] 118 wr.heap.size rfl
        have hkb : Kept wr (wr.alloc (.cells #[.int .i64 y1, .int .i64 y2] 118)) := (Kept.refl _).alloc _
        have f0 := bxs.at_ 0 rfl
        have f1 := bxs.at_ 1 rfl
        have HKB := Lib.hid (hkw.trans hkb)
        have g1 := ((hkw.trans hkb).cell (cell_lt HQ1.out)).trans HQ1.out
        have g2 := ((hkw.trans hkb).cell (cell_lt HQ2.out)).trans HQ2.out
        have g3 := ((hkw.trans hkb).cell (cell_lt HQ3.out)).trans HQ3.out
        clear hkb bxs hkw
        cases x1 : decide (y1 < 0) with
        | true =>
          have HB := Lib.hid (HNO.out (HAF.out (.inl (by simpa using x1))))
          go_wp2_with fail
          go_ret2
          exact ⟨HKA.out.trans (HK2.out.trans HKB.out), 0, 2, rfl, ⟨fun h => by omega, fun h => by rw [HB.out] at h; cases h⟩, fun h => by omega⟩
        | false =>
          cases x2 : decide ((U : Int) ≤ y1) with
          | true =>
            have HB := Lib.hid (HNO.out (HAF.out (.inr (.inl (by simpa using x2)))))
            go_wp2_with fail
            go_ret2
            exact ⟨HKA.out.trans (HK2.out.trans HKB.out), 0, 2, rfl, ⟨fun h => by omega, fun h => by rw [HB.out] at h; cases h⟩, fun h => by omega⟩
          | false =>
            cases x3 : decide (y2 < 0) with
            | true =>
              have HB := Lib.hid (HNO.out (HAF.out (.inr (.inr (.inl (by simpa using x3))))))
              go_wp2_with fail
              go_ret2
              exact ⟨HKA.out.trans (HK2.out.trans HKB.out), 0, 2, rfl, ⟨fun h => by omega, fun h => by rw [HB.out] at h; cases h⟩, fun h => by omega⟩
            | false =>
              cases x4 : decide ((A : Int) ≤ y2) with
              | true =>
                have HB := Lib.hid (HNO.out (HAF.out (.inr (.inr (.inr (by simpa using x4))))))
                go_wp2_with fail
                go_ret2
                exact ⟨HKA.out.trans (HK2.out.trans HKB.out), 0, 2, rfl, ⟨fun h => by omega, fun h => by rw [HB.out] at h; cases h⟩, fun h => by omega⟩
              | false =>
                have y1n : 0 ≤ y1 := by rw [decide_eq_false_iff_not] at x1; omega
                have y2n : 0 ≤ y2 := by rw [decide_eq_false_iff_not] at x3; omega
                obtain ⟨u, rfl⟩ := Int.eq_ofNat_of_zero_le y1n
                obtain ⟨a, rfl⟩ := Int.eq_ofNat_of_zero_le y2n
                have j1 : (u : Int) < (U : Int) := by rw [decide_eq_false_iff_not] at x2; omega
                have j2 : (a : Int) < (A : Int) := by rw [decide_eq_false_iff_not] at x4; omega
                have j3 : (0 : Int) ≤ (S0 : Int) := by omega
                have j4 : (S0 : Int) < (N : Int) := by have := HLT0.out; omega
                obtain ⟨b1, o1, c3, b2, o2, c4, k1, k2, k3⟩ := HN.out S0 u a HLT0.out (by omega) (by omega)
                have HKW2 := Lib.hid (HK2.out.trans HKB.out)
                have t1 := kw_cell ((HKW2.out.cell (cell_lt k1)).trans k1)
                have t2 := kw_cell ((HKW2.out.cell (cell_lt k2)).trans k2)
                have t3 := kw_cell ((HKW2.out.cell (cell_lt k3)).trans k3)
                have t4 := kw_cell g3
                have t5 := kw_cell f0
                have t6 := kw_cell f1
                have HNEW := Lib.hid (show leads nx 0 ((ls.take (k + 1)).map acN) = nx S0 u a by
                  rw [HT.out, List.map_append, List.map_singleton, leads_snoc, HS0.out, HAC.out]
                  rfl)
                have HALN := Lib.hid (show (ls.take (k + 1)).all (aiOk U A) = true by
                  rw [HTK.out, HALL.out, HAI.out.2 ⟨⟨y1n, by omega⟩, y2n, by omega⟩]
                  rfl)
                generalize nx S0 u a = S1 at t3 HNEW
                clear k1 k2 k3 y1n y2n
                go_wp2_with fail
                refine wp_region_kept (by kernel_rfl) (by kernel_rfl) ?_
                repeat (go_big_quiet_step (fail))
                refine wpQuiet_nil ?_
                intro w6 k6
                have K6 := Lib.hid (HKB.out.trans k6)
                clear t1 t2 t3 t4 t5 t6 f0 f1 g1 g2 g3 k6
                go_wp2_with fail
                go_roundw
                case rel => exact ⟨k + 1, by omega, by go_num, by rw [HNEW.out], K6.out, HALN⟩
                case measure => simp [intOf]; omega
      · have HA := Lib.hid (show ls.all (aiOk U A) = true by
          have := HALL.out
          rw [List.take_of_length_le (by have := HLN.out; omega)] at this
          exact this)
        have HE := Lib.hid (show ls.take k = ls from List.take_of_length_le (by have := HLN.out; omega))
        have HKW := Lib.hid hkw
        clear hkw
        generalize hS0 : leads nx 0 ((ls.take k).map acN) = S0
        have HS0 := Lib.hid hS0
        clear hS0
        go_wp2_with fail
        go_ret2
        exact ⟨HKA.out.trans (HK2.out.trans HKW.out), _, 0, rfl, ⟨fun _ => HYES.out HA.out, fun _ => rfl⟩, fun _ => by rw [← HS0.out, HE.out]⟩
  · have d12 : decide ((12 : Int) < (n : Int)) = true := by rw [decide_eq_true_eq]; omega
    have HNO := Lib.hid (runOk_long (U := U) (A := A) (n := n) (ls := ls) (by omega))
    go_enter Try.func43, Try.ntmps43
    go_wp2_with fail
    refine HC.out.mono ?_
    rintro e w2 ⟨rfl, hk2⟩
    have HK2 := Lib.hid hk2
    clear b0 b1 b2 b3 b4 hk2
    go_wp2_with fail
    go_ret2
    exact ⟨HKA.out.trans HK2.out, 0, 1, rfl, ⟨fun h => by omega, fun h => by rw [HNO.out] at h; cases h⟩, fun h => by omega⟩
theorem run_bad (m : Mc) (B : Option Addr) (n c : Nat) (w : World) (h : McOk w m) (hv : viewF m ≠ 0) :
    Calls Try.prog 43 #[.agg (mcA m), .slice B n c] w fun e w' => Kept w w' ∧ e = .returned (.tuple #[.int .i64 0, .int .i64 (viewF m)]) := by
  have hka : Kept w (w.alloc (.cells (mcA m) 72)) := (Kept.refl _).alloc _
  have bx := Box.new w (mcA m) 72 w.heap.size rfl
  have HM := Lib.hid (h.kept hka)
  have HKA := Lib.hid hka
  obtain ⟨w1, hw1⟩ : ∃ w1, w.alloc (.cells (mcA m) 72) = w1 := ⟨_, rfl⟩
  rw [hw1] at bx HM HKA
  have b0 : w1.cell? ⟨w.heap.size, 0, none⟩ = some (.int .i64 m.n) := bx.at_ 0 rfl
  have b1 : w1.cell? ⟨w.heap.size, 1, none⟩ = some (.int .i64 m.us) := bx.at_ 1 rfl
  have b2 : w1.cell? ⟨w.heap.size, 2, none⟩ = some (.int .i64 m.as) := bx.at_ 2 rfl
  have b3 := bx.at_ 3 (u := .slice m.next.1 m.next.2.1 m.next.2.2.1) rfl
  have b4 := bx.at_ 4 (u := .slice m.sees.1 m.sees.2.1 m.sees.2.2.1) rfl
  have HC := Lib.hid (viewCheck_any m w1 HM.out)
  have g2 : (viewF m != 0) = true := by rw [bne_iff_ne]; exact hv
  clear h hka bx hv
  unfold mcA at hw1 HC ⊢
  generalize viewF m = vf at g2 HC ⊢
  go_enter Try.func43, Try.ntmps43
  go_wp2_with fail
  refine HC.out.mono ?_
  rintro e w2 ⟨rfl, hk2⟩
  have HK2 := Lib.hid hk2
  clear b0 b1 b2 b3 b4 hk2
  go_wp2_with fail
  go_ret2
  exact ⟨HKA.out.trans HK2.out, by rfl⟩
set_option maxRecDepth 100000 in
set_option maxHeartbeats 4000000 in
theorem actsCheck_any (m : Mc) (N U A : Nat) (B : Option Addr) (n c : Nat) (ls : List Ai) (w : World) (hg : MachG w m N U A) (hs : SlAct w B n ls) (hmax : n ≤ maxLen) :
    Calls Try.prog 46 #[.agg (mcA m), .slice B n c] w fun e w' => Kept w w' ∧ ∃ f : Int, e = .returned (.int .i64 f) ∧ (f = 0 ↔ runOk U A n ls = true) := by
  have hka : Kept w (w.alloc (.cells (mcA m) 72)) := (Kept.refl _).alloc _
  have bx := Box.new w (mcA m) 72 w.heap.size rfl
  have HG := Lib.hid (hg.kept hka)
  have HKA := Lib.hid hka
  have HSL := Lib.hid (hs.kept hka)
  obtain ⟨w1, hw1⟩ : ∃ w1, w.alloc (.cells (mcA m) 72) = w1 := ⟨_, rfl⟩
  rw [hw1] at bx HG HKA HSL
  have HBX := Lib.hid bx
  have b0 : w1.cell? ⟨w.heap.size, 0, none⟩ = some (.int .i64 m.n) := bx.at_ 0 rfl
  have b1 : w1.cell? ⟨w.heap.size, 1, none⟩ = some (.int .i64 m.us) := bx.at_ 1 rfl
  have b2 : w1.cell? ⟨w.heap.size, 2, none⟩ = some (.int .i64 m.as) := bx.at_ 2 rfl
  have b3 := bx.at_ 3 (u := .slice m.next.1 m.next.2.1 m.next.2.2.1) rfl
  have b4 := bx.at_ 4 (u := .slice m.sees.1 m.sees.2.1 m.sees.2.2.1) rfl
  have HLN := Lib.hid hs.2
  have HTS := Lib.hid (fun k hk => takeV_snoc ls k hk)
  have HTA := Lib.hid (fun k hk => takeV_all (aiOk U A) ls k hk)
  clear hka bx hs hg
  clear hmax
  have e0 := HG.out.n
  have e1 := HG.out.us
  have e2 := HG.out.as
  have e3 := HG.out.ln
  obtain ⟨b, o, en, hb, hcn⟩ := HG.out.step
  have HN := Lib.hid hcn
  have HNB := Lib.hid hb
  have HLT := Lib.hid HG.out.lt
  have HN1 := Lib.hid HG.out.n1
  have hu3 := HG.out.u1.2
  have ha2 := HG.out.a1.2
  have hn6 := HG.out.n1.2
  unfold mcA at hw1 ⊢
  rw [e0, e1, e2, e3, en] at hw1 ⊢
  rw [e0] at b0
  rw [e1] at b1
  rw [e2] at b2
  rw [e3, en] at b3
  clear e0 e1 e2 e3 en hb hcn
  clear HN HLT
  by_cases h12 : n ≤ 12
  · have d12 : decide ((12 : Int) < (n : Int)) = false := by rw [decide_eq_false_iff_not]; omega
    have HYES := Lib.hid (fun ha => runOk_yes (U := U) (A := A) (ls := ls) h12 ha)
    go_enter Try.func46, Try.ntmps46
    go_wp2_with fail
    have HQ1 := Lib.hid b1
    have HQ2 := Lib.hid b2
    clear b0 b1 b2 b3 b4
    clear d12
    go_loopw [12] (fun t wr => ∃ k : Nat, k ≤ n ∧ t = .int .i64 (k : Nat) ∧ Kept w1 wr ∧ Hid ((ls.take k).all (aiOk U A) = true)) (fun t _ => n - (intOf t).toNat)
    case atStart => exact ⟨0, Nat.zero_le _, rfl, Kept.refl _, Lib.hid rfl⟩
    case round =>
      obtain ⟨k, hk, rfl, hkw, HALL⟩ := hrel
      by_cases hlt : k < n
      · obtain ⟨ab, ao, hkl, rfl, hab, c1, c2⟩ := (HSL.out.kept hkw).get k hlt
        have HT := Lib.hid (HTS.out k hkl)
        have HTK := Lib.hid (HTA.out k hkl)
        have HNO := Lib.hid (fun h => runOk_no (U := U) (A := A) (n := n) (ls := ls) hkl h)
        have HAF := Lib.hid (fun h : ls[k].1 < 0 ∨ (U : Int) ≤ ls[k].1 ∨ ls[k].2 < 0 ∨ (A : Int) ≤ ls[k].2 => aiOk_false (U := U) (A := A) h)
        have HAI := Lib.hid (@aiOk_iff U A ls[k])
        generalize ls[k] = y at c1 c2 HT HTK HNO HAF HAI
        obtain ⟨y1, y2⟩ := y
        dsimp only at c1 c2 HAF HAI
        have i1 : (0 : Int) ≤ (k : Int) := by omega
        have i2 : (k : Int) < (n : Int) := by omega
        have bxs := Box.new wr #[.int .i64 y1, .int .i64 y2] 118 wr.heap.size rfl
        have hkb : Kept wr (wr.alloc (.cells #[.int .i64 y1, .int .i64 y2] 118)) := (Kept.refl _).alloc _
        have f0 := bxs.at_ 0 rfl
        have f1 := bxs.at_ 1 rfl
        have HKB := Lib.hid (hkw.trans hkb)
        have g1 := ((hkw.trans hkb).cell (cell_lt HQ1.out)).trans HQ1.out
        have g2 := ((hkw.trans hkb).cell (cell_lt HQ2.out)).trans HQ2.out
        clear hkb bxs hkw
        cases x1 : decide (y1 < 0) with
        | true =>
          have HB := Lib.hid (HNO.out (HAF.out (.inl (by simpa using x1))))
          go_wp2_with fail
          go_ret
          exact ⟨HKA.out.trans (HKB.out), 2, rfl, ⟨fun h => by omega, fun h => by rw [HB.out] at h; cases h⟩⟩
        | false =>
          cases x2 : decide ((U : Int) ≤ y1) with
          | true =>
            have HB := Lib.hid (HNO.out (HAF.out (.inr (.inl (by simpa using x2)))))
            go_wp2_with fail
            go_ret
            exact ⟨HKA.out.trans (HKB.out), 2, rfl, ⟨fun h => by omega, fun h => by rw [HB.out] at h; cases h⟩⟩
          | false =>
            cases x3 : decide (y2 < 0) with
            | true =>
              have HB := Lib.hid (HNO.out (HAF.out (.inr (.inr (.inl (by simpa using x3))))))
              go_wp2_with fail
              go_ret
              exact ⟨HKA.out.trans (HKB.out), 2, rfl, ⟨fun h => by omega, fun h => by rw [HB.out] at h; cases h⟩⟩
            | false =>
              cases x4 : decide ((A : Int) ≤ y2) with
              | true =>
                have HB := Lib.hid (HNO.out (HAF.out (.inr (.inr (.inr (by simpa using x4))))))
                go_wp2_with fail
                go_ret
                exact ⟨HKA.out.trans (HKB.out), 2, rfl, ⟨fun h => by omega, fun h => by rw [HB.out] at h; cases h⟩⟩
              | false =>
                have y1n : 0 ≤ y1 := by rw [decide_eq_false_iff_not] at x1; omega
                have y2n : 0 ≤ y2 := by rw [decide_eq_false_iff_not] at x3; omega
                obtain ⟨u, rfl⟩ := Int.eq_ofNat_of_zero_le y1n
                obtain ⟨a, rfl⟩ := Int.eq_ofNat_of_zero_le y2n
                have j1 : (u : Int) < (U : Int) := by rw [decide_eq_false_iff_not] at x2; omega
                have j2 : (a : Int) < (A : Int) := by rw [decide_eq_false_iff_not] at x4; omega
                have HALN := Lib.hid (show (ls.take (k + 1)).all (aiOk U A) = true by
                  rw [HTK.out, HALL.out, HAI.out.2 ⟨⟨y1n, by omega⟩, y2n, by omega⟩]
                  rfl)
                clear y1n y2n
                go_wp2_with fail
                go_roundw
                case rel => exact ⟨k + 1, by omega, by go_num, HKB.out, HALN⟩
                case measure => simp [intOf]; omega
      · have HA := Lib.hid (show ls.all (aiOk U A) = true by
          have := HALL.out
          rw [List.take_of_length_le (by have := HLN.out; omega)] at this
          exact this)
        have HKW := Lib.hid hkw
        clear hkw
        go_wp2_with fail
        go_ret
        exact ⟨HKA.out.trans HKW.out, 0, rfl, ⟨fun _ => HYES.out HA.out, fun _ => rfl⟩⟩
  · have d12 : decide ((12 : Int) < (n : Int)) = true := by rw [decide_eq_true_eq]; omega
    have HNO := Lib.hid (runOk_long (U := U) (A := A) (n := n) (ls := ls) (by omega))
    go_enter Try.func46, Try.ntmps46
    go_wp2_with fail
    go_ret
    exact ⟨HKA.out, 1, rfl, ⟨fun h => by omega, fun h => by rw [HNO.out] at h; cases h⟩⟩
set_option maxRecDepth 100000 in
set_option maxHeartbeats 4000000 in
theorem leads_any (m : Mc) (N U A s : Nat) (B : Option Addr) (n c : Nat) (ls : List Ai) (w : World) (hg : MachG w m N U A) (hs0 : s < N) (hs : SlAct w B n ls) (hn : n ≤ 1000) (hok : ls.all (aiOk U A) = true) :
    Calls Try.prog 81 #[.agg (mcA m), .int .i64 s, .slice B n c] w fun e w' => e = .returned (.int .i64 (leads (nxF m) s (ls.map acN) : Nat)) ∧ Kept w w' := by
  have hka : Kept w (w.alloc (.cells (mcA m) 72)) := (Kept.refl _).alloc _
  have bx := Box.new w (mcA m) 72 w.heap.size rfl
  have HG := Lib.hid (hg.kept hka)
  have HKA := Lib.hid hka
  have HSL := Lib.hid (hs.kept hka)
  obtain ⟨w1, hw1⟩ : ∃ w1, w.alloc (.cells (mcA m) 72) = w1 := ⟨_, rfl⟩
  rw [hw1] at bx HG HKA HSL
  have HBX := Lib.hid bx
  have b0 : w1.cell? ⟨w.heap.size, 0, none⟩ = some (.int .i64 m.n) := bx.at_ 0 rfl
  have b1 : w1.cell? ⟨w.heap.size, 1, none⟩ = some (.int .i64 m.us) := bx.at_ 1 rfl
  have b2 : w1.cell? ⟨w.heap.size, 2, none⟩ = some (.int .i64 m.as) := bx.at_ 2 rfl
  have b3 := bx.at_ 3 (u := .slice m.next.1 m.next.2.1 m.next.2.2.1) rfl
  have b4 := bx.at_ 4 (u := .slice m.sees.1 m.sees.2.1 m.sees.2.2.1) rfl
  have HLN := Lib.hid hs.2
  have HTS := Lib.hid (fun k hk => takeV_snoc ls k hk)
  have HTA := Lib.hid (fun k hk => takeV_all (aiOk U A) ls k hk)
  clear hka bx hs hg
  have e0 := HG.out.n
  have e1 := HG.out.us
  have e2 := HG.out.as
  have e3 := HG.out.ln
  obtain ⟨b, o, en, hb, hcn⟩ := HG.out.step
  have HN := Lib.hid hcn
  have HLT := Lib.hid HG.out.lt
  have HS := Lib.hid hs0
  have HOK := Lib.hid hok
  have HOKK := Lib.hid (fun k (hk : k < ls.length) => aiOk_iff.1 (List.all_eq_true.1 hok _ (List.getElem_mem hk)))
  have hu3 := HG.out.u1.2
  have ha2 := HG.out.a1.2
  have hn6 := HG.out.n1.2
  unfold mcA at hw1 ⊢
  rw [e0, e1, e2, e3, en] at hw1 ⊢
  rw [e3, en] at b3
  clear e0 e1 e2 e3 en hb hcn b0 b1 b2 b4 hok hs0
  generalize nxF m = nx at HN HLT ⊢
  go_enter Try.func81, Try.ntmps81
  go_wp2_with fail
  go_loopw [1, 11] (fun v t wr => ∃ k : Nat, k ≤ n ∧ t = .int .i64 (k : Nat) ∧ v = .int .i64 (leads nx s ((ls.take k).map acN) : Nat) ∧ Kept w1 wr) (fun _ t _ => n - (intOf t).toNat)
  case atStart => exact ⟨0, Nat.zero_le _, rfl, rfl, Kept.refl _⟩
  case round =>
    obtain ⟨k, hk, rfl, rfl, hkw⟩ := hrel
    by_cases hlt : k < n
    · obtain ⟨ab, ao, hkl, rfl, hab, c1, c2⟩ := (HSL.out.kept hkw).get k hlt
      have HT := Lib.hid (HTS.out k hkl)
      have hlt0 := leads_lt HLT.out ((ls.take k).map acN) s (words_ok (by rw [List.all_eq_true]; exact fun x hx => List.all_eq_true.1 HOK.out x (List.mem_of_mem_take hx))) HS.out
      generalize hS0 : leads nx s ((ls.take k).map acN) = S0 at hlt0 ⊢
      have HS0 := Lib.hid hS0
      clear hS0
      have hai := HOKK.out k hkl
      have HAC := Lib.hid (show acN ls[k] = (ls[k].1.toNat, ls[k].2.toNat) from rfl)
      generalize ls[k] = y at c1 c2 HT HAC hai
      obtain ⟨y1, y2⟩ := y
      dsimp only at c1 c2 HAC hai
      obtain ⟨u, rfl⟩ := Int.eq_ofNat_of_zero_le hai.1.1
      obtain ⟨a, rfl⟩ := Int.eq_ofNat_of_zero_le hai.2.1
      have i1 : (0 : Int) ≤ (k : Int) := by omega
      have i2 : (k : Int) < (n : Int) := by omega
      have j1 : (u : Int) < (U : Int) := hai.1.2
      have j2 : (a : Int) < (A : Int) := hai.2.2
      have j3 : (0 : Int) ≤ (S0 : Int) := by omega
      have j4 : (S0 : Int) < (N : Int) := by omega
      obtain ⟨b1, o1, c3, b2, o2, c4, k1, k2, k3⟩ := HN.out S0 u a hlt0 (by omega) (by omega)
      have bxs := Box.new wr #[.int .i64 (u : Int), .int .i64 (a : Int)] 118 wr.heap.size rfl
      have hkb : Kept wr (wr.alloc (.cells #[.int .i64 (u : Int), .int .i64 (a : Int)] 118)) := (Kept.refl _).alloc _
      have HKB := Lib.hid (hkw.trans hkb)
      have t1 := kw_cell ((HKB.out.cell (cell_lt k1)).trans k1)
      have t2 := kw_cell ((HKB.out.cell (cell_lt k2)).trans k2)
      have t3 := kw_cell ((HKB.out.cell (cell_lt k3)).trans k3)
      have t4 := kw_cell ((HKB.out.cell (cell_lt b3)).trans b3)
      have t5 := kw_cell (bxs.at_ 0 rfl)
      have t6 := kw_cell (bxs.at_ 1 rfl)
      have HNEW := Lib.hid (show leads nx s ((ls.take (k + 1)).map acN) = nx S0 u a by
        rw [HT.out, List.map_append, List.map_singleton, leads_snoc, HS0.out, HAC.out]
        rfl)
      generalize nx S0 u a = S1 at t3 HNEW
      clear k1 k2 k3 hai hkb bxs hkw hlt0
      go_wp2_with fail
      refine wp_region_kept (by kernel_rfl) (by kernel_rfl) ?_
      repeat (go_big_quiet_step (fail))
      refine wpQuiet_nil ?_
      intro w6 k6
      have K6 := Lib.hid (HKB.out.trans k6)
      clear t1 t2 t3 t4 t5 t6 k6
      go_wp2_with fail
      go_roundw
      case rel => exact ⟨k + 1, by omega, by go_num, by rw [HNEW.out], K6.out⟩
      case measure => simp [intOf]; omega
    · have HE := Lib.hid (show ls.take k = ls from List.take_of_length_le (by have := HLN.out; omega))
      have HKW := Lib.hid hkw
      clear hkw
      generalize hS0 : leads nx s ((ls.take k).map acN) = S0
      have HS0 := Lib.hid hS0
      clear hS0
      go_wp2_with fail
      go_ret
      exact ⟨by rw [← HE.out, HS0.out]; rfl, HKA.out.trans HKW.out⟩
end Go.Proofs.Ytodkpojmonikiaa
