/- The walks of package rights: wrong; and of the statements' side: MatrixCheck, Matrices. -/
import Derived.Test.YtekpifobhgjepaaMx
import Derived.Test.YtekpifobhgjepaaWords
import Derived.Test.YtekpifobhgjepaaFirst
import Derived.Test.YtekpifobhgjepaaCloneW
namespace Go.Proofs.Ytekpifobhgjepaa
open Go Go.RowKit
set_option linter.unusedVariables false

/-- a row of another length -/
def neRow (n : Nat) (r : Wr) : Bool := (r.2.1 : Int) != (n : Int)
def rightF (n : Int) (rs : List Wr) (k : Nat) : Int := if n < 1 ∨ 6 < n ∨ 10 < k then 1 else if ((rs.length : Int) != n) = true then 3 else if rs.any (neRow n.toNat) = true then 3 else 0
theorem rightF_zero {n : Int} {rs : List Wr} {k : Nat} (h : rightF n rs k = 0) : ∃ nn : Nat, n = nn ∧ 1 ≤ nn ∧ nn ≤ 6 ∧ k ≤ 10 ∧ rs.length = nn ∧ ∀ r ∈ rs, r.2.1 = nn := by
  unfold rightF at h
  by_cases h1 : n < 1 ∨ 6 < n ∨ 10 < k
  · rw [if_pos h1] at h; cases h
  · rw [if_neg h1] at h
    obtain ⟨nn, rfl⟩ := Int.eq_ofNat_of_zero_le (show 0 ≤ n by omega)
    rw [Int.toNat_natCast] at h
    cases h2 : (rs.length : Int) != (nn : Int)
    · rw [h2, if_neg (by simp)] at h
      cases h3 : rs.any (neRow nn)
      · refine ⟨nn, rfl, by omega, by omega, by omega, by have := bne_eq_false_iff_eq.1 h2; omega, fun r hr => ?_⟩
        rw [List.any_eq_false] at h3
        have := h3 r hr
        unfold neRow at this
        simp at this
        omega
      · rw [if_pos h3] at h; cases h
    · rw [if_pos h2] at h; cases h
theorem rightF_ok {nn : Nat} {rs : List Wr} {k : Nat} (h1 : 1 ≤ nn) (h6 : nn ≤ 6) (hk : k ≤ 10) (hl : rs.length = nn) (hr : ∀ r ∈ rs, r.2.1 = nn) : rightF nn rs k = 0 := by
  unfold rightF
  rw [if_neg (by omega), if_neg (by rw [hl]; simp), if_neg]
  rw [Int.toNat_natCast]
  intro h
  rw [List.any_eq_true] at h
  obtain ⟨r, hr1, h2⟩ := h
  unfold neRow at h2
  rw [hr r hr1] at h2
  simp at h2
theorem rightF_big {n : Int} {rs : List Wr} {k m : Nat} (h : rightF n rs k = 0) (h2 : rightF n rs m ≠ 0) : 10 < m := by
  obtain ⟨nn, rfl, h1, h6, _, hl, hr⟩ := rightF_zero h
  refine Classical.byContradiction fun hc => h2 (rightF_ok h1 h6 (by omega) hl hr)
theorem rights1_any (nn : Nat) (p : Addr) (r : Wr) (w : World) (hp : w.cell? p = some (.int .i64 nn)) :
    Calls Try.prog 61 #[.slice r.1 r.2.1 r.2.2.1, .pointer (some p)] w fun e w' => e = .returned (.bool (neRow nn r)) ∧ w = w' := by
  go_enter Try.func61, Try.ntmps61
  go_wp2
  go_ret
  exact ⟨rfl, rfl⟩
theorem rightsIndex_any (nn : Nat) (p : Addr) (A : Option Addr) (n c : Nat) (xs : List Wr) (w : World) (hs : SlX w A n xs) (hn : n ≤ 1000) (hp : w.cell? p = some (.int .i64 nn)) :
    Calls Try.prog 66 #[.slice A n c, .func (.func 61) #[] #[.pointer (some p)]] w fun e w' => e = .returned (.int .i64 (firstI (neRow nn) xs)) ∧ w = w' := by
  go_enter Try.func66, Try.ntmps66
  go_wp2_with fail
  go_loop [8] (fun t => ∃ q : Nat, q ≤ n ∧ t = .int .i64 q ∧ Hid ((xs.take q).any (neRow nn) = false)) (fun t => n - (intOf t).toNat)
  case atStart => exact ⟨0, Nat.zero_le _, rfl, Lib.hid rfl⟩
  case round =>
    obtain ⟨q, hq, rfl, HN⟩ := hrel
    by_cases hlt : q < n
    · obtain ⟨b, off, hk, rfl, hb, cq, hrow⟩ := hs.get q hlt
      have hsn := Lib.hid (any_snoc (neRow nn) xs q hk)
      have hhit := Lib.hid (firstI_hit (neRow nn) xs q hk HN.out)
      cases hb1 : (neRow nn) xs[q]
      · have HB := Lib.hid hb1
        clear hb1
        go_wp2_with fail
        refine (rights1_any nn p _ _ hp).mono ?_
        rintro e w' ⟨rfl, rfl⟩
        rw [HB.out]
        go_wp2_with fail
        go_round
        case rel => exact ⟨q + 1, by omega, by go_num, Lib.hid (by rw [hsn.out, HN.out, HB.out]; rfl)⟩
        case measure => simp [intOf]; omega
      · have HB := Lib.hid hb1
        clear hb1
        go_wp2_with fail
        refine (rights1_any nn p _ _ hp).mono ?_
        rintro e w' ⟨rfl, rfl⟩
        rw [HB.out]
        go_wp2_with fail
        go_ret
        exact ⟨by rw [hhit.out HB.out]; rfl, rfl⟩
    · have HK := Lib.hid (take_all xs q (by rw [hs.2.1]; omega))
      go_wp2_with fail
      go_ret
      exact ⟨by rw [firstI_none _ _ (by rw [← HK.out]; exact HN.out)]; rfl, rfl⟩
theorem rightsContains_any (nn : Nat) (p : Addr) (A : Option Addr) (n c : Nat) (xs : List Wr) (w : World) (hs : SlX w A n xs) (hn : n ≤ 1000) (hp : w.cell? p = some (.int .i64 nn)) :
    Calls Try.prog 60 #[.slice A n c, .func (.func 61) #[] #[.pointer (some p)]] w fun e w' => e = .returned (.bool (xs.any (neRow nn))) ∧ w = w' := by
  have H := Lib.hid (firstI_ge (neRow nn) xs)
  go_enter Try.func60, Try.ntmps60
  go_wp2_with fail
  refine (rightsIndex_any nn p _ _ _ xs _ hs hn hp).mono ?_
  rintro e w' ⟨rfl, rfl⟩
  go_wp2_with fail
  go_ret
  exact ⟨by rw [← H.out]; rfl, rfl⟩

theorem guards10 {n : Int} {len : Nat} (hbad : n < 1 ∨ 6 < n ∨ 10 < len) : decide (n < 1) = true ∨ (decide (n < 1) = false ∧ decide (6 < n) = true) ∨ (decide (n < 1) = false ∧ decide (6 < n) = false ∧ decide (10 < (len : Int)) = true) := by
  simp only [decide_eq_true_eq, decide_eq_false_iff_not]
  omega
set_option maxHeartbeats 800000 in
theorem rightsWrong_any (n : Int) (A : Option Addr) (len c : Nat) (rs : List Wr) (A2 : Option Addr) (k c2 : Nat) (w : World) (hs : SlX w A len rs) :
    Calls Try.prog 46 #[.int .i64 n, .slice A len c, .slice A2 k c2] w fun e w' => e = .returned (.int .i64 (rightF n rs k)) ∧ Kept w w' := by
  by_cases hbad : n < 1 ∨ 6 < n ∨ 10 < k
  · have HF := Lib.hid (show rightF n rs k = 1 by unfold rightF; rw [if_pos hbad])
    clear hs
    rcases guards10 hbad with d1 | ⟨d1, d2⟩ | ⟨d1, d2, d3⟩
    all_goals
      clear hbad
      go_enter Try.func46, Try.ntmps46
      go_wp2
      go_ret
      exact ⟨by rw [HF.out]; rfl, (Kept.refl _).alloc _⟩
  · obtain ⟨nn, rfl⟩ := Int.eq_ofNat_of_zero_le (show 0 ≤ n by omega)
    have hn6 : nn ≤ 6 := by omega
    have d1 : decide ((nn : Int) < 1) = false := by simp; omega
    have d2 : decide (6 < (nn : Int)) = false := by simp; omega
    have d3 : decide (10 < (k : Int)) = false := by simp; omega
    have hl := hs.2.1
    have HF := Lib.hid (show rightF nn rs k = if ((len : Int) != (nn : Int)) = true then 3 else if rs.any (neRow nn) = true then 3 else 0 by unfold rightF; rw [if_neg hbad, hl, Int.toNat_natCast])
    have hka : Kept w (w.alloc (.cells #[.int .i64 nn] 3)) := (Kept.refl _).alloc _
    clear hbad hl
    cases hne : (len : Int) != (nn : Int)
    · have hl5 : len ≤ 1000 := by have := bne_eq_false_iff_eq.1 hne; omega
      have HN := Lib.hid hne
      go_enter Try.func46, Try.ntmps46
      go_wp2_with fail
      have bx := Box.new w #[.int .i64 nn] 3 w.heap.size rfl
      refine (rightsContains_any nn ⟨w.heap.size, 0, none⟩ _ _ _ rs _ (hs.kept hka) hl5 (bx.at_ 0 rfl)).mono ?_
      rintro e w1 ⟨rfl, rfl⟩
      cases ha : rs.any (neRow nn)
      · have HV := Lib.hid (show rightF nn rs k = 0 by rw [HF.out, HN.out, ha]; rfl)
        clear ha
        go_wp2_with fail
        go_ret
        exact ⟨by rw [HV.out]; rfl, hka⟩
      · have HV := Lib.hid (show rightF nn rs k = 3 by rw [HF.out, HN.out, ha]; rfl)
        clear ha
        go_wp2_with fail
        go_ret
        exact ⟨by rw [HV.out]; rfl, hka⟩
    · have HV := Lib.hid (show rightF nn rs k = 3 by rw [HF.out, hne]; rfl)
      go_enter Try.func46, Try.ntmps46
      go_wp2_with fail
      go_ret
      exact ⟨by rw [HV.out]; rfl, hka⟩
set_option maxHeartbeats 800000 in
theorem matrixCheck_any (n : Int) (A : Option Addr) (len c : Nat) (rs : List Wr) (A2 : Option Addr) (k c2 : Nat) (w : World) (hs : SlX w A len rs) :
    Calls Try.prog 27 #[.int .i64 n, .slice A len c, .slice A2 k c2] w fun e w' => e = .returned (.int .i64 (rightF n rs k)) ∧ w = w' := by
  by_cases hbad : n < 1 ∨ 6 < n ∨ 10 < k
  · have HF := Lib.hid (show rightF n rs k = 1 by unfold rightF; rw [if_pos hbad])
    clear hs
    rcases guards10 hbad with d1 | ⟨d1, d2⟩ | ⟨d1, d2, d3⟩
    all_goals
      clear hbad
      go_enter Try.func27, Try.ntmps27
      go_wp2
      go_ret
      exact ⟨by rw [HF.out]; rfl, rfl⟩
  · obtain ⟨nn, rfl⟩ := Int.eq_ofNat_of_zero_le (show 0 ≤ n by omega)
    have hn6 : nn ≤ 6 := by omega
    have d1 : decide ((nn : Int) < 1) = false := by simp; omega
    have d2 : decide (6 < (nn : Int)) = false := by simp; omega
    have d3 : decide (10 < (k : Int)) = false := by simp; omega
    have hl := hs.2.1
    have HF := Lib.hid (show rightF nn rs k = if ((len : Int) != (nn : Int)) = true then 3 else if rs.any (neRow nn) = true then 3 else 0 by unfold rightF; rw [if_neg hbad, hl, Int.toNat_natCast])
    have HL := Lib.hid hs.2.1
    clear hbad hl
    cases hne : (len : Int) != (nn : Int)
    · have HN := Lib.hid hne
      have hl6 : len ≤ 6 := by have := bne_eq_false_iff_eq.1 hne; omega
      go_enter Try.func27, Try.ntmps27
      go_wp2_with fail
      clear d1 d2 d3
      go_loop [26] (fun t => ∃ q : Nat, q ≤ len ∧ t = .int .i64 q ∧ Hid ((rs.take q).any (neRow nn) = false)) (fun t => len - (intOf t).toNat)
      case atStart => exact ⟨0, Nat.zero_le _, rfl, Lib.hid rfl⟩
      case round =>
        obtain ⟨q, hq, rfl, hno⟩ := hrel
        by_cases hlt : q < len
        · obtain ⟨b, off, hk, rfl, hb, cq, _⟩ := hs.get q hlt
          have HS := Lib.hid (any_snoc (neRow nn) rs q hk)
          have HE := Lib.hid (show neRow nn rs[q] = true → rs.any (neRow nn) = true from fun h => List.any_eq_true.2 ⟨_, List.getElem_mem hk, h⟩)
          have HNE := Lib.hid (show neRow nn rs[q] = ((rs[q].2.1 : Int) != (nn : Int)) from rfl)
          generalize rs[q] = r at cq HS HE HNE
          have hi1 : (0 : Int) ≤ (q : Int) := by omega
          have hi2 : (q : Int) < (len : Int) := by omega
          cases hne2 : (r.2.1 : Int) != (nn : Int)
          · have HV := Lib.hid (HNE.out.trans hne2)
            go_wp2_with fail
            go_round
            case rel => exact ⟨q + 1, by omega, by go_num, Lib.hid (by rw [HS.out, hno.out, HV.out]; rfl)⟩
            case measure => simp [intOf]; omega
          · have HV := Lib.hid (show rightF nn rs k = 3 by rw [HF.out, HN.out, HE.out (HNE.out.trans hne2)]; rfl)
            go_wp2_with fail
            go_ret
            exact ⟨by rw [HV.out]; rfl, rfl⟩
        · have HV := Lib.hid (show rightF nn rs k = 0 by
            have h := hno.out
            rw [take_all rs q (by rw [HL.out]; omega)] at h
            rw [HF.out, HN.out, h]; rfl)
          go_wp2_with fail
          go_ret
          exact ⟨by rw [HV.out]; rfl, rfl⟩
    · have HV := Lib.hid (show rightF nn rs k = 3 by rw [HF.out, hne]; rfl)
      go_enter Try.func27, Try.ntmps27
      go_wp2_with fail
      go_ret
      exact ⟨by rw [HV.out]; rfl, rfl⟩
theorem matrices_any (n : Nat) (A : Option Addr) (c : Nat) (rs : List Wr) (A2 : Option Addr) (c2 : Nat) (rs2 : List Wr) (w : World) (hs : SlX w A n rs) (hs2 : SlX w A2 n rs2) (hn : n ≤ 6) (h1 : ∀ r ∈ rs, r.2.1 = n) (h2 : ∀ r ∈ rs2, r.2.1 = n) (he : eqM n (mxOf rs) (mxOf rs2)) :
    Calls Try.prog 28 #[.slice A n c, .slice A2 n c2] w fun e w' => e = .returned (.bool true) ∧ Kept w w' := by
  have hb : ((n : Int) != (n : Int)) = false := by simp
  have HE := Lib.hid he
  have HA := Lib.hid h1
  have HB := Lib.hid h2
  clear he h1 h2
  go_enter Try.func28, Try.ntmps28
  go_wp2_with fail
  go_loopw [5] (fun t wr => ∃ k : Nat, k ≤ n ∧ t = .int .i64 k ∧ Kept w wr) (fun t _ => n - (intOf t).toNat)
  case atStart => exact ⟨0, Nat.zero_le _, rfl, Kept.refl _⟩
  case round =>
    obtain ⟨k, hk, rfl, hkw⟩ := hrel
    by_cases hlt : k < n
    · obtain ⟨b1, o1, hk1, rfl, _, c1', r1⟩ := (hs.kept hkw).get k hlt
      obtain ⟨b2, o2, hk2, rfl, _, c2', r2⟩ := (hs2.kept hkw).get k hlt
      have hi1 : (0 : Int) ≤ (k : Int) := by omega
      have hi2 : (k : Int) < (n : Int) := by omega
      have e1 := HA.out _ (List.getElem_mem hk1)
      have e2 := HB.out _ (List.getElem_mem hk2)
      have hx := r1.1
      have hy := r2.1
      rw [e1] at c1' hx
      rw [e2] at c2' hy
      have hw : rs[k].2.2.2 = rs2[k].2.2.2 := nth_ext (by rw [hx.2, hy.2]) fun j hj => by
        have := HE.out k j hlt (by rw [← hx.2]; exact hj)
        rw [mxOf_at hk1, mxOf_at hk2] at this
        exact this
      have hwf : wordsF rs[k].2.2.2 rs2[k].2.2.2 = true := by rw [hw]; exact wordsF_self _
      have q1 := kw_cell c1'
      have q2 := kw_cell c2'
      have HC := Lib.hid (fun w' h => words_any rs[k].1 n rs[k].2.2.1 rs2[k].1 n rs2[k].2.2.1 rs[k].2.2.2 rs2[k].2.2.2 w' (hx.kept h) (hy.kept h) (by unfold maxLen; omega))
      rw [hwf] at HC
      go_wp2_with fail
      refine wp_region_kept (by kernel_rfl) (by kernel_rfl) ?_
      repeat (go_big_quiet_step ((go_at_call 48; exact kept_of (HC.out _ (KW.kept _)))))
      refine wpQuiet_nil ?_
      intro w4 k4
      go_wp2_with fail
      go_roundw
      case rel => exact ⟨k + 1, by omega, by go_num, hkw.trans k4⟩
      case measure => simp [intOf]; omega
    · go_wp2_with fail
      go_ret
      exact ⟨rfl, hkw⟩
theorem rightsIn_any (x y : BitVec 32) (w : World) : Calls Try.prog 18 #[.int .u32 (W x), .int .u32 (W y)] w fun e w' => e = .returned (.bool (subB x y)) ∧ w = w' := by
  go_enter Try.func18, Try.ntmps18
  go_wp2
  go_ret
  exact ⟨rfl, rfl⟩
end Go.Proofs.Ytekpifobhgjepaa
