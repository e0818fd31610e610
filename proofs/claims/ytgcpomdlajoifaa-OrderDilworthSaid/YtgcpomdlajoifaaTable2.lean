/- The walk of order.Table. -/
import Derived.Test.YtgcpomdlajoifaaTable
namespace Go.Proofs.Ytgcpomdlajoifaa
open Go Go.RowKit
set_option linter.unusedVariables false

theorem rowsV_nth {n : Nat} (m : Nat → BitVec 32) {k : Nat} (h : k < n) : nth ((List.range n).map m) k = m k := by
  rw [nth_eq _ _ (by simpa using h)]
  simp
set_option maxHeartbeats 2000000 in
theorem table_any (n : Int) (A : Option Addr) (len c : Nat) (ps : List Pr) (w : World) (hp : SlP w A len ps) :
    Calls Try.prog 15 #[.int .i64 n, .slice A len c] w (RetTab w n ps) := by
  by_cases hbad : n < 1 ∨ 6 < n ∨ 20 < len
  · have HF := Lib.hid (ordF_large (n := n) (ps := ps) (by rw [hp.2]; exact hbad))
    clear hp
    have fin : RetTab w n ps (.returned (.tuple #[.slice none 0 0, .int .i64 1])) w := ⟨Kept.refl _, .inr ⟨by rw [HF.out]; rfl, by rw [HF.out]⟩⟩
    have FIN := Lib.hid fin
    clear fin
    by_cases a : n < 1
    · have : decide (n < 1) = true := by simpa using a
      clear hbad
      go_enter Try.func15, Try.ntmps15
      go_wp2
      go_ret2
      exact FIN.out
    · have d1 : decide (n < 1) = false := by simpa using a
      by_cases a2 : 6 < n
      · have d2 : decide (6 < n) = true := by simpa using a2
        clear hbad
        go_enter Try.func15, Try.ntmps15
        go_wp2
        go_ret2
        exact FIN.out
      · have d2 : decide (6 < n) = false := by simpa using a2
        have d3 : decide (20 < (len : Int)) = true := by simp; omega
        clear hbad
        go_enter Try.func15, Try.ntmps15
        go_wp2
        go_ret2
        exact FIN.out
  · have h1 : 1 ≤ n := by omega
    have h6 : n ≤ 6 := by omega
    have hlen : len ≤ 20 := by omega
    obtain ⟨nn, rfl⟩ := Int.eq_ofNat_of_zero_le (show 0 ≤ n by omega)
    rw [← hp.2] at hbad
    have HARG := Lib.hid (fun k hk hno => ordF_arg (n := nn) (ps := ps) hbad (k := k) hk hno)
    have HFORM := Lib.hid (fun ha => ordF_form (n := nn) (ps := ps) hbad ha)
    clear hbad
    have hd : decide ((nn : Int) < 1) = false := by simp; omega
    have hd2 : decide (6 < (nn : Int)) = false := by simp; omega
    have hd3 : decide (20 < (len : Int)) = false := by simp; omega
    have hmk := run_make1 (P := Try.prog) 23 29 Try.underlying23 info_u32 rfl (by decide) nn (by omega)
    go_enter Try.func15, Try.ntmps15
    go_wp2_with fail
    have hr0 : Row w (w.alloc (.cells (rep nn (.int .u32 0)) 29)) w.heap.size 29 (fillTo (fun i => Value.int .u32 (W (1#32 <<< i))) (.int .u32 0) nn 0) := by
      rw [rep_fill]
      exact Row.new (Kept.refl w) _ _ _ rfl
    go_loopw [29] (fun i wr => ∃ k : Nat, k ≤ nn ∧ i = .int .i64 k ∧ Row w wr w.heap.size 29 (fillTo (fun i => Value.int .u32 (W (1#32 <<< i))) (.int .u32 0) nn k)) (fun i _ => nn - (intOf i).toNat)
    case atStart => exact ⟨0, Nat.zero_le _, rfl, hr0⟩
    case round =>
      obtain ⟨k, hk, rfl, hr⟩ := hrel
      by_cases hlt : k < nn
      · have c0 := hr.cell k (fillTo_at _ _ nn k k hlt)
        rw [if_neg (Nat.lt_irrefl k)] at c0
        have f0 := hr.free k
        have hi1 : (0 : Int) ≤ (k : Int) := by omega
        have hi2 : (k : Int) < (nn : Int) := by omega
        go_wp2_with fail
        go_roundw
        case rel => exact ⟨k + 1, by omega, by go_num, by rw [← fillTo_set]; exact hr.set k _⟩
        case measure => simp [intOf]; omega
      · have HK := Lib.hid (show k = nn by omega)
        rw [HK.out, fillTo_done] at hr
        have hr1 : Row w wr w.heap.size 29 (rowsV nn fun i => 1#32 <<< i) := hr
        clear hr
        go_wp2_with fail
        go_loopw [40] (fun i wr => ∃ (k : Nat) (m : Nat → BitVec 32), k ≤ len ∧ i = .int .i64 k ∧ Row w wr w.heap.size 29 (rowsV nn m) ∧ Hid (Begun nn (ps.take k) m) ∧ Hid ((ps.take k).all (prOk nn) = true)) (fun i _ => len - (intOf i).toNat)
        case atStart => exact ⟨0, _, Nat.zero_le _, rfl, hr1, Lib.hid (Begun.start nn (by omega)), Lib.hid rfl⟩
        case round =>
          obtain ⟨k, m, hk, rfl, hr, hbeg, hall⟩ := hrel
          by_cases hlt : k < len
          · obtain ⟨b, off, hkr, rfl, hb, c1, c2⟩ := (hp.kept hr.kept0).get k hlt
            have hs := Lib.hid (all_snoc (prOk nn) _ _ hkr)
            have hs2 := Lib.hid (take_snoc ps k hkr)
            have harg := Lib.hid (HARG.out k hkr)
            have hno := Lib.hid (prOk_no (n := nn) (p := ps[k]))
            have hpo := Lib.hid (prOk_iff (n := nn) (p := ps[k]))
            cases hok : prOk nn ps[k]
            · have HA := Lib.hid (harg.out hok)
              have hcase := hno.out hok
              clear hok harg hno hpo hs hs2
              generalize ps[k].1 = p1 at c1 hcase
              generalize ps[k].2 = p2 at c2 hcase
              have fin : ∀ w', Kept w w' → RetTab w nn ps (.returned (.tuple #[.slice none 0 0, .int .i64 2])) w' := fun w' hk => ⟨hk, .inr ⟨by rw [HA.out]; rfl, by rw [HA.out]⟩⟩
              have FIN := Lib.hid fin
              clear fin
              by_cases q : p2 < p1
              · have q2 : p2 ≤ p1 := by omega
                have e1 : decide (p2 < p1) = true := by simpa using q
                have e2 : decide (p2 ≤ p1) = true := by simpa using q2
                by_cases r : p2 < 0
                · have d1 : decide (p2 < 0) = true := by simpa using r
                  clear hcase
                  go_wp2_with fail
                  go_ret2
                  exact FIN.out _ (hr.kept0.alloc _)
                · have r2 : (nn : Int) ≤ p1 := by omega
                  have q4 : ¬ p1 < p2 := by omega
                  have e4 : decide (p1 < p2) = false := by simpa using q4
                  have d1 : decide (p2 < 0) = false := by simpa using r
                  have d2 : decide ((nn : Int) ≤ p1) = true := by simpa using r2
                  clear hcase
                  go_wp2_with fail
                  go_ret2
                  exact FIN.out _ (hr.kept0.alloc _)
              · have e1 : decide (p2 < p1) = false := by simpa using q
                by_cases r : p1 < 0
                · have d1 : decide (p1 < 0) = true := by simpa using r
                  clear hcase
                  go_wp2_with fail
                  go_ret2
                  exact FIN.out _ (hr.kept0.alloc _)
                · have r2 : (nn : Int) ≤ p2 := by omega
                  have d1 : decide (p1 < 0) = false := by simpa using r
                  have d2 : decide ((nn : Int) ≤ p2) = true := by simpa using r2
                  clear hcase
                  by_cases q3 : p1 < p2
                  · have e3 : decide (p1 < p2) = true := by simpa using q3
                    go_wp2_with fail
                    go_ret2
                    exact FIN.out _ (hr.kept0.alloc _)
                  · have e3 : decide (p1 < p2) = false := by simpa using q3
                    have e4 : p1 = p2 := by omega
                    subst e4
                    go_wp2_with fail
                    go_ret2
                    exact FIN.out _ (hr.kept0.alloc _)
            · have HOK := Lib.hid hok
              have hy := hpo.out.1 hok
              clear hok harg hno hpo
              have hpk : ps[k] = (ps[k].1, ps[k].2) := rfl
              obtain ⟨a, ha⟩ := Int.eq_ofNat_of_zero_le hy.1.1
              obtain ⟨d, hd'⟩ := Int.eq_ofNat_of_zero_le hy.2.1
              rw [ha, hd'] at hpk
              rw [ha] at c1
              rw [hd'] at c2
              have han : a < nn := by omega
              have hdn : d < nn := by omega
              have HS2 := Lib.hid (hs2.out.trans (by rw [hpk]))
              have hstep := Lib.hid (hbeg.out.step (by omega) han hdn)
              clear hy ha hd' hpk hs2
              have c0 := hr.cell a (rowsV_at m han)
              have f0 := hr.free a
              have hnew : ∀ wx, Row w wx w.heap.size 29 (rowsV nn m) → Row w (wx.setCell ⟨w.heap.size, a, none⟩ (.int .u32 (W (m a ||| 1#32 <<< d)))) w.heap.size 29 (rowsV nn (updN m a (m a ||| 1#32 <<< d))) := fun wx hx => by
                rw [← rowsV_set]
                exact hx.set a _
              have HNEW := Lib.hid hnew
              clear hnew
              have hlt1 := hr.lt
              have hi1 : (0 : Int) ≤ (a : Int) := by omega
              have hi2 : (a : Int) < (nn : Int) := by omega
              have g1 : decide ((a : Int) < 0) = false := by simp
              have g2 : decide ((d : Int) < 0) = false := by simp
              have g3 : decide ((nn : Int) ≤ (a : Int)) = false := by simp; omega
              have g4 : decide ((nn : Int) ≤ (d : Int)) = false := by simp; omega
              by_cases q : (d : Int) < (a : Int)
              · have e1 : decide ((d : Int) < (a : Int)) = true := by simpa using q
                have q2 : ¬ (a : Int) < (d : Int) := by omega
                have e2 : decide ((a : Int) < (d : Int)) = false := by simpa using q2
                go_wp2_with fail
                go_region
                go_wp2_with fail
                go_roundw
                case rel => exact ⟨k + 1, _, by omega, by go_num, (HNEW.out _ hr).kept (((Kept.refl _).alloc _).drew), Lib.hid (by rw [HS2.out]; exact hstep.out), Lib.hid (by rw [hs.out, hall.out, HOK.out]; rfl)⟩
                case measure => simp [intOf]; omega
              · have e1 : decide ((d : Int) < (a : Int)) = false := by simpa using q
                by_cases q2 : (a : Int) < (d : Int)
                · have e2 : decide ((a : Int) < (d : Int)) = true := by simpa using q2
                  go_wp2_with fail
                  go_region
                  go_wp2_with fail
                  go_roundw
                  case rel => exact ⟨k + 1, _, by omega, by go_num, (HNEW.out _ hr).kept (((Kept.refl _).alloc _).drew), Lib.hid (by rw [HS2.out]; exact hstep.out), Lib.hid (by rw [hs.out, hall.out, HOK.out]; rfl)⟩
                  case measure => simp [intOf]; omega
                · have e2 : decide ((a : Int) < (d : Int)) = false := by simpa using q2
                  have e3 : a = d := by omega
                  subst e3
                  go_wp2_with fail
                  go_region
                  go_wp2_with fail
                  go_roundw
                  case rel => exact ⟨k + 1, _, by omega, by go_num, (HNEW.out _ hr).kept (((Kept.refl _).alloc _).drew), Lib.hid (by rw [HS2.out]; exact hstep.out), Lib.hid (by rw [hs.out, hall.out, HOK.out]; rfl)⟩
                  case measure => simp [intOf]; omega
          · have hk' : ps.take k = ps := take_all ps k (by rw [hp.2]; omega)
            have hall' := hall.out
            have hbeg' := hbeg.out
            rw [hk'] at hall' hbeg'
            have HALL := Lib.hid hall'
            have HF := Lib.hid (HFORM.out hall')
            have HP0 := Lib.hid (Passed.start hbeg')
            clear hk' hall' hbeg' HFORM HARG hall hbeg
            go_wp2_with fail
            go_loopw [72] (fun i wr => ∃ (k : Nat) (m : Nat → BitVec 32), k ≤ nn ∧ i = .int .i64 k ∧ Row w wr w.heap.size 29 (rowsV nn m) ∧ Hid (Passed nn ps k 0 m)) (fun i _ => nn - (intOf i).toNat)
            case atStart => exact ⟨0, m, Nat.zero_le _, rfl, hr, HP0⟩
            case round =>
              obtain ⟨k, m, hk, rfl, hr, hpass⟩ := hrel
              by_cases hlt1 : k < nn
              · go_wp2_with fail
                go_loopw [77] (fun v wr => ∃ (i : Nat) (m : Nat → BitVec 32), i ≤ nn ∧ v = .int .i64 i ∧ Row w wr w.heap.size 29 (rowsV nn m) ∧ Hid (Passed nn ps k i m)) (fun v _ => nn - (intOf v).toNat)
                case atStart => exact ⟨0, m, Nat.zero_le _, rfl, hr, hpass⟩
                case round =>
                  obtain ⟨i, m, hi, rfl, hr, hpass⟩ := hrel
                  by_cases hlt2 : i < nn
                  · have c0 := hr.cell i (rowsV_at m hlt2)
                    have c1 := hr.cell k (rowsV_at m hlt1)
                    have f0 := hr.free i
                    have hi1 : (0 : Int) ≤ (i : Int) := by omega
                    have hi2 : (i : Int) < (nn : Int) := by omega
                    have hi3 : (0 : Int) ≤ (k : Int) := by omega
                    have hi4 : (k : Int) < (nn : Int) := by omega
                    have hskip := Lib.hid (hpass.out.skip hlt2 hlt1)
                    have hadd := Lib.hid (hpass.out.add hlt2 hlt1)
                    have hnew : Row w (wr.setCell ⟨w.heap.size, i, none⟩ (.int .u32 (W (m i ||| m k)))) w.heap.size 29 (rowsV nn (updN m i (m i ||| m k))) := by
                      rw [← rowsV_set]
                      exact hr.set i _
                    have HNEW := Lib.hid hnew
                    clear hnew
                    cases hb : (m i).getLsbD k
                    · have HB := Lib.hid hb
                      go_wp2_with fail
                      go_roundw
                      case rel => exact ⟨i + 1, m, by omega, by go_num, hr, Lib.hid (hskip.out HB.out)⟩
                      case measure => simp [intOf]; omega
                    · have HB := Lib.hid hb
                      go_wp2_with fail
                      go_region
                      go_wp2_with fail
                      go_roundw
                      case rel => exact ⟨i + 1, _, by omega, by go_num, HNEW.out.drew, Lib.hid (hadd.out HB.out)⟩
                      case measure => simp [intOf]; omega
                  · have HI := Lib.hid (show i = nn by omega)
                    go_wp2_with fail
                    go_roundw
                    case rel => exact ⟨k + 1, m, by omega, by go_num, hr, Lib.hid (by have h := hpass.out; rw [HI.out] at h; exact h.next)⟩
                    case measure => simp [intOf]; omega
              · have hkn : k = nn := by omega
                have hin := List.all_eq_true.1 HALL.out
                have hpn : Passed nn ps nn 0 m := by
                  have h := hpass.out
                  rw [hkn] at h
                  exact h
                have hdone := hpn.done (by omega) (fun p hp => prOk_iff.1 (hin p hp))
                have hsl := rowsV_sl hr
                rw [hdone] at hsl
                have hkept := hr.kept0
                have hn32 : nn ≤ 32 := by omega
                have HBIT := Lib.hid (show ∀ i, i < nn → ∀ j, j < nn → (nth (upL nn ps) i).getLsbD j = under ps i j from fun i hi j hj => by rw [upL_bit ps hn32 hi]; simp [hj])
                clear hin hdone hpn hr hpass HALL HP0 hkn
                go_wp2_with fail
                go_loopw [102] (fun v wr' => ∃ i : Nat, i ≤ nn ∧ v = .int .i64 i ∧ Kept w wr' ∧ SlW wr' (some ⟨w.heap.size, 0, none⟩) nn (upL nn ps) ∧ Hid (twins ps i = false)) (fun v _ => nn - (intOf v).toNat)
                case atStart => exact ⟨0, Nat.zero_le _, rfl, hkept, hsl, Lib.hid rfl⟩
                case round =>
                  obtain ⟨i, hi, rfl, hk1, hs1, ht⟩ := hrel
                  by_cases hlt2 : i < nn
                  · go_wp2_with fail
                    go_loopw [106] (fun v wr' => ∃ j : Nat, j ≤ i ∧ v = .int .i64 j ∧ Kept w wr' ∧ SlW wr' (some ⟨w.heap.size, 0, none⟩) nn (upL nn ps) ∧ Hid (twinsAt ps i j = false)) (fun v _ => i - (intOf v).toNat)
                    case atStart => exact ⟨0, Nat.zero_le _, rfl, hk1, hs1, Lib.hid rfl⟩
                    case round =>
                      obtain ⟨j, hj, rfl, hk2, hs2, ht2⟩ := hrel
                      by_cases hlt3 : j < i
                      · have hs := Lib.hid (twinsAt_succ ps i j)
                        have hend := Lib.hid (twins_at (ps := ps) (n := nn) hlt2 hlt3)
                        unfold twin at hs hend
                        have hb1 := HBIT.out i hlt2 j (by omega)
                        have hb2 := HBIT.out j (by omega) i hlt2
                        obtain ⟨b1, o1, e1, _, ci⟩ := hs2.getN i hlt2
                        obtain ⟨b2, o2, e2, _, cj⟩ := hs2.getN j (by omega)
                        injection e1 with e1
                        injection e1 with e1 e1'
                        injection e2 with e2
                        injection e2 with e2 e2'
                        subst e1 e1' e2 e2'
                        rw [Nat.zero_add] at ci cj
                        generalize nth (upL nn ps) i = x at hb1 ci
                        generalize nth (upL nn ps) j = y at hb2 cj
                        have hi1 : (0 : Int) ≤ (i : Int) := by omega
                        have hi2 : (i : Int) < (nn : Int) := by omega
                        have hi3 : (0 : Int) ≤ (j : Int) := by omega
                        have hi4 : (j : Int) < (nn : Int) := by omega
                        cases hu : under ps i j
                        · have HU := Lib.hid hu
                          rw [hu] at hb1
                          go_wp2_with fail
                          go_roundw
                          case rel => exact ⟨j + 1, by omega, by go_num, hk2, hs2, Lib.hid (by rw [hs.out, ht2.out, HU.out]; rfl)⟩
                          case measure => simp [intOf]; omega
                        · have HU := Lib.hid hu
                          rw [hu] at hb1
                          cases hu2 : under ps j i
                          · have HU2 := Lib.hid hu2
                            rw [hu2] at hb2
                            go_wp2_with fail
                            go_roundw
                            case rel => exact ⟨j + 1, by omega, by go_num, hk2, hs2, Lib.hid (by rw [hs.out, ht2.out, HU.out, HU2.out]; rfl)⟩
                            case measure => simp [intOf]; omega
                          · have HE := Lib.hid (hend.out (by rw [hu, hu2]; rfl))
                            have fin : ∀ w', Kept w w' → RetTab w nn ps (.returned (.tuple #[.slice none 0 0, .int .i64 3])) w' := fun w' hk => ⟨hk, .inr ⟨by rw [HF.out, HE.out]; rfl, by rw [HF.out, HE.out]; rfl⟩⟩
                            have FIN := Lib.hid fin
                            clear fin
                            rw [hu2] at hb2
                            go_wp2_with fail
                            go_ret2
                            exact FIN.out _ hk2
                      · have HJ := Lib.hid (show j = i by omega)
                        go_wp2_with fail
                        go_roundw
                        case rel => exact ⟨i + 1, by omega, by go_num, hk2, hs2, Lib.hid (by have h2 := ht2.out; rw [HJ.out] at h2; rw [twins_succ, ht.out, h2]; rfl)⟩
                        case measure => simp [intOf]; omega
                  · have HI := Lib.hid (show i = nn by omega)
                    have HF0 := Lib.hid (show ordF nn ps = 0 by rw [HF.out, ← HI.out, ht.out]; rfl)
                    have fin : ∀ w' c', SlW w' (some ⟨w.heap.size, 0, none⟩) nn (upL nn ps) → Kept w w' → RetTab w nn ps (.returned (.tuple #[.slice (some ⟨w.heap.size, 0, none⟩) nn c', .int .i64 0])) w' := fun w' c' hs hk => ⟨hk, .inl ⟨HF0.out, _, c', rfl, hs⟩⟩
                    have FIN := Lib.hid fin
                    clear fin
                    go_wp2_with fail
                    go_ret2
                    exact FIN.out _ _ hs1 hk1
end Go.Proofs.Ytgcpomdlajoifaa
