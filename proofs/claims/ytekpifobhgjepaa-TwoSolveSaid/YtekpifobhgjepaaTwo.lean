/- The walk of two.reach. -/
import Derived.Test.YtekpifobhgjepaaTwoP
import Derived.Test.YtekpifobhgjepaaClause
namespace Go.Proofs.Ytekpifobhgjepaa
open Go Go.RowKit
set_option linter.unusedVariables false

/-- the code of clauses of two -/
def twoF (n : Int) (rs : List Ru) : Int := if satF n rs ≠ 0 then satF n rs else if rs.any (oddB n.toNat) then 3 else 0
/-- what reach hands back -/
def RetTwo (w : World) (n : Int) (rs : List Ru) (e : Ending) (w' : World) : Prop :=
  Kept w w' ∧ ((twoF n rs = 0 ∧ ∃ A c, e = .returned (.tuple #[.slice A (2 * n.toNat) c, .int .i64 0]) ∧ SlW w' A (2 * n.toNat) (upE (2 * n.toNat) (edgeL n.toNat rs))) ∨
    ((twoF n rs != 0) = true ∧ e = .returned (.tuple #[.slice none 0 0, .int .i64 (twoF n rs)])))
theorem literals_any (n : Nat) (h6 : n ≤ 6) (y z : BitVec 32) (w : World) :
    Calls Try.prog 59 #[.int .i64 n, .agg #[.int .u32 (W y), .int .u32 (W z)]] w fun e w' => e = .returned (.int .u32 (W (litW n (y, z)))) ∧ Kept w w' := by
  go_enter Try.func59, Try.ntmps59
  go_wp2_with fail
  go_region
  go_wp2_with fail
  go_ret
  exact ⟨rfl, ((Kept.refl _).alloc _).drew⟩
set_option maxRecDepth 100000 in
set_option maxHeartbeats 16000000 in
theorem reach_any (n : Int) (A : Option Addr) (len c : Nat) (rs : List Ru) (w : World) (hp : SlR w A len rs) :
    Calls Try.prog 44 #[.int .i64 n, .slice A len c] w (RetTwo w n rs) := by
  by_cases hbad : n < 1 ∨ 6 < n ∨ 16 < len
  · have HF := Lib.hid (show twoF n rs = 1 by
      have : satF n rs = 1 := by unfold satF; rw [if_pos (by rw [hp.2]; exact hbad)]
      unfold twoF; rw [this]; rfl)
    have FIN := Lib.hid (show RetTwo w n rs (.returned (.tuple #[.slice none 0 0, .int .i64 1])) w from ⟨Kept.refl _, .inr ⟨by rw [HF.out]; rfl, by rw [HF.out]⟩⟩)
    rcases guards16 hbad with d1 | ⟨d1, d2⟩ | ⟨d1, d2, d3⟩
    all_goals
      clear hbad
      go_enter Try.func44, Try.ntmps44
      go_wp2_with fail
      go_ret2
      exact FIN.out
  · obtain ⟨nn, rfl⟩ := Int.eq_ofNat_of_zero_le (show 0 ≤ n by omega)
    have HF := Lib.hid (show satF nn rs = if rs.any (misB nn) then 4 else 0 by unfold satF; rw [if_neg (by rw [hp.2]; exact hbad)]; rfl)
    have d1 : decide ((nn : Int) < 1) = false := by simp; omega
    have d2 : decide (6 < (nn : Int)) = false := by simp; omega
    have d3 : decide (16 < (len : Int)) = false := by simp; omega
    have hn6 : nn ≤ 6 := by omega
    have hn1 : 1 ≤ nn := by omega
    have hlen : len ≤ 16 := by omega
    clear hbad
    obtain ⟨N, hN⟩ : ∃ N : Nat, 2 * nn = N := ⟨_, rfl⟩
    have hNi : 2 * (nn : Int) = (N : Int) := by omega
    have hmk := run_make1 (P := Try.prog) 42 23 Try.underlying42 info_u32 rfl (by decide) N (by omega)
    go_enter Try.func44, Try.ntmps44
    go_wp2_with fail
    go_loopw [31] (fun t wr => ∃ q : Nat, q ≤ len ∧ t = .int .i64 q ∧ Kept w wr ∧ Hid ((rs.take q).any (misB nn) = false)) (fun t _ => len - (intOf t).toNat)
    case atStart => exact ⟨0, Nat.zero_le _, rfl, Kept.refl _, Lib.hid rfl⟩
    case round =>
      obtain ⟨q, hq, rfl, hkw, HA⟩ := hrel
      by_cases hlt : q < len
      · obtain ⟨b, off, hk, rfl, hb, c1, c2⟩ := (hp.kept hkw).get q hlt
        have hsn := Lib.hid (any_snoc (misB nn) rs q hk)
        have hyes := Lib.hid (show misB nn rs[q] = true → twoF nn rs = 4 from fun h => by
          have : satF nn rs = 4 := by rw [HF.out, List.any_eq_true.2 ⟨_, List.getElem_mem hk, h⟩]; rfl
          unfold twoF; rw [this]; rfl)
        have hdef := Lib.hid (show misB nn rs[q] = ((rs[q].1 ||| rs[q].2) >>> nn != 0#32) from rfl)
        generalize rs[q] = x at c1 c2 hsn hyes hdef
        obtain ⟨y, z⟩ := x
        simp only at c1 c2
        have hdef2 := hdef.out
        simp only at hdef2
        have HD := Lib.hid hdef2
        clear hdef hdef2
        have hi1 : (0 : Int) ≤ (q : Int) := by omega
        have hi2 : (q : Int) < (len : Int) := by omega
        have hka := hkw.alloc (.cells #[.int .u32 (W y), .int .u32 (W z)] 29)
        cases hy : ((y ||| z) >>> nn != 0#32)
        · have HY := Lib.hid hy
          go_wp2_with fail
          go_roundw
          case rel => exact ⟨q + 1, by omega, by go_num, hka, Lib.hid (by rw [hsn.out, HA.out, HD.out, HY.out]; rfl)⟩
          case measure => simp [intOf]; omega
        · have HY := Lib.hid (hyes.out (by rw [HD.out, hy]))
          have FIN := Lib.hid (fun w' (k : Kept w w') => show RetTwo w nn rs (.returned (.tuple #[.slice none 0 0, .int .i64 4])) w' from ⟨k, .inr ⟨by rw [HY.out]; rfl, by rw [HY.out]⟩⟩)
          go_wp2_with fail
          go_ret2
          exact FIN.out _ hka
      · have hall : rs.any (misB nn) = false := by
          have := HA.out
          rwa [take_all rs q (by rw [hp.2]; omega)] at this
        have HS := Lib.hid (show satF nn rs = 0 by rw [HF.out, hall]; rfl)
        have HFIT := Lib.hid (show ∀ r ∈ rs, fitB nn (r.1 ||| r.2) = true from fun r hr => by
          rw [List.any_eq_false] at hall
          have := hall r hr
          unfold misB at this
          simpa using this)
        clear hall HF
        go_wp2_with fail
        have hr0 : Row w (wr.alloc (.cells (rep N (.int .u32 0)) 23)) wr.heap.size 23 (fillTo (fun i => Value.int .u32 (W (1#32 <<< i))) (.int .u32 0) N 0) := by
          rw [rep_fill]
          exact Row.new hkw _ _ _ rfl
        obtain ⟨B, hB⟩ : ∃ B : Nat, wr.heap.size = B := ⟨_, rfl⟩
        rw [hB] at hr0
        rw [hB]
        go_loopw [49] (fun i wr => ∃ k : Nat, k ≤ N ∧ i = .int .i64 k ∧ Row w wr B 23 (fillTo (fun i => Value.int .u32 (W (1#32 <<< i))) (.int .u32 0) N k)) (fun i _ => N - (intOf i).toNat)
        case atStart => exact ⟨0, Nat.zero_le _, rfl, hr0⟩
        case round =>
          obtain ⟨k, hk, rfl, hr⟩ := hrel
          by_cases hlt : k < N
          · have c0 := hr.cell k (fillTo_at _ _ N k k hlt)
            rw [if_neg (Nat.lt_irrefl k)] at c0
            have f0 := hr.free k
            have hi1 : (0 : Int) ≤ (k : Int) := by omega
            have hi2 : (k : Int) < (N : Int) := by omega
            go_wp2_with fail
            go_roundw
            case rel => exact ⟨k + 1, by omega, by go_num, by rw [← fillTo_set]; exact hr.set k _⟩
            case measure => simp [intOf]; omega
          · have HK := Lib.hid (show k = N by omega)
            rw [HK.out, fillTo_done] at hr
            have hr1 : Row w wr B 23 (rowsV N fun i => 1#32 <<< i) := hr
            have HBEG := Lib.hid (show Begun N (edgeL nn []) fun i => 1#32 <<< i from hN ▸ Begun.unit (n := nn) hn6)
            clear hr hr0
            go_wp2_with fail
            go_loopw [60] (fun i wr => ∃ (k : Nat) (m : Nat → BitVec 32), k ≤ len ∧ i = .int .i64 k ∧ Row w wr B 23 (rowsV N m) ∧ Hid (Begun N (edgeL nn (rs.take k)) m) ∧ Hid ((rs.take k).any (oddB nn) = false)) (fun i _ => len - (intOf i).toNat)
            case atStart => exact ⟨0, _, Nat.zero_le _, rfl, hr1, HBEG, Lib.hid rfl⟩
            case round =>
              obtain ⟨k, m, hk, rfl, hr, HBEG, HODD⟩ := hrel
              by_cases hlt : k < len
              · obtain ⟨b, off, hkr, rfl, hb, c1, c2⟩ := (hp.kept hr.kept0).get k hlt
                have hsn := Lib.hid (any_snoc (oddB nn) rs k hkr)
                have htk := Lib.hid (take_snoc rs k hkr)
                have hyes := Lib.hid (show oddB nn rs[k] = true → twoF nn rs = 3 from fun h => by
                  unfold twoF; rw [HS.out, Int.toNat_natCast, List.any_eq_true.2 ⟨_, List.getElem_mem hkr, h⟩]; rfl)
                have hfit := Lib.hid (litW_fit hn6 (HFIT.out _ (List.getElem_mem hkr)))
                have hdef := Lib.hid (show oddB nn rs[k] = (cnt (litW nn rs[k]) == 0 || decide (2 < cnt (litW nn rs[k]))) from rfl)
                have hdone := fun m' => Lib.hid (Midst.done (n := nn) (rs := rs.take k) (r := rs[k]) (m := m'))
                generalize rs[k] = x at c1 c2 hsn hyes hdef hfit htk hdone
                obtain ⟨y, z⟩ := x
                simp only at c1 c2
                have hlit := literals_any nn hn6 y z
                obtain ⟨x, hx⟩ : ∃ x : BitVec 32, litW nn (y, z) = x := ⟨_, rfl⟩
                have hfit2 := hfit.out
                have hdef2 := hdef.out
                have hf12 : fitB 12 x = true := fitB_iff.2 fun i hi => by
                  rw [hx] at hfit2
                  have := fitB_iff.1 hfit2 i hi
                  omega
                rw [hx] at hlit hfit2 hdef2
                simp only [hx] at hdone
                rw [hN] at hfit2
                obtain ⟨z1, hz1⟩ : ∃ z1 : Nat, Lib.onesCount x.toNat = z1 := ⟨_, rfl⟩
                have hones := ones_any x hf12
                rw [hz1] at hones
                have hcnt : cnt x = z1 := hz1
                rw [hcnt] at hdef2
                have HD := Lib.hid hdef2
                have HCNT := Lib.hid hcnt
                have HFX := Lib.hid hfit2
                clear hdef hdef2 hfit hfit2 hf12 hx hz1 hcnt
                have hi1 : (0 : Int) ≤ (k : Int) := by omega
                have hi2 : (k : Int) < (len : Int) := by omega
                have hra := hr.kept ((Kept.refl wr).alloc (.cells #[.int .u32 (W y), .int .u32 (W z)] 29))
                by_cases hodd : z1 = 0 ∨ 2 < z1
                · have HY := Lib.hid (hyes.out (by rw [HD.out]; simp; omega))
                  have FIN := Lib.hid (fun w' (k : Kept w w') => show RetTwo w nn rs (.returned (.tuple #[.slice none 0 0, .int .i64 3])) w' from ⟨k, .inr ⟨by rw [HY.out]; rfl, by rw [HY.out]⟩⟩)
                  have hcs : ((z1 : Int) == 0) = true ∨ (((z1 : Int) == 0) = false ∧ decide (2 < (z1 : Int)) = true) := by
                    simp; omega
                  rcases hcs with e1 | ⟨e1, e2⟩
                  all_goals
                    clear hodd
                    go_wp2_with fail
                    refine (hlit _).mono ?_
                    rintro e w2 ⟨rfl, k2⟩
                    go_wp2_with fail
                    refine (hones _).mono ?_
                    rintro e w3 ⟨rfl, k3⟩
                    go_wp2_with fail
                    go_ret2
                    exact FIN.out _ ((hra.kept0.trans k2).trans k3)
                · have HODD2 := Lib.hid (show oddB nn (y, z) = false by rw [HD.out]; simp; omega)
                  have e1 : ((z1 : Int) == 0) = false := by simp; omega
                  have e2 : decide (2 < (z1 : Int)) = false := by simp; omega
                  have HM := Lib.hid (Midst.start (n := nn) (rs := rs.take k) (m := m) (by rw [hN]; exact HBEG.out) x)
                  clear hodd
                  go_wp2_with fail
                  refine (hlit _).mono ?_
                  rintro e w2 ⟨rfl, k2⟩
                  go_wp2_with fail
                  refine (hones _).mono ?_
                  rintro e w3 ⟨rfl, k3⟩
                  have hr3 := (hra.kept k2).kept k3
                  go_wp2_with fail
                  go_loopw [77] (fun v wr => ∃ (i : Nat) (m : Nat → BitVec 32), i ≤ N ∧ v = .int .i64 i ∧ Row w wr B 23 (rowsV N m) ∧ Hid (Midst nn (rs.take k) x i m)) (fun v _ => N - (intOf v).toNat)
                  case atStart => exact ⟨0, m, Nat.zero_le _, rfl, hr3, HM⟩
                  case round =>
                    obtain ⟨i, m, hi, rfl, hr, HM⟩ := hrel
                    by_cases hlt2 : i < N
                    · have hi3 : (0 : Int) ≤ (i : Int) := by omega
                      have hi4 : (i : Int) < (N : Int) := by omega
                      cases hb : x.getLsbD i
                      · have HB := Lib.hid hb
                        go_wp2_with fail
                        go_roundw
                        case rel => exact ⟨i + 1, m, by omega, by go_num, hr, Lib.hid (HM.out.skip HB.out)⟩
                        case measure => simp [intOf]; omega
                      · have HB := Lib.hid hb
                        have hng := negN_lt (n := nn) (a := i) (by omega)
                        obtain ⟨t, ht⟩ : ∃ t : Nat, negN nn i = t := ⟨_, rfl⟩
                        rw [ht, hN] at hng
                        have hrem : ((i : Int) + (nn : Int)) % (N : Int) = (t : Int) := by
                          rw [← ht, ← hN]; unfold negN; simp
                        have hadd := Lib.hid (HM.out.add (by omega) HB.out (by rw [hN]; exact HFX.out))
                        rw [ht] at hadd
                        have c0 := hr.cell t (rowsV_at m hng)
                        have f0 := hr.free t
                        have hi5 : (0 : Int) ≤ (t : Int) := by omega
                        have hi6 : (t : Int) < (N : Int) := by omega
                        have hnew : Row w (wr.setCell ⟨B, t, none⟩ (.int .u32 (W (m t ||| otherW x i)))) B 23 (rowsV N (updN m t (m t ||| otherW x i))) := by
                          rw [← rowsV_set]
                          exact hr.set t _
                        have HNEW := Lib.hid hnew
                        clear hnew
                        by_cases h1 : z1 = 1
                        · have e3 : ((z1 : Int) == 1) = true := by simp; omega
                          have HO := Lib.hid (show otherW x i = x by unfold otherW; rw [HCNT.out, h1]; rfl)
                          clear h1
                          rw [HO.out] at HNEW hadd
                          go_wp2_with fail
                          go_roundw
                          case rel => exact ⟨i + 1, _, by omega, by go_num, HNEW.out, Lib.hid hadd.out⟩
                          case measure => simp [intOf]; omega
                        · have e3 : ((z1 : Int) == 1) = false := by simp; omega
                          have HO := Lib.hid (show otherW x i = x &&& ~~~(1#32 <<< i) by unfold otherW; rw [HCNT.out]; rw [if_neg (by simpa using h1)])
                          clear h1
                          rw [HO.out] at HNEW hadd
                          go_wp2_with fail
                          go_roundw
                          case rel => exact ⟨i + 1, _, by omega, by go_num, HNEW.out, Lib.hid hadd.out⟩
                          case measure => simp [intOf]; omega
                    · have HI := Lib.hid (show i = N by omega)
                      have HD2 := Lib.hid (show Begun N (edgeL nn (rs.take (k + 1))) m by
                        have h := HM.out
                        rw [HI.out, ← hN] at h
                        rw [htk.out, ← hN]
                        exact (hdone m).out h)
                      go_wp2_with fail
                      go_roundw
                      case rel => exact ⟨k + 1, m, by omega, by go_num, hr, HD2, Lib.hid (by rw [hsn.out, HODD.out, HODD2.out]; rfl)⟩
                      case measure => simp [intOf]; omega
              · have hk' : rs.take k = rs := take_all rs k (by rw [hp.2]; omega)
                have hodd := HODD.out
                have hbeg := HBEG.out
                rw [hk'] at hodd hbeg
                have HF := Lib.hid (show twoF nn rs = 0 by unfold twoF; rw [HS.out, Int.toNat_natCast, hodd]; rfl)
                have HP0 := Lib.hid (Passed.start hbeg)
                clear hk' hodd hbeg
                go_wp2_with fail
                go_loopw [108] (fun i wr => ∃ (k : Nat) (m : Nat → BitVec 32), k ≤ N ∧ i = .int .i64 k ∧ Row w wr B 23 (rowsV N m) ∧ Hid (Passed N (edgeL nn rs) k 0 m)) (fun i _ => N - (intOf i).toNat)
                case atStart => exact ⟨0, m, Nat.zero_le _, rfl, hr, HP0⟩
                case round =>
                  obtain ⟨k, m, hk, rfl, hr, hpass⟩ := hrel
                  by_cases hlt1 : k < N
                  · go_wp2_with fail
                    go_loopw [113] (fun v wr => ∃ (i : Nat) (m : Nat → BitVec 32), i ≤ N ∧ v = .int .i64 i ∧ Row w wr B 23 (rowsV N m) ∧ Hid (Passed N (edgeL nn rs) k i m)) (fun v _ => N - (intOf v).toNat)
                    case atStart => exact ⟨0, m, Nat.zero_le _, rfl, hr, hpass⟩
                    case round =>
                      obtain ⟨i, m, hi, rfl, hr, hpass⟩ := hrel
                      by_cases hlt2 : i < N
                      · have c0 := hr.cell i (rowsV_at m hlt2)
                        have c1 := hr.cell k (rowsV_at m hlt1)
                        have f0 := hr.free i
                        have hi1 : (0 : Int) ≤ (i : Int) := by omega
                        have hi2 : (i : Int) < (N : Int) := by omega
                        have hi3 : (0 : Int) ≤ (k : Int) := by omega
                        have hi4 : (k : Int) < (N : Int) := by omega
                        have hskip := Lib.hid (hpass.out.skip hlt2 hlt1)
                        have hadd := Lib.hid (hpass.out.add hlt2 hlt1)
                        have hnew : Row w (wr.setCell ⟨B, i, none⟩ (.int .u32 (W (m i ||| m k)))) B 23 (rowsV N (updN m i (m i ||| m k))) := by
                          rw [← rowsV_set]
                          exact hr.set i _
                        have HNEW := Lib.hid hnew
                        clear hnew
                        cases hb : (m i).getLsbD k
                        · have HB := Lib.hid hb
                          go_wp2_with fail
                          go_roundw
                          case rel => exact ⟨i + 1, m, by omega, by go_num, hr, Lib.hid (hskip.out HB.out)⟩
                          case measure => simp [intOf]; omega
                        · have HB := Lib.hid hb
                          go_wp2_with fail
                          go_region
                          go_wp2_with fail
                          go_roundw
                          case rel => exact ⟨i + 1, _, by omega, by go_num, HNEW.out.drew, Lib.hid (hadd.out HB.out)⟩
                          case measure => simp [intOf]; omega
                      · have HI := Lib.hid (show i = N by omega)
                        go_wp2_with fail
                        go_roundw
                        case rel => exact ⟨k + 1, m, by omega, by go_num, hr, Lib.hid (by have h := hpass.out; rw [HI.out] at h; exact h.next)⟩
                        case measure => simp [intOf]; omega
                  · have hkn : k = N := by omega
                    have hpn := hpass.out
                    rw [hkn] at hpn
                    have hdone := hpn.done (by omega)
                    have hsl := rowsV_sl hr
                    rw [hdone, ← hN] at hsl
                    have hkept := hr.kept0
                    have fin : ∀ c', RetTwo w nn rs (.returned (.tuple #[.slice (some ⟨B, 0, none⟩) N c', .int .i64 0])) wr := fun c' => ⟨hkept, .inl ⟨HF.out, _, c', by rw [Int.toNat_natCast, hN], by rw [Int.toNat_natCast]; exact hsl⟩⟩
                    have FIN := Lib.hid fin
                    clear fin hsl hdone hpn hpass hr hkn
                    go_wp2_with fail
                    go_ret2
                    exact FIN.out _
end Go.Proofs.Ytekpifobhgjepaa
