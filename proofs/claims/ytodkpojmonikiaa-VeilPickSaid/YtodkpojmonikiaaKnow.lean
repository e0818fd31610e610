/- The walks of package know: wrong, knows, Knows; and of what the statements ask of those who know. -/
import Derived.Test.YtodkpojmonikiaaKnowP
import Derived.Test.YtodkpojmonikiaaFirst
import Derived.Test.YtodkpojmonikiaaSeat
import Derived.Test.YtodkpojmonikiaaQuiet
import Derived.BigQuiet
namespace Go.Proofs.Ytodkpojmonikiaa
open Go Go.RowKit
set_option linter.unusedVariables false

theorem in_any (x y : BitVec 32) (w : World) : Calls Try.prog 20 #[.int .u32 (W x), .int .u32 (W y)] w fun e w' => e = .returned (.bool (subB x y)) ∧ w = w' := by
  go_enter Try.func20, Try.ntmps20
  go_wp2
  go_ret
  exact ⟨rfl, rfl⟩
theorem in_is (x y : BitVec 32) (b : Bool) (hb : subB x y = b) (w : World) : Calls Try.prog 20 #[.int .u32 (W x), .int .u32 (W y)] w fun e w' => e = .returned (.bool b) ∧ w = w' := by
  rw [← hb]
  exact in_any x y w
theorem bit_any (x : BitVec 32) (i : Nat) (hi : i < 32) (w : World) : Calls Try.prog 18 #[.int .u32 (W x), .int .i64 i] w fun e w' => e = .returned (.bool (x.getLsbD i)) ∧ w = w' := by
  have d1 : decide ((i : Int) < 0) = false := by simp
  have d2 : decide (0 ≤ (i : Int)) = true := by simp
  have d3 : decide ((i : Int) < 32) = true := by simp; omega
  have hi0 : (0 : Int) ≤ i := by omega
  go_enter Try.func18, Try.ntmps18
  go_wp2
  go_ret
  exact ⟨rfl, rfl⟩
theorem bit_is (x : BitVec 32) (i : Nat) (hi : i < 32) (b : Bool) (hb : x.getLsbD i = b) (w : World) : Calls Try.prog 18 #[.int .u32 (W x), .int .i64 i] w fun e w' => e = .returned (.bool b) ∧ w = w' := by
  rw [← hb]
  exact bit_any x i hi w
theorem fits_any (n : Nat) (hn : n < 32) (x : BitVec 32) (w : World) : Calls Try.prog 25 #[.int .i64 n, .int .u32 (W x)] w fun e w' => e = .returned (.bool (fitB n x)) ∧ w = w' := by
  have h1 : decide (32 ≤ (n : Int)) = false := by simp; omega
  rw [fitB_lt hn]
  go_enter Try.func25, Try.ntmps25
  go_wp2
  go_ret
  exact ⟨rfl, rfl⟩

theorem knowLen1_any (nn : Int) (p : Addr) (r : Rv) (w : World) (hp : w.cell? p = some (.int .i64 nn)) :
    Calls Try.prog 82 #[.slice r.1 r.2.1 r.2.2.1, .pointer (some p)] w fun e w' => e = .returned (.bool (neLen nn r)) ∧ w = w' := by
  go_enter Try.func82, Try.ntmps82
  go_wp2
  go_ret
  exact ⟨rfl, rfl⟩
theorem knowLenIndex_any (nn : Int) (p : Addr) (A : Option Addr) (n c : Nat) (xs : List Rv) (w : World) (hs : SlM w A n xs) (hn : n ≤ 1000) (hp : w.cell? p = some (.int .i64 nn)) :
    Calls Try.prog 92 #[.slice A n c, .func (.func 82) #[] #[.pointer (some p)]] w fun e w' => e = .returned (.int .i64 (firstI (neLen nn) xs)) ∧ w = w' := by
  go_enter Try.func92, Try.ntmps92
  go_wp2_with fail
  go_loop [8] (fun t => ∃ q : Nat, q ≤ n ∧ t = .int .i64 q ∧ Hid ((xs.take q).any (neLen nn) = false)) (fun t => n - (intOf t).toNat)
  case atStart => exact ⟨0, Nat.zero_le _, rfl, Lib.hid rfl⟩
  case round =>
    obtain ⟨q, hq, rfl, HN⟩ := hrel
    by_cases hlt : q < n
    · obtain ⟨b, off, hk, rfl, hb, cq, hrow⟩ := hs.get q hlt
      have hsn := Lib.hid (any_snoc (neLen nn) xs q hk)
      have hhit := Lib.hid (firstI_hit (neLen nn) xs q hk HN.out)
      cases hb1 : (neLen nn) xs[q]
      · have HB := Lib.hid hb1
        clear hb1
        go_wp2_with fail
        refine (knowLen1_any nn p _ _ hp).mono ?_
        rintro e w' ⟨rfl, rfl⟩
        rw [HB.out]
        go_wp2_with fail
        go_round
        case rel => exact ⟨q + 1, by omega, by go_num, Lib.hid (by rw [hsn.out, HN.out, HB.out]; rfl)⟩
        case measure => simp [intOf]; omega
      · have HB := Lib.hid hb1
        clear hb1
        go_wp2_with fail
        refine (knowLen1_any nn p _ _ hp).mono ?_
        rintro e w' ⟨rfl, rfl⟩
        rw [HB.out]
        go_wp2_with fail
        go_ret
        exact ⟨by rw [hhit.out HB.out]; rfl, rfl⟩
    · have HK := Lib.hid (take_all xs q (by rw [hs.2.1]; omega))
      go_wp2_with fail
      go_ret
      exact ⟨by rw [firstI_none _ _ (by rw [← HK.out]; exact HN.out)]; rfl, rfl⟩
theorem knowLenContains_any (nn : Int) (p : Addr) (A : Option Addr) (n c : Nat) (xs : List Rv) (w : World) (hs : SlM w A n xs) (hn : n ≤ 1000) (hp : w.cell? p = some (.int .i64 nn)) :
    Calls Try.prog 76 #[.slice A n c, .func (.func 82) #[] #[.pointer (some p)]] w fun e w' => e = .returned (.bool (xs.any (neLen nn))) ∧ w = w' := by
  have H := Lib.hid (firstI_ge (neLen nn) xs)
  go_enter Try.func76, Try.ntmps76
  go_wp2_with fail
  refine (knowLenIndex_any nn p _ _ _ xs _ hs hn hp).mono ?_
  rintro e w' ⟨rfl, rfl⟩
  go_wp2_with fail
  go_ret
  exact ⟨by rw [← H.out]; rfl, rfl⟩

theorem guards4 {n : Int} {len : Nat} (hbad : n < 1 ∨ 6 < n ∨ len < 1 ∨ 5 < len) : decide (n < 1) = true ∨ (decide (n < 1) = false ∧ decide (6 < n) = true) ∨ (decide (n < 1) = false ∧ decide (6 < n) = false ∧ decide ((len : Int) < 1) = true) ∨ (decide (n < 1) = false ∧ decide (6 < n) = false ∧ decide ((len : Int) < 1) = false ∧ decide (5 < (len : Int)) = true) := by
  simp only [decide_eq_true_eq, decide_eq_false_iff_not]
  omega
set_option maxHeartbeats 800000 in
theorem wrong_any (n : Int) (A : Option Addr) (len c : Nat) (rs : List Rv) (ev : BitVec 32) (w : World) (hs : SlM w A len rs) :
    Calls Try.prog 48 #[.int .i64 n, .slice A len c, .int .u32 (W ev)] w fun e w' => e = .returned (.int .i64 (knowF n rs ev)) ∧ Kept w w' := by
  by_cases hbad : n < 1 ∨ 6 < n ∨ len < 1 ∨ 5 < len
  · have HF := Lib.hid (show knowF n rs ev = 1 by unfold knowF; rw [if_pos (by rw [hs.len]; exact hbad)])
    clear hs
    rcases guards4 hbad with d1 | ⟨d1, d2⟩ | ⟨d1, d2, d3⟩ | ⟨d1, d2, d3, d4⟩
    all_goals
      clear hbad
      go_enter Try.func48, Try.ntmps48
      go_wp2
      go_ret
      exact ⟨by rw [HF.out]; rfl, (Kept.refl _).alloc _⟩
  · obtain ⟨nn, rfl⟩ := Int.eq_ofNat_of_zero_le (show 0 ≤ n by omega)
    have hn6 : nn ≤ 6 := by omega
    have d1 : decide ((nn : Int) < 1) = false := by simp; omega
    have d2 : decide (6 < (nn : Int)) = false := by simp; omega
    have d3 : decide ((len : Int) < 1) = false := by simp; omega
    have d4 : decide (5 < (len : Int)) = false := by simp; omega
    have HF := Lib.hid (show knowF nn rs ev = if rs.any (neLen nn) = true then 3 else if fitB nn ev then 0 else 4 by unfold knowF; rw [if_neg (by rw [hs.len]; exact hbad), Int.toNat_natCast])
    have hl5 : len ≤ 5 := by omega
    clear hbad
    go_enter Try.func48, Try.ntmps48
    go_wp2_with fail
    have hka : Kept w (w.alloc (.cells #[.int .i64 nn] 3)) := (Kept.refl _).alloc _
    have bx := Box.new w #[.int .i64 nn] 3 w.heap.size rfl
    refine (knowLenContains_any (nn : Int) ⟨w.heap.size, 0, none⟩ _ _ _ rs _ (hs.kept hka) (by omega) (bx.at_ 0 rfl)).mono ?_
    rintro e w1 ⟨rfl, rfl⟩
    cases ha : rs.any (neLen nn)
    · cases hf : fitB nn ev
      · have HV := Lib.hid (show knowF nn rs ev = 4 by rw [HF.out, ha, hf]; rfl)
        clear ha
        go_wp2_with fail
        go_ret
        exact ⟨by rw [HV.out]; rfl, hka⟩
      · have HV := Lib.hid (show knowF nn rs ev = 0 by rw [HF.out, ha, hf]; rfl)
        clear ha
        go_wp2_with fail
        go_ret
        exact ⟨by rw [HV.out]; rfl, hka⟩
    · have HV := Lib.hid (show knowF nn rs ev = 3 by rw [HF.out, ha]; rfl)
      clear ha
      go_wp2_with fail
      go_ret
      exact ⟨by rw [HV.out]; rfl, hka⟩
set_option maxHeartbeats 800000 in
theorem knowCheck_any (n : Int) (A : Option Addr) (len c : Nat) (rs : List Rv) (ev : BitVec 32) (w : World) (hs : SlM w A len rs) :
    Calls Try.prog 49 #[.int .i64 n, .slice A len c, .int .u32 (W ev)] w fun e w' => e = .returned (.int .i64 (knowF n rs ev)) ∧ w = w' := by
  by_cases hbad : n < 1 ∨ 6 < n ∨ len < 1 ∨ 5 < len
  · have HF := Lib.hid (show knowF n rs ev = 1 by unfold knowF; rw [if_pos (by rw [hs.len]; exact hbad)])
    clear hs
    rcases guards4 hbad with d1 | ⟨d1, d2⟩ | ⟨d1, d2, d3⟩ | ⟨d1, d2, d3, d4⟩
    all_goals
      clear hbad
      go_enter Try.func49, Try.ntmps49
      go_wp2
      go_ret
      exact ⟨by rw [HF.out]; rfl, rfl⟩
  · obtain ⟨nn, rfl⟩ := Int.eq_ofNat_of_zero_le (show 0 ≤ n by omega)
    have hn6 : nn ≤ 6 := by omega
    have d1 : decide ((nn : Int) < 1) = false := by simp; omega
    have d2 : decide (6 < (nn : Int)) = false := by simp; omega
    have d3 : decide ((len : Int) < 1) = false := by simp; omega
    have d4 : decide (5 < (len : Int)) = false := by simp; omega
    have HF := Lib.hid (show knowF nn rs ev = if rs.any (neLen nn) = true then 3 else if fitB nn ev then 0 else 4 by unfold knowF; rw [if_neg (by rw [hs.len]; exact hbad), Int.toNat_natCast])
    have hl5 : len ≤ 5 := by omega
    have HL := Lib.hid hs.len
    clear hbad
    go_enter Try.func49, Try.ntmps49
    go_wp2_with fail
    clear d1 d2 d3 d4
    go_loop [27] (fun t => ∃ q : Nat, q ≤ len ∧ t = .int .i64 q ∧ Hid ((rs.take q).any (neLen nn) = false)) (fun t => len - (intOf t).toNat)
    case atStart => exact ⟨0, Nat.zero_le _, rfl, Lib.hid rfl⟩
    case round =>
      obtain ⟨q, hq, rfl, hno⟩ := hrel
      by_cases hlt : q < len
      · obtain ⟨b, off, hk, rfl, hb, cq, _⟩ := hs.get q hlt
        have HS := Lib.hid (any_snoc (neLen nn) rs q hk)
        have HE := Lib.hid (show neLen nn rs[q] = true → rs.any (neLen nn) = true from fun h => List.any_eq_true.2 ⟨_, List.getElem_mem hk, h⟩)
        have HN := Lib.hid (show neLen nn rs[q] = ((rs[q].2.1 : Int) != (nn : Int)) from rfl)
        generalize rs[q] = r at cq HS HE HN
        cases hne : (r.2.1 : Int) != (nn : Int)
        · have HV := Lib.hid (HN.out.trans hne)
          go_wp2_with fail
          go_round
          case rel => exact ⟨q + 1, by omega, by go_num, Lib.hid (by rw [HS.out, hno.out, HV.out]; rfl)⟩
          case measure => simp [intOf]; omega
        · have HV := Lib.hid (show knowF nn rs ev = 3 by rw [HF.out, HE.out (HN.out.trans hne)]; rfl)
          go_wp2_with fail
          go_ret
          exact ⟨by rw [HV.out]; rfl, rfl⟩
      · have HA := Lib.hid (show rs.any (neLen nn) = false by have h := hno.out; rwa [take_all rs q (by rw [HL.out]; omega)] at h)
        go_wp2_with fail
        refine (fits_any nn (by omega) ev _).mono ?_
        rintro e w1 ⟨rfl, rfl⟩
        cases hf : fitB nn ev
        · have HV := Lib.hid (show knowF nn rs ev = 4 by rw [HF.out, HA.out, hf]; rfl)
          go_wp2_with fail
          go_ret
          exact ⟨by rw [HV.out]; rfl, rfl⟩
        · have HV := Lib.hid (show knowF nn rs ev = 0 by rw [HF.out, HA.out, hf]; rfl)
          go_wp2_with fail
          go_ret
          exact ⟨by rw [HV.out]; rfl, rfl⟩
theorem known_any (n : Int) (A : Option Addr) (len c : Nat) (rs : List Rv) (ev : BitVec 32) (w : World) (hs : SlM w A len rs) :
    Calls Try.prog 16 #[.int .i64 n, .slice A len c, .int .u32 (W ev)] w fun e w' => e = .returned (.bool (knowF n rs ev == 0)) ∧ w = w' := by
  go_enter Try.func16, Try.ntmps16
  go_wp2_with fail
  refine (knowCheck_any n _ _ _ rs ev _ hs).mono ?_
  rintro e w1 ⟨rfl, rfl⟩
  go_wp2_with fail
  go_ret
  exact ⟨rfl, rfl⟩
set_option maxHeartbeats 800000 in
theorem knows_any (A : Option Addr) (n c : Nat) (xs : List Int) (ev : BitVec 32) (w : World) (hs : SlI w A n xs) (hn : n ≤ 32) :
    Calls Try.prog 50 #[.slice A n c, .int .u32 (W ev)] w fun e w' => e = .returned (.int .u32 (W (knW n xs ev))) ∧ w = w' := by
  go_enter Try.func50, Try.ntmps50
  go_wp2_with fail
  go_loop [5, 13] (fun o t => ∃ k : Nat, k ≤ n ∧ t = .int .i64 k ∧ o = .int .u32 (W (wordN k fun w => knTo xs ev w n))) (fun _ t => n - (intOf t).toNat)
  case atStart => exact ⟨0, Nat.zero_le _, rfl, rfl⟩
  case round =>
    obtain ⟨k, hk, rfl, rfl⟩ := hrel
    by_cases hlt : k < n
    · obtain ⟨b, off, rfl, hb, ck⟩ := hs.getN k hlt
      have HS := Lib.hid (wordN_succ k fun w => knTo xs ev w n)
      generalize (wordN k fun w => knTo xs ev w n) = y at HS
      go_wp2_with fail
      go_loop [8, 20] (fun o t => ∃ v : Nat, v ≤ n ∧ t = .int .i64 v ∧ o = .bool (knTo xs ev k v)) (fun _ t => n - (intOf t).toNat)
      case atStart => exact ⟨0, Nat.zero_le _, rfl, rfl⟩
      case round =>
        obtain ⟨v, hv, rfl, rfl⟩ := hrel
        by_cases hlt2 : v < n
        · obtain ⟨b2, o2, e2, hb2, cv⟩ := hs.getN v hlt2
          injection e2 with e2
          injection e2 with e2 e2'
          subst e2 e2'
          have HT := Lib.hid (knTo_succ xs ev k v)
          have HA := Lib.hid (show knAt xs ev k v = (iat xs k != iat xs v || ev.getLsbD v) from rfl)
          generalize iat xs v = z at cv HA
          generalize iat xs k = u at ck HA
          cases hkn : knTo xs ev k v
          · have HK := Lib.hid hkn
            go_wp2_with fail
            go_round
            case rel => exact ⟨v + 1, by omega, by go_num, by rw [HT.out, HK.out]; rfl⟩
            case measure => simp [intOf]; omega
          · have HK := Lib.hid hkn
            cases hne : u != z
            · have HNE := Lib.hid hne
              cases hbv : ev.getLsbD v
              all_goals
                have HBV := Lib.hid hbv
                go_wp2_with fail
                go_round
                case rel => exact ⟨v + 1, by omega, by go_num, by rw [HT.out, HK.out, HA.out, HNE.out, HBV.out]; rfl⟩
                case measure => simp [intOf]; omega
            · have HNE := Lib.hid hne
              go_wp2_with fail
              go_round
              case rel => exact ⟨v + 1, by omega, by go_num, by rw [HT.out, HK.out, HA.out, HNE.out]; rfl⟩
              case measure => simp [intOf]; omega
        · have HV := Lib.hid (show v = n by omega)
          have HK := Lib.hid (show knTo xs ev k n = knTo xs ev k v by rw [HV.out])
          cases hkn : knTo xs ev k v
          all_goals
            have HKN := Lib.hid hkn
            go_wp2_with fail
            go_round
            case rel => exact ⟨k + 1, by omega, by go_num, by rw [HS.out, HK.out, HKN.out]; rfl⟩
            case measure => simp [intOf]; omega
    · have HK := Lib.hid (show k = n by omega)
      go_wp2_with fail
      go_ret
      exact ⟨by unfold knW; rw [HK.out]; rfl, rfl⟩
end Go.Proofs.Ytodkpojmonikiaa
