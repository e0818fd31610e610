/- What the statements ask of shares: Lost, MostLost, SetsCheck, Deals, dealt, Ints. -/
import Derived.Test.YtodkpojmonikiaaShare3
import Derived.Test.YtodkpojmonikiaaQuiet
namespace Go.Proofs.Ytodkpojmonikiaa
open Go Go.RowKit
set_option linter.unusedVariables false

theorem inX_is (x y : BitVec 32) (b : Bool) (hb : subB x y = b) (w : World) : Calls Try.prog 20 #[.int .u32 (W x), .int .u32 (W y)] w fun e w' => e = .returned (.bool b) ∧ w = w' := by
  rw [← hb]
  clear hb
  go_enter Try.func20, Try.ntmps20
  go_wp2
  go_ret
  exact ⟨rfl, rfl⟩
theorem bitX_is (x : BitVec 32) (i : Nat) (hi : i < 32) (b : Bool) (hb : x.getLsbD i = b) (w : World) : Calls Try.prog 18 #[.int .u32 (W x), .int .i64 i] w fun e w' => e = .returned (.bool b) ∧ w = w' := by
  have d1 : decide ((i : Int) < 0) = false := by simp
  have d2 : decide (0 ≤ (i : Int)) = true := by simp
  have d3 : decide ((i : Int) < 32) = true := by simp; omega
  have hi0 : (0 : Int) ≤ i := by omega
  rw [← hb]
  clear hb
  go_enter Try.func18, Try.ntmps18
  go_wp2
  go_ret
  exact ⟨rfl, rfl⟩
theorem fitsX_is (n : Nat) (hn : n < 32) (x : BitVec 32) (b : Bool) (hb : fitB n x = b) (w : World) : Calls Try.prog 25 #[.int .i64 n, .int .u32 (W x)] w fun e w' => e = .returned (.bool b) ∧ w = w' := by
  have h1 : decide (32 ≤ (n : Int)) = false := by simp; omega
  rw [← hb, fitB_lt hn]
  clear hb
  go_enter Try.func25, Try.ntmps25
  go_wp2
  go_ret
  exact ⟨rfl, rfl⟩
theorem lostS_is (A : Option Addr) (len c : Nat) (sets : List (BitVec 32)) (who : BitVec 32) (b : Bool) (hb : lostB sets who = b) (w : World) (hs : SlW w A len sets) (hl : len ≤ 1000) :
    Calls Try.prog 37 #[.slice A len c, .int .u32 (W who)] w fun e w' => e = .returned (.bool b) ∧ w = w' := by
  have HB := Lib.hid hb
  have HL := Lib.hid hs.2
  clear hb
  go_enter Try.func37, Try.ntmps37
  go_wp2_with fail
  go_loop [9] (fun t => ∃ k : Nat, k ≤ len ∧ t = .int .i64 k ∧ Hid (∀ j, j < k → subB (nth sets j) who = false)) (fun t => len - (intOf t).toNat)
  case atStart => exact ⟨0, Nat.zero_le _, rfl, Lib.hid (fun j hj => absurd hj (Nat.not_lt_zero _))⟩
  case round =>
    obtain ⟨k, hk, rfl, HN⟩ := hrel
    by_cases hlt : k < len
    · obtain ⟨b2, off, rfl, hb2, ck⟩ := hs.getN k hlt
      have i1 : (0 : Int) ≤ (k : Int) := by omega
      have i2 : (k : Int) < (len : Int) := by omega
      have HMEM := Lib.hid (show nth sets k ∈ sets by rw [nth_eq _ _ (by rw [HL.out]; exact hlt)]; exact List.getElem_mem _)
      cases hsub : subB (nth sets k) who
      · have HS := Lib.hid hsub
        clear hsub
        go_wp2_with fail
        refine (inX_is _ who false HS.out _).mono ?_
        rintro e w' ⟨rfl, rfl⟩
        go_wp2_with fail
        go_round
        case rel => exact ⟨k + 1, by omega, by go_num, Lib.hid (fun j hj => by
          by_cases e : j = k
          · subst e; exact HS.out
          · exact HN.out j (by omega))⟩
        case measure => simp [intOf]; omega
      · have HS := Lib.hid hsub
        clear hsub
        have HV := Lib.hid (show b = false by
          rw [← HB.out]
          cases hl2 : lostB sets who
          · rfl
          · have := lostB_iff.1 hl2 _ HMEM.out
            rw [HS.out] at this
            cases this)
        go_wp2_with fail
        refine (inX_is _ who true HS.out _).mono ?_
        rintro e w' ⟨rfl, rfl⟩
        go_wp2_with fail
        go_ret
        exact ⟨by rw [HV.out]; rfl, rfl⟩
    · have HV := Lib.hid (show b = true by
        rw [← HB.out, lostB_iff]
        intro s hs
        obtain ⟨j, hj, e⟩ := List.mem_iff_getElem.1 hs
        have := HN.out j (by rw [HL.out] at hj; omega)
        rw [nth_eq _ _ hj, e] at this
        exact this)
      go_wp2_with fail
      go_ret
      exact ⟨by rw [HV.out]; rfl, rfl⟩
/-! ### MostLost -/
def refTo (n : Nat) (sets : List (BitVec 32)) (who : BitVec 32) (j : Nat) : Bool := lostB sets who && !((words n).take j).any (mostAt sets who)
theorem refTo_zero (n : Nat) (sets : List (BitVec 32)) (who : BitVec 32) : refTo n sets who 0 = lostB sets who := by simp [refTo]
theorem refTo_succ {n : Nat} {sets : List (BitVec 32)} {who : BitVec 32} {j : Nat} (hj : j < (words n).length) : refTo n sets who (j + 1) = if mostAt sets who (words n)[j] then false else refTo n sets who j := by
  unfold refTo
  rw [any_snoc _ _ _ hj]
  cases mostAt sets who (words n)[j] <;> simp
theorem refTo_done {n : Nat} {sets : List (BitVec 32)} {who : BitVec 32} {j : Nat} (h : 2 ^ n ≤ j) : refTo n sets who j = mostR n sets who := by
  unfold refTo mostR
  rw [take_all _ _ (by rw [words_length]; exact h)]
def refsTo (n : Nat) (sets : List (BitVec 32)) (k : Nat) : List (BitVec 32) := ((words n).take k).filter (mostR n sets)
theorem refsTo_succ {n : Nat} {sets : List (BitVec 32)} {k : Nat} (hk : k < (words n).length) : refsTo n sets (k + 1) = refsTo n sets k ++ (if mostR n sets (words n)[k] then [(words n)[k]] else []) := filter_snoc _ _ _ hk
theorem refsTo_le (n : Nat) (sets : List (BitVec 32)) (k : Nat) : (refsTo n sets k).length ≤ k := len_filter_le _ _ _
theorem refsTo_done (n : Nat) (hn : n < 32) (sets : List (BitVec 32)) {k : Nat} (h : 2 ^ n ≤ k) : refsTo n sets k = mostL n sets := by
  unfold refsTo
  rw [take_all _ _ (by rw [words_length]; exact h), mostL_ref hn]
def RetW1 (w : World) (xs : List (BitVec 32)) (e : Ending) (w' : World) : Prop := ∃ A c, e = .returned (.slice A xs.length c) ∧ SlW w' A xs.length xs ∧ Kept w w'
set_option maxRecDepth 100000 in
set_option maxHeartbeats 4000000 in
theorem mostLost_any (n : Nat) (hn : n ≤ 6) (A : Option Addr) (len c : Nat) (sets : List (BitVec 32)) (w : World) (hs : SlW w A len sets) (hl : len ≤ 1000) :
    Calls Try.prog 38 #[.int .i64 n, .slice A len c] w (RetW1 w (mostL n sets)) := by
  have hpl := pow_le n hn
  have hu : IntKind.u64.wrap (n : Int) = (n : Int) := by rw [IntKind.wrap_u64]; omega
  have hn31 : n ≤ 31 := by omega
  go_enter Try.func38, Try.ntmps38
  go_wp2_with fail
  go_loopw [5, 6] (fun l t wr => ∃ k : Nat, k ≤ 2 ^ n ∧ t = .int .u32 (W (BitVec.ofNat 32 k)) ∧ Own w wr 23 1 l (refsTo n sets k).length ((refsTo n sets k).map wv)) (fun _ t _ => 2 ^ n - (intOf t).toNat)
  case atStart => exact ⟨0, Nat.zero_le _, rfl, Own.start (Kept.refl _)⟩
  case round =>
    obtain ⟨k, hkn, rfl, hown⟩ := hrel
    by_cases hlt : k < 2 ^ n
    · have hy := word_yes (show n < 32 by omega) hlt
      have hkl : k < (words n).length := by rw [words_length]; exact hlt
      have hle := refsTo_le n sets k
      have HST := Lib.hid (refsTo_succ (sets := sets) hkl)
      have HW := Lib.hid (words_at hkl)
      have HLT := Lib.hid hlt
      have HS2 := Lib.hid (hs.kept hown.2)
      go_wp2_with fail
      refine (lostS_is _ _ _ sets (BitVec.ofNat 32 k) _ rfl _ HS2.out hl).mono ?_
      rintro e w2 ⟨rfl, rfl⟩
      go_wp2_with fail
      go_loop [7, 8] (fun o t => ∃ (j : Nat) (b : Bool), j ≤ 2 ^ n ∧ t = .int .u32 (W (BitVec.ofNat 32 j)) ∧ o = .bool b ∧ Hid (refTo n sets (BitVec.ofNat 32 k) j = b)) (fun _ t => 2 ^ n - (intOf t).toNat)
      case atStart => exact ⟨0, _, Nat.zero_le _, rfl, rfl, Lib.hid (refTo_zero n sets _)⟩
      case round =>
        obtain ⟨j, b, hjn, rfl, rfl, HB⟩ := hrel
        by_cases hlt2 : j < 2 ^ n
        · have hy2 := word_yes (show n < 32 by omega) hlt2
          have hjl : j < (words n).length := by rw [words_length]; exact hlt2
          have HSU := Lib.hid (refTo_succ (sets := sets) (who := BitVec.ofNat 32 k) hjl)
          have HWJ := Lib.hid (words_at hjl)
          have HAT := Lib.hid (show mostAt sets (BitVec.ofNat 32 k) (BitVec.ofNat 32 j) = (BitVec.ofNat 32 j != BitVec.ofNat 32 k && subB (BitVec.ofNat 32 k) (BitVec.ofNat 32 j) && lostB sets (BitVec.ofNat 32 j)) from rfl)
          cases hne : (BitVec.ofNat 32 j != BitVec.ofNat 32 k)
          · have HE := Lib.hid (show refTo n sets (BitVec.ofNat 32 k) (j + 1) = b by rw [HSU.out, HWJ.out, HAT.out, hne, ← HB.out]; rfl)
            go_wp2_with fail
            go_round
            case rel => exact ⟨j + 1, b, by omega, by rw [word_succ], rfl, HE⟩
            case measure => simp only [intOf]; rw [word_succ]; exact word_meas (by omega) hlt2
          · cases hsub : subB (BitVec.ofNat 32 k) (BitVec.ofNat 32 j)
            · have HE := Lib.hid (show refTo n sets (BitVec.ofNat 32 k) (j + 1) = b by rw [HSU.out, HWJ.out, HAT.out, hne, hsub, ← HB.out]; rfl)
              have HS := Lib.hid hsub
              clear hsub
              go_wp2_with fail
              refine (inX_is _ _ false HS.out _).mono ?_
              rintro e w' ⟨rfl, rfl⟩
              go_wp2_with fail
              go_round
              case rel => exact ⟨j + 1, b, by omega, by rw [word_succ], rfl, HE⟩
              case measure => simp only [intOf]; rw [word_succ]; exact word_meas (by omega) hlt2
            · have HS := Lib.hid hsub
              cases hlo : lostB sets (BitVec.ofNat 32 j)
              · have HE := Lib.hid (show refTo n sets (BitVec.ofNat 32 k) (j + 1) = b by rw [HSU.out, HWJ.out, HAT.out, hne, hsub, hlo, ← HB.out]; rfl)
                have HLO := Lib.hid hlo
                clear hsub hlo
                go_wp2_with fail
                refine (inX_is _ _ true HS.out _).mono ?_
                rintro e w' ⟨rfl, rfl⟩
                go_wp2_with fail
                refine (lostS_is _ _ _ sets (BitVec.ofNat 32 j) false HLO.out _ HS2.out hl).mono ?_
                rintro e w' ⟨rfl, rfl⟩
                go_wp2_with fail
                go_round
                case rel => exact ⟨j + 1, b, by omega, by rw [word_succ], rfl, HE⟩
                case measure => simp only [intOf]; rw [word_succ]; exact word_meas (by omega) hlt2
              · have HE := Lib.hid (show refTo n sets (BitVec.ofNat 32 k) (j + 1) = false by rw [HSU.out, HWJ.out, HAT.out, hne, hsub, hlo]; rfl)
                have HLO := Lib.hid hlo
                clear hsub hlo
                go_wp2_with fail
                refine (inX_is _ _ true HS.out _).mono ?_
                rintro e w' ⟨rfl, rfl⟩
                go_wp2_with fail
                refine (lostS_is _ _ _ sets (BitVec.ofNat 32 j) true HLO.out _ HS2.out hl).mono ?_
                rintro e w' ⟨rfl, rfl⟩
                go_wp2_with fail
                go_round
                case rel => exact ⟨j + 1, false, by omega, by rw [word_succ], rfl, HE⟩
                case measure => simp only [intOf]; rw [word_succ]; exact word_meas (by omega) hlt2
        · have hjj : j = 2 ^ n := by omega
          have hy2 := word_no (show n < 32 by omega) hjj
          have HD := Lib.hid (refTo_done (n := n) (sets := sets) (who := BitVec.ofNat 32 k) (j := j) (by omega))
          clear hjj
          have hlt := HLT.out
          cases b
          · have HE := Lib.hid (show refsTo n sets (k + 1) = refsTo n sets k by rw [HST.out, HW.out, ← HD.out, HB.out]; simp)
            go_wp2_with fail
            go_roundw
            case rel => exact ⟨k + 1, by omega, by rw [word_succ], by rw [HE.out]; exact hown⟩
            case measure => simp only [intOf]; rw [word_succ]; exact word_meas (by omega) hlt
          · have HE := Lib.hid (show refsTo n sets (k + 1) = refsTo n sets k ++ [BitVec.ofNat 32 k] by rw [HST.out, HW.out, ← HD.out, HB.out]; simp)
            go_wp2_with (at_builtin; refine wpList_push rfl _ _ 40 rfl 23 Try.underlying40 info_u32 rfl (by decide) (by decide) _ _ _ _ hown #[.int .u32 (W (BitVec.ofNat 32 k))] _ _ 1 1 rfl rfl rfl rfl (one_u32 _) (by omega) ?_; intro v' w4 hown4 _)
            go_roundw
            case rel => exact ⟨k + 1, by omega, by rw [word_succ], by rw [HE.out]; simpa [wv] using hown4⟩
            case measure => simp only [intOf]; rw [word_succ]; exact word_meas (by omega) hlt
    · have hkk : k = 2 ^ n := by omega
      have hy := word_no (show n < 32 by omega) hkk
      have HKL := Lib.hid (refsTo_done n (by omega) sets (k := k) (by omega))
      clear hkk
      rw [HKL.out] at hown
      obtain ⟨A2, c2, rfl, hsl, hcap⟩ := hown.form
      have FIN := Lib.hid (show RetW1 w (mostL n sets) (.returned (.slice A2 (mostL n sets).length c2)) wr from ⟨A2, c2, rfl, ⟨hsl, rfl⟩, hown.2⟩)
      clear hown hsl
      go_wp2_with fail
      go_ret
      exact FIN.out
/-! ### SetsCheck, Deals, dealt -/
set_option maxHeartbeats 1000000 in
theorem setsCheck_any (n : Int) (A : Option Addr) (len c : Nat) (sets : List (BitVec 32)) (w : World) (hs : SlW w A len sets) :
    Calls Try.prog 71 #[.int .i64 n, .slice A len c] w fun e w' => e = .returned (.int .i64 (setsF n sets)) ∧ w = w' := by
  have HL := Lib.hid hs.2
  by_cases hbad : n < 1 ∨ 6 < n ∨ 10 < len
  · have FIN := Lib.hid (show setsF n sets = 1 by unfold setsF; rw [if_pos (by rw [HL.out]; exact hbad)])
    by_cases h1 : n < 1
    · have d1 : decide (n < 1) = true := by simpa using h1
      clear hbad
      go_enter Try.func71, Try.ntmps71
      go_wp2_with fail
      go_ret
      exact ⟨by rw [FIN.out]; rfl, rfl⟩
    · have d1 : decide (n < 1) = false := by simpa using h1
      by_cases h2 : 6 < n
      · have d2 : decide (6 < n) = true := by simpa using h2
        clear hbad
        go_enter Try.func71, Try.ntmps71
        go_wp2_with fail
        go_ret
        exact ⟨by rw [FIN.out]; rfl, rfl⟩
      · have d2 : decide (6 < n) = false := by simpa using h2
        have d3 : decide (10 < (len : Int)) = true := by simp; omega
        clear hbad
        go_enter Try.func71, Try.ntmps71
        go_wp2_with fail
        go_ret
        exact ⟨by rw [FIN.out]; rfl, rfl⟩
  · obtain ⟨nn, rfl⟩ := Int.eq_ofNat_of_zero_le (show 0 ≤ n by omega)
    have HV := Lib.hid (show setsF nn sets = if sets.any (misV nn) then 4 else 0 by unfold setsF; rw [if_neg (by rw [HL.out]; exact hbad), Int.toNat_natCast])
    have d1 : decide ((nn : Int) < 1) = false := by simp; omega
    have d2 : decide (6 < (nn : Int)) = false := by simp; omega
    have d3 : decide (10 < (len : Int)) = false := by simp; omega
    have hn32 : nn < 32 := by omega
    have hlen10 : len ≤ 10 := by omega
    clear hbad
    go_enter Try.func71, Try.ntmps71
    go_wp2_with fail
    go_loop [20] (fun t => ∃ k : Nat, k ≤ len ∧ t = .int .i64 k ∧ Hid ((sets.take k).any (misV nn) = false)) (fun t => len - (intOf t).toNat)
    case atStart => exact ⟨0, Nat.zero_le _, rfl, Lib.hid rfl⟩
    case round =>
      obtain ⟨k, hk, rfl, HN⟩ := hrel
      by_cases hlt : k < len
      · obtain ⟨b2, off, hkr, rfl, hb2, ck⟩ := hs.get k hlt
        have HSN := Lib.hid (any_snoc (misV nn) sets k hkr)
        have HMEM := Lib.hid (List.getElem_mem hkr)
        generalize sets[k] = x at ck HSN HMEM
        have i1 : (0 : Int) ≤ (k : Int) := by omega
        have i2 : (k : Int) < (len : Int) := by omega
        cases hf : fitB nn x
        · have HF := Lib.hid hf
          have FIN := Lib.hid (show setsF nn sets = 4 by
            rw [HV.out, if_pos]
            rw [List.any_eq_true]
            exact ⟨x, HMEM.out, by unfold misV; rw [hf]; rfl⟩)
          clear hf
          go_wp2_with fail
          refine (fitsX_is nn hn32 x false HF.out _).mono ?_
          rintro e w' ⟨rfl, rfl⟩
          go_wp2_with fail
          go_ret
          exact ⟨by rw [FIN.out]; rfl, rfl⟩
        · have HF := Lib.hid hf
          clear hf
          go_wp2_with fail
          refine (fitsX_is nn hn32 x true HF.out _).mono ?_
          rintro e w' ⟨rfl, rfl⟩
          go_wp2_with fail
          go_round
          case rel => exact ⟨k + 1, by omega, by go_num, Lib.hid (by rw [HSN.out, HN.out]; unfold misV; rw [HF.out]; rfl)⟩
          case measure => simp [intOf]; omega
      · have HTK := Lib.hid (take_all sets k (by rw [HL.out]; omega))
        have FIN := Lib.hid (show setsF nn sets = 0 by rw [HV.out, ← HTK.out, HN.out]; rfl)
        go_wp2_with fail
        go_ret
        exact ⟨by rw [FIN.out]; rfl, rfl⟩
theorem mostL_le {n : Nat} (hn : n ≤ 6) (sets : List (BitVec 32)) : (mostL n sets).length ≤ 64 := by
  have h1 : (mostL n sets).length ≤ (words n).length := List.length_filter_le _ _
  rw [words_length] at h1
  have := pow_le n hn
  omega
theorem deals_any (n : Nat) (hn : n ≤ 6) (A : Option Addr) (len c : Nat) (sets : List (BitVec 32)) (w : World) (hs : SlW w A len sets) (hl : len ≤ 1000) (b : Bool) (hb : noneB n (mostL n sets) = b) :
    Calls Try.prog 72 #[.int .i64 n, .slice A len c] w fun e w' => e = .returned (.bool (!b)) ∧ Kept w w' := by
  have HB := Lib.hid (show (!b) = (decide (0 < (mostL n sets).length) && !lostB sets (fullW n)) by rw [← hb, none_eq (by omega)]; simp)
  have hu : IntKind.u64.wrap (n : Int) = (n : Int) := by rw [IntKind.wrap_u64]; omega
  have hn31 : n ≤ 31 := by omega
  have hle := mostL_le hn sets
  have HSW := Lib.hid hs
  clear hb
  obtain ⟨L, hL⟩ : ∃ L, mostL n sets = L := ⟨_, rfl⟩
  rw [hL] at HB hle
  have HLL := Lib.hid hL
  clear hL
  by_cases h0 : L.length = 0
  · have HV := Lib.hid (show (!b) = false by rw [HB.out, h0]; rfl)
    have d0 : decide (0 < L.length) = false := by simp [h0]
    have d0' : decide (0 < (L.length : Int)) = false := by simp [h0]
    clear h0
    go_enter Try.func72, Try.ntmps72
    go_wp2_with fail
    refine (mostLost_any n hn A len c sets _ HSW.out hl).mono ?_
    rintro e w1 ⟨A1, c1, rfl, h1, k1⟩
    rw [HLL.out]
    have K1 := Lib.hid k1
    clear h1 k1
    go_wp2_with fail
    go_ret
    exact ⟨by rw [HV.out]; rfl, K1.out⟩
  · have d0 : decide (0 < L.length) = true := decide_eq_true (by omega)
    have d0' : decide (0 < (L.length : Int)) = true := decide_eq_true (by omega)
    have HV := Lib.hid (show (!b) = !lostB sets (fullW n) by rw [HB.out, d0]; simp)
    have hfull : fullW n = 1#32 <<< n - 1#32 := rfl
    rw [hfull] at HV
    clear h0 hfull
    go_enter Try.func72, Try.ntmps72
    go_wp2_with fail
    refine (mostLost_any n hn A len c sets _ HSW.out hl).mono ?_
    rintro e w1 ⟨A1, c1, rfl, h1, k1⟩
    rw [HLL.out]
    have K1 := Lib.hid k1
    have HS1 := Lib.hid (HSW.out.kept k1)
    clear h1 k1
    go_wp2_with fail
    refine (lostS_is _ _ _ sets (1#32 <<< n - 1#32) _ rfl _ HS1.out hl).mono ?_
    rintro e w2 ⟨rfl, rfl⟩
    go_wp2_with fail
    go_ret
    exact ⟨by rw [HV.out]; rfl, K1.out⟩
set_option maxHeartbeats 1000000 in
theorem dealt_any (n : Int) (A : Option Addr) (len c : Nat) (sets : List (BitVec 32)) (A2 : Option Addr) (m c2 : Nat) (w : World) (hs : SlW w A len sets) :
    Calls Try.prog 36 #[.int .i64 n, .slice A len c, .slice A2 m c2] w fun e w' => e = .returned (.bool (dealF n sets m == 0)) ∧ Kept w w' := by
  by_cases h0 : setsF n sets = 0
  · obtain ⟨nn, e, hn1, hn6, hl10, _⟩ := setsF_zero h0
    obtain rfl := e
    have hl : len ≤ 1000 := by rw [← hs.2]; omega
    have H0 := Lib.hid h0
    have HD := Lib.hid (show dealF nn sets m = if noneB nn (mostL nn sets) then 5 else if m + 1 = (mostL nn sets).length then 0 else 3 by unfold dealF; rw [if_neg (by simpa using h0), Int.toNat_natCast])
    have hle := mostL_le hn6 sets
    have HSW := Lib.hid hs
    obtain ⟨L, hL⟩ : ∃ L, mostL nn sets = L := ⟨_, rfl⟩
    rw [hL] at HD hle
    have HLL := Lib.hid hL
    clear h0 hL
    cases hno : noneB nn L
    · have HNO := Lib.hid hno
      have hpos : L.length ≠ 0 := by
        intro e
        unfold noneB at hno
        rw [e] at hno
        simp at hno
      obtain ⟨q, hq⟩ : ∃ q, L.length = q + 1 := ⟨L.length - 1, by omega⟩
      have e1 : (L.length : Int) - 1 = (q : Int) := by omega
      clear hno
      by_cases hm : m = q
      · have HV := Lib.hid (show (dealF nn sets m == 0) = true by rw [HD.out, HNO.out, if_neg (by simp), if_pos (by omega)]; rfl)
        have g1 : ((m : Int) == (q : Int)) = true := by subst hm; simp
        clear hpos hq hm
        go_enter Try.func36, Try.ntmps36
        go_wp2_with fail
        refine (setsCheck_any nn A len c sets _ HSW.out).mono ?_
        rintro e w1 ⟨rfl, rfl⟩
        rw [H0.out]
        go_wp2_with fail
        refine (deals_any nn hn6 A len c sets _ HSW.out hl false (by rw [HLL.out]; exact HNO.out)).mono ?_
        rintro e w2 ⟨rfl, k2⟩
        have HS2 := Lib.hid (HSW.out.kept k2)
        have K2 := Lib.hid k2
        clear k2
        go_wp2_with fail
        refine (mostLost_any nn hn6 A len c sets _ HS2.out hl).mono ?_
        rintro e w3 ⟨A3, c3, rfl, h3, k3⟩
        rw [HLL.out]
        have K3 := Lib.hid k3
        clear h3 k3
        go_wp2_with fail
        go_ret
        exact ⟨by rw [HV.out]; rfl, K2.out.trans K3.out⟩
      · have HV := Lib.hid (show (dealF nn sets m == 0) = false by rw [HD.out, HNO.out, if_neg (by simp), if_neg (by omega)]; rfl)
        have g1 : ((m : Int) == (q : Int)) = false := by rw [beq_eq_false_iff_ne]; omega
        clear hpos hq hm
        go_enter Try.func36, Try.ntmps36
        go_wp2_with fail
        refine (setsCheck_any nn A len c sets _ HSW.out).mono ?_
        rintro e w1 ⟨rfl, rfl⟩
        rw [H0.out]
        go_wp2_with fail
        refine (deals_any nn hn6 A len c sets _ HSW.out hl false (by rw [HLL.out]; exact HNO.out)).mono ?_
        rintro e w2 ⟨rfl, k2⟩
        have HS2 := Lib.hid (HSW.out.kept k2)
        have K2 := Lib.hid k2
        clear k2
        go_wp2_with fail
        refine (mostLost_any nn hn6 A len c sets _ HS2.out hl).mono ?_
        rintro e w3 ⟨A3, c3, rfl, h3, k3⟩
        rw [HLL.out]
        have K3 := Lib.hid k3
        clear h3 k3
        go_wp2_with fail
        go_ret
        exact ⟨by rw [HV.out]; rfl, K2.out.trans K3.out⟩
    · have HNO := Lib.hid hno
      have HV := Lib.hid (show (dealF nn sets m == 0) = false by rw [HD.out, hno]; rfl)
      clear hno
      go_enter Try.func36, Try.ntmps36
      go_wp2_with fail
      refine (setsCheck_any nn A len c sets _ HSW.out).mono ?_
      rintro e w1 ⟨rfl, rfl⟩
      rw [H0.out]
      go_wp2_with fail
      refine (deals_any nn hn6 A len c sets _ HSW.out hl true (by rw [HLL.out]; exact HNO.out)).mono ?_
      rintro e w2 ⟨rfl, k2⟩
      have K2 := Lib.hid k2
      clear k2
      go_wp2_with fail
      go_ret
      exact ⟨by rw [HV.out]; rfl, K2.out⟩
  · have HV := Lib.hid (show (dealF n sets m == 0) = false by unfold dealF; rw [if_pos h0]; simpa using h0)
    have hne : (setsF n sets == 0) = false := by simpa using h0
    clear h0
    go_enter Try.func36, Try.ntmps36
    go_wp2_with fail
    refine (setsCheck_any n A len c sets _ hs).mono ?_
    rintro e w1 ⟨rfl, rfl⟩
    go_wp2_with fail
    go_ret
    exact ⟨by rw [HV.out]; rfl, Kept.refl _⟩
theorem intsX_same (A : Option Addr) (n c : Nat) (A2 : Option Addr) (c2 : Nat) (xs : List Int) (w : World) (hx : SlI w A n xs) (hy : SlI w A2 n xs) (hn : n ≤ maxLen) :
    Calls Try.prog 39 #[.slice A n c, .slice A2 n c2] w fun e w' => e = .returned (.bool true) ∧ Kept w w' := by
  unfold maxLen at hn
  have hb : ((n : Int) != (n : Int)) = false := by simp
  go_enter Try.func39, Try.ntmps39
  go_wp2_with fail
  go_loopw [5] (fun t wr => ∃ k : Nat, k ≤ n ∧ t = .int .i64 k ∧ Kept w wr) (fun t _ => n - (intOf t).toNat)
  case atStart => exact ⟨0, Nat.zero_le _, rfl, Kept.refl _⟩
  case round =>
    obtain ⟨k, hk, rfl, hkw⟩ := hrel
    by_cases hlt : k < n
    · obtain ⟨b1, o1, hl1, rfl, _, c1'⟩ := (hx.kept hkw).get k hlt
      obtain ⟨b2, o2, hl2, rfl, _, c2'⟩ := (hy.kept hkw).get k hlt
      have hi1 : (0 : Int) ≤ (k : Int) := by omega
      have hi2 : (k : Int) < (n : Int) := by omega
      generalize xs[k] = x at c1' c2'
      have hbb : (x != x) = false := by simp
      go_wp2_with fail
      go_quiet (fail)
      go_wp2_with fail
      go_roundw
      case rel => exact ⟨k + 1, by omega, by go_num, hkw.drewN nq⟩
      case measure => simp [intOf]; omega
    · go_wp2_with fail
      go_ret
      exact ⟨rfl, hkw⟩
end Go.Proofs.Ytodkpojmonikiaa
