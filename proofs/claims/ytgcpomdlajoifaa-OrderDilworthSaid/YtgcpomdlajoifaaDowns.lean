/- The walks of package downs, and of what the statements ask of sets: Free, Turned, Size, Fits. -/
import Derived.Test.YtgcpomdlajoifaaLine
import Derived.Test.YtgcpomdlajoifaaDownsP
import Derived.BigQuiet
import Derived.Deep.RegionHeld3
namespace Go.Proofs.Ytgcpomdlajoifaa
open Go Go.RowKit
set_option linter.unusedVariables false

theorem fill_any (A : Option Addr) (n c : Nat) (up : List (BitVec 32)) (s : BitVec 32) (w : World) (hs : SlW w A n up) (hn : n ≤ 32) :
    Calls Try.prog 50 #[.slice A n c, .int .u32 (W s)] w fun e w' => e = .returned (.int .u32 (W (fillF up s))) ∧ w = w' := by
  have HL := Lib.hid hs.2
  go_enter Try.func50, Try.ntmps50
  go_wp2_with fail
  go_loop [5, 11] (fun o t => ∃ k : Nat, k ≤ n ∧ t = .int .i64 k ∧ o = .int .u32 (W (fillTo2 up s k))) (fun _ t => n - (intOf t).toNat)
  case atStart => exact ⟨0, Nat.zero_le _, rfl, by unfold fillTo2 wordN; simp⟩
  case round =>
    obtain ⟨k, hk, rfl, rfl⟩ := hrel
    by_cases hlt : k < n
    · obtain ⟨b, off, rfl, hb, ck⟩ := hs.getN k hlt
      have HS := Lib.hid (fillTo2_succ up s k)
      have HH := Lib.hid (show hitB up s k = (nth up k &&& s != 0#32) from rfl)
      generalize nth up k = x at ck HH
      generalize fillTo2 up s k = y at HS
      cases hb1 : x &&& s != 0#32
      · have HB := Lib.hid (HH.out.trans hb1)
        go_wp2_with fail
        go_round
        case rel => exact ⟨k + 1, by omega, by go_num, by rw [HS.out, HB.out]; rfl⟩
        case measure => simp [intOf]; omega
      · have HB := Lib.hid (HH.out.trans hb1)
        go_wp2_with fail
        go_round
        case rel => exact ⟨k + 1, by omega, by go_num, by rw [HS.out, HB.out]; rfl⟩
        case measure => simp [intOf]; omega
    · have HK := Lib.hid (show k = n by omega)
      go_wp2_with fail
      go_ret
      exact ⟨by unfold fillF; rw [HL.out, ← HK.out]; rfl, rfl⟩
/-- what Fill hands back -/
noncomputable def fillR (n : Nat) (ps : List Pr) (s : BitVec 32) : Int × BitVec 32 := if fitB n s then (0, dnW n ps s) else (4, 0#32)
theorem fillX_ok (n : Nat) (A : Option Addr) (len c : Nat) (ps : List Pr) (s : BitVec 32) (w : World) (hp : SlP w A len ps) (hc : ordF n ps = 0) :
    Calls Try.prog 29 #[.int .i64 n, .slice A len c, .int .u32 (W s)] w fun e w' => e = .returned (.tuple #[.int .u32 (W (fillR n ps s).2), .int .i64 (fillR n ps s).1]) ∧ Kept w w' := by
  have hn6 := (ordF_zero hc).1.2.1
  have HC := Lib.hid hc
  clear hc
  go_enter Try.func29, Try.ntmps29
  go_wp2_with fail
  refine (table_any n _ _ _ ps _ hp).mono ?_
  rintro e w1 ⟨k1, ⟨_, A1, c1, rfl, hup⟩ | ⟨hne, _⟩⟩
  case inr => rw [HC.out] at hne; cases hne
  rw [Int.toNat_natCast] at hup
  cases hf : fitB n s
  · have HR := Lib.hid (show fillR n ps s = (4, 0#32) by unfold fillR; rw [hf]; rfl)
    go_wp2_with fail
    go_ret2
    exact ⟨by rw [HR.out]; rfl, k1⟩
  · have HR := Lib.hid (show fillR n ps s = (0, dnW n ps s) by unfold fillR; rw [hf]; rfl)
    have HFF := Lib.hid (fillF_upL (ps := ps) (show n ≤ 32 by omega) s hf)
    go_wp2_with fail
    refine (fill_any _ _ _ (upL n ps) s _ hup (by omega)).mono ?_
    rintro e w2 ⟨rfl, rfl⟩
    rw [HFF.out]
    go_wp2_with fail
    go_ret2
    exact ⟨by rw [HR.out]; rfl, k1⟩
theorem fillX_no (n : Int) (A : Option Addr) (len c : Nat) (ps : List Pr) (s : BitVec 32) (w : World) (hp : SlP w A len ps) (hc : (ordF n ps != 0) = true) :
    Calls Try.prog 29 #[.int .i64 n, .slice A len c, .int .u32 (W s)] w fun e w' => e = .returned (.tuple #[.int .u32 0, .int .i64 (ordF n ps)]) ∧ Kept w w' := by
  have HC := Lib.hid hc
  clear hc
  go_enter Try.func29, Try.ntmps29
  go_wp2_with fail
  refine (table_any n _ _ _ ps _ hp).mono ?_
  rintro e w1 ⟨k1, ⟨h0, _⟩ | ⟨hne, rfl⟩⟩
  · have := HC.out; rw [h0] at this; cases this
  go_wp2_with fail
  go_ret2
  exact ⟨rfl, k1⟩
set_option maxHeartbeats 400000 in
theorem edgeX_ok (n : Nat) (A : Option Addr) (len c : Nat) (ps : List Pr) (s : BitVec 32) (w : World) (hp : SlP w A len ps) (hc : ordF n ps = 0) (hs : fitB n s = true) (hd : dnW n ps s = s) :
    Calls Try.prog 31 #[.int .i64 n, .slice A len c, .int .u32 (W s)] w fun e w' => e = .returned (.tuple #[.int .u32 (W (edW n ps s)), .int .i64 0]) ∧ Kept w w' := by
  have hn6 := (ordF_zero hc).1.2.1
  have HC := Lib.hid hc
  have HFF := Lib.hid ((fillF_upL (ps := ps) (show n ≤ 32 by omega) s hs).trans hd)
  clear hc hd
  go_enter Try.func31, Try.ntmps31
  go_wp2_with fail
  refine (table_any n _ _ _ ps _ hp).mono ?_
  rintro e w1 ⟨k1, ⟨_, A1, c1, rfl, hup⟩ | ⟨hne, _⟩⟩
  case inr => rw [HC.out] at hne; cases hne
  rw [Int.toNat_natCast] at hup
  go_wp2_with fail
  refine (fill_any _ _ _ (upL n ps) s _ hup (by omega)).mono ?_
  rintro e w2 ⟨rfl, rfl⟩
  rw [HFF.out]
  have hbne : (s != s) = false := by simp
  go_wp2_with fail
  clear hbne
  go_loop [10, 36] (fun o t => ∃ k : Nat, k ≤ n ∧ t = .int .i64 k ∧ o = .int .u32 (W (wordN k (edgeB (upL n ps) s)))) (fun _ t => n - (intOf t).toNat)
  case atStart => exact ⟨0, Nat.zero_le _, rfl, rfl⟩
  case round =>
    obtain ⟨k, hk, rfl, rfl⟩ := hrel
    by_cases hlt : k < n
    · obtain ⟨b, off, rfl, hb, ck⟩ := hup.getN k hlt
      have HS := Lib.hid (wordN_succ k (edgeB (upL n ps) s))
      have HH := Lib.hid (show edgeB (upL n ps) s k = (s.getLsbD k && (nth (upL n ps) k &&& s == 1#32 <<< k)) from rfl)
      generalize nth (upL n ps) k = x at ck HH
      generalize wordN k (edgeB (upL n ps) s) = y at HS
      cases hb1 : s.getLsbD k
      · have HB := Lib.hid (show edgeB (upL n ps) s k = false by rw [HH.out, hb1]; rfl)
        go_wp2_with fail
        go_round
        case rel => exact ⟨k + 1, by omega, by go_num, by rw [HS.out, HB.out]; rfl⟩
        case measure => simp [intOf]; omega
      · cases hb2 : x &&& s == 1#32 <<< k
        · have HB := Lib.hid (show edgeB (upL n ps) s k = false by rw [HH.out, hb1, hb2]; rfl)
          go_wp2_with fail
          go_round
          case rel => exact ⟨k + 1, by omega, by go_num, by rw [HS.out, HB.out]; rfl⟩
          case measure => simp [intOf]; omega
        · have HB := Lib.hid (show edgeB (upL n ps) s k = true by rw [HH.out, hb1, hb2]; rfl)
          go_wp2_with fail
          go_round
          case rel => exact ⟨k + 1, by omega, by go_num, by rw [HS.out, HB.out]; rfl⟩
          case measure => simp [intOf]; omega
    · have HK := Lib.hid (show k = n by omega)
      have HE := Lib.hid (edgeF_upL (ps := ps) (show n ≤ 32 by omega) s)
      go_wp2_with fail
      go_ret2
      exact ⟨by rw [← HE.out]; unfold edgeF; rw [upL_length, ← HK.out]; rfl, k1⟩
theorem edgeX_no (n : Int) (A : Option Addr) (len c : Nat) (ps : List Pr) (s : BitVec 32) (w : World) (hp : SlP w A len ps) (hc : (ordF n ps != 0) = true) :
    Calls Try.prog 31 #[.int .i64 n, .slice A len c, .int .u32 (W s)] w fun e w' => e = .returned (.tuple #[.int .u32 0, .int .i64 (ordF n ps)]) ∧ Kept w w' := by
  have HC := Lib.hid hc
  clear hc
  go_enter Try.func31, Try.ntmps31
  go_wp2_with fail
  refine (table_any n _ _ _ ps _ hp).mono ?_
  rintro e w1 ⟨k1, ⟨h0, _⟩ | ⟨hne, rfl⟩⟩
  · have := HC.out; rw [h0] at this; cases this
  go_wp2_with fail
  go_ret2
  exact ⟨rfl, k1⟩
/-- the full sets among the first k words -/
noncomputable def downsTo (n : Nat) (ps : List Pr) (k : Nat) : List (BitVec 32) := ((words n).take k).filter fun s => fillF (upL n ps) s == s
set_option maxHeartbeats 400000 in
theorem all_ok (n : Nat) (A : Option Addr) (len c : Nat) (ps : List Pr) (w : World) (hp : SlP w A len ps) (hc : ordF n ps = 0) :
    Calls Try.prog 49 #[.int .i64 n, .slice A len c] w (RetWords w (downsL n ps)) := by
  have hn6 := (ordF_zero hc).1.2.1
  have hpl := pow_le n (by omega)
  have HC := Lib.hid hc
  clear hc
  go_enter Try.func49, Try.ntmps49
  go_wp2_with fail
  refine (table_any n _ _ _ ps _ hp).mono ?_
  rintro e w1 ⟨k1, ⟨_, A1, c1, rfl, hup⟩ | ⟨hne, _⟩⟩
  case inr => rw [HC.out] at hne; cases hne
  rw [Int.toNat_natCast] at hup
  go_wp2_with fail
  go_loopw [8, 21] (fun l i wr => ∃ k : Nat, k ≤ 2 ^ n ∧ i = .int .u32 (W (BitVec.ofNat 32 k)) ∧ Own w1 wr 29 1 l (downsTo n ps k).length ((downsTo n ps k).map wv)) (fun _ i _ => 2 ^ n - (intOf i).toNat)
  case atStart => exact ⟨0, Nat.zero_le _, rfl, Own.start (Kept.refl _)⟩
  case round =>
    obtain ⟨k, hkn, rfl, hown⟩ := hrel
    by_cases hlt : k < 2 ^ n
    · have hy := word_yes (show n < 32 by omega) hlt
      have hkl : k < (words n).length := by rw [words_length]; exact hlt
      have hle : (downsTo n ps k).length ≤ k := len_filter_le (fun s => fillF (upL n ps) s == s) (words n) k
      have HS := Lib.hid (show downsTo n ps (k + 1) = downsTo n ps k ++ (if fillF (upL n ps) (words n)[k] == (words n)[k] then [(words n)[k]] else []) from filter_snoc (fun s => fillF (upL n ps) s == s) (words n) k hkl)
      have HW := Lib.hid (words_at hkl)
      go_wp2_with fail
      refine (fill_any _ _ _ (upL n ps) _ _ (hup.kept hown.2) (by omega)).mono ?_
      rintro e w2 ⟨rfl, rfl⟩
      cases hfull : fillF (upL n ps) (BitVec.ofNat 32 k) == BitVec.ofNat 32 k
      · have HF := Lib.hid hfull
        go_wp2_with fail
        go_roundw
        case rel => exact ⟨k + 1, by omega, by rw [word_succ], by rw [HS.out, HW.out, HF.out]; simpa using hown⟩
        case measure => simp only [intOf]; rw [word_succ]; exact word_meas (by omega) hlt
      · have HF := Lib.hid hfull
        go_wp2_with (at_builtin; refine wpList_push rfl _ _ 23 rfl 29 Try.underlying23 info_u32 rfl (by decide) (by decide) _ _ _ _ hown #[.int .u32 (W (BitVec.ofNat 32 k))] _ _ 1 1 rfl rfl rfl rfl (one_u32 _) (by omega) ?_; intro v' w4 hown4 _)
        go_roundw
        case rel => exact ⟨k + 1, by omega, by rw [word_succ], by rw [HS.out, HW.out, HF.out]; simpa [wv] using hown4⟩
        case measure => simp only [intOf]; rw [word_succ]; exact word_meas (by omega) hlt
    · have hkk : k = 2 ^ n := by omega
      have hy := word_no (show n < 32 by omega) hkk
      have HK := Lib.hid (show downsTo n ps k = downsL n ps by unfold downsTo downsL; rw [take_all (words n) k (by rw [words_length]; omega)])
      clear hkk
      rw [HK.out] at hown
      obtain ⟨A2, c2, rfl, hsl, hcap⟩ := hown.form
      have FIN := Lib.hid (show RetWords w (downsL n ps) (.returned (.tuple #[.slice A2 (downsL n ps).length c2, .int .i64 0])) wr from ⟨A2, c2, rfl, ⟨hsl, rfl⟩, hcap, k1.trans hown.2⟩)
      go_wp2_with fail
      go_ret2
      exact FIN.out
theorem many_ok (n : Nat) (A : Option Addr) (len c : Nat) (ps : List Pr) (w : World) (hp : SlP w A len ps) (hc : ordF n ps = 0) :
    Calls Try.prog 27 #[.int .i64 n, .slice A len c] w fun e w' => e = .returned (.tuple #[.int .i64 (downsL n ps).length, .int .i64 0]) ∧ Kept w w' := by
  go_enter Try.func27, Try.ntmps27
  go_wp2_with fail
  refine (all_ok n _ _ _ ps _ hp hc).mono ?_
  rintro e w1 ⟨A1, c1, rfl, hs, hcap, k1⟩
  go_wp2_with fail
  go_ret2
  exact ⟨rfl, k1⟩
theorem many_no (n : Int) (A : Option Addr) (len c : Nat) (ps : List Pr) (w : World) (hp : SlP w A len ps) (hc : (ordF n ps != 0) = true) :
    Calls Try.prog 27 #[.int .i64 n, .slice A len c] w fun e w' => e = .returned (.tuple #[.int .i64 0, .int .i64 (ordF n ps)]) ∧ Kept w w' := by
  have HC := Lib.hid hc
  clear hc
  go_enter Try.func27, Try.ntmps27
  go_wp2_with fail
  have hall : ∀ W, SlP W A len ps → Calls Try.prog 49 #[.int .i64 n, .slice A len c] W fun e w' => e = .returned (.tuple #[.slice none 0 0, .int .i64 (ordF n ps)]) ∧ Kept W w' := by
    intro W hW
    have hc := HC.out
    go_enter Try.func49, Try.ntmps49
    go_wp2_with fail
    refine (table_any n _ _ _ ps _ hW).mono ?_
    rintro e w1 ⟨k1, ⟨h0, _⟩ | ⟨hne, rfl⟩⟩
    · have := HC.out; rw [h0] at this; cases this
    go_wp2_with fail
    go_ret2
    exact ⟨rfl, k1⟩
  refine (hall _ hp).mono ?_
  rintro e w1 ⟨rfl, k1⟩
  clear hall
  go_wp2_with fail
  go_ret2
  exact ⟨rfl, k1⟩

/-! ### what the statements ask -/
theorem bitS_is (x : BitVec 32) (i : Nat) (hi : i < 32) (b : Bool) (hb : x.getLsbD i = b) (w : World) : Calls Try.prog 17 #[.int .u32 (W x), .int .i64 i] w fun e w' => e = .returned (.bool b) ∧ w = w' := by
  rw [← hb]
  exact bit_any x i hi w
theorem inS_is (x y : BitVec 32) (b : Bool) (hb : subB x y = b) (w : World) : Calls Try.prog 18 #[.int .u32 (W x), .int .u32 (W y)] w fun e w' => e = .returned (.bool b) ∧ w = w' := by
  rw [← hb]
  exact in_any x y w
theorem fitsS_any (n : Nat) (hn : n < 32) (x : BitVec 32) (w : World) : Calls Try.prog 30 #[.int .i64 n, .int .u32 (W x)] w fun e w' => e = .returned (.bool (fitB n x)) ∧ w = w' := by
  have h1 : decide (32 ≤ (n : Int)) = false := by simp; omega
  rw [fitB_lt hn]
  go_enter Try.func30, Try.ntmps30
  go_wp2
  go_ret
  exact ⟨rfl, rfl⟩
noncomputable def freeTo1 (n : Nat) (ps : List Pr) (s : BitVec 32) (i : Nat) : Bool := (List.range i).any fun i => (List.range n).any (freeAt ps s i)
noncomputable def freeTo2 (ps : List Pr) (s : BitVec 32) (i j : Nat) : Bool := (List.range j).any (freeAt ps s i)
theorem freeTo1_succ (n : Nat) (ps : List Pr) (s : BitVec 32) (i : Nat) : freeTo1 n ps s (i + 1) = (freeTo1 n ps s i || freeTo2 ps s i n) := any_range _ i
theorem freeTo2_succ (ps : List Pr) (s : BitVec 32) (i j : Nat) : freeTo2 ps s i (j + 1) = (freeTo2 ps s i j || freeAt ps s i j) := any_range _ j
theorem free_no {n : Nat} {ps : List Pr} {s : BitVec 32} {i j : Nat} (hi : i < n) (hj : j < n) (h : freeAt ps s i j = true) : freeF n ps s = false := by
  unfold freeF
  rw [Bool.not_eq_false', List.any_eq_true]
  refine ⟨i, List.mem_range.2 hi, ?_⟩
  rw [List.any_eq_true]
  exact ⟨j, List.mem_range.2 hj, h⟩
set_option maxHeartbeats 1000000 in
theorem freeS_any (n : Nat) (hn : n ≤ 6) (A : Option Addr) (len c : Nat) (ps : List Pr) (s : BitVec 32) (w : World) (hp : SlP w A len ps) (hlen : len ≤ 1000) :
    Calls Try.prog 28 #[.int .i64 n, .slice A len c, .int .u32 (W s)] w fun e w' => e = .returned (.bool (freeF n ps s)) ∧ Kept w w' := by
  go_enter Try.func28, Try.ntmps28
  go_wp2_with fail
  go_loopw [7] (fun t wr => ∃ i : Nat, i ≤ n ∧ t = .int .i64 i ∧ Kept w wr ∧ Hid (freeTo1 n ps s i = false)) (fun t _ => n - (intOf t).toNat)
  case atStart => exact ⟨0, Nat.zero_le _, rfl, Kept.refl _, Lib.hid rfl⟩
  case round =>
    obtain ⟨i, hi, rfl, hk1, hno⟩ := hrel
    by_cases hlt : i < n
    · go_wp2_with fail
      go_loopw [8] (fun t wr => ∃ j : Nat, j ≤ n ∧ t = .int .i64 j ∧ Kept w wr ∧ Hid (freeTo2 ps s i j = false)) (fun t _ => n - (intOf t).toNat)
      case atStart => exact ⟨0, Nat.zero_le _, rfl, hk1, Lib.hid rfl⟩
      case round =>
        obtain ⟨j, hj, rfl, hk2, hno2⟩ := hrel
        by_cases hlt2 : j < n
        · have HS := Lib.hid (freeTo2_succ ps s i j)
          have HEND := Lib.hid (fun h => free_no (ps := ps) (s := s) hlt hlt2 h)
          have HA := Lib.hid (show freeAt ps s i j = (i != j && s.getLsbD i && s.getLsbD j && under ps i j) from rfl)
          by_cases hij : i = j
          · have d1 : ((i : Int) != (j : Int)) = false := by simp [hij]
            have HV := Lib.hid (show freeAt ps s i j = false by rw [HA.out]; simp [hij])
            clear hij
            go_wp2_with fail
            go_roundw
            case rel => exact ⟨j + 1, by omega, by go_num, hk2, Lib.hid (by rw [HS.out, hno2.out, HV.out]; rfl)⟩
            case measure => simp [intOf]; omega
          · have d1 : ((i : Int) != (j : Int)) = true := by simp; omega
            have HIJ := Lib.hid (show (i != j) = true by simpa using hij)
            clear hij
            go_wp2_with fail
            refine (bit_any s i (by omega) _).mono ?_
            rintro e w3 ⟨rfl, rfl⟩
            cases hb1 : s.getLsbD i
            · have HV := Lib.hid (show freeAt ps s i j = false by rw [HA.out, hb1]; simp)
              go_wp2_with fail
              go_roundw
              case rel => exact ⟨j + 1, by omega, by go_num, hk2, Lib.hid (by rw [HS.out, hno2.out, HV.out]; rfl)⟩
              case measure => simp [intOf]; omega
            · have HB1 := Lib.hid hb1
              clear hb1
              go_wp2_with fail
              refine (bit_any s j (by omega) _).mono ?_
              rintro e w4 ⟨rfl, rfl⟩
              cases hb2 : s.getLsbD j
              · have HV := Lib.hid (show freeAt ps s i j = false by rw [HA.out, hb2]; simp)
                go_wp2_with fail
                go_roundw
                case rel => exact ⟨j + 1, by omega, by go_num, hk2, Lib.hid (by rw [HS.out, hno2.out, HV.out]; rfl)⟩
                case measure => simp [intOf]; omega
              · have HB2 := Lib.hid hb2
                clear hb2
                go_wp2_with fail
                refine (under_any _ _ _ _ ps _ _ _ (hp.kept hk2) (by omega)).mono ?_
                rintro e w5 ⟨rfl, k5⟩
                cases hu : under ps i j
                · have HV := Lib.hid (show freeAt ps s i j = false by rw [HA.out, hu]; simp)
                  go_wp2_with fail
                  go_roundw
                  case rel => exact ⟨j + 1, by omega, by go_num, hk2.trans k5, Lib.hid (by rw [HS.out, hno2.out, HV.out]; rfl)⟩
                  case measure => simp [intOf]; omega
                · have HV := Lib.hid (HEND.out (by rw [HA.out, HIJ.out, HB1.out, HB2.out, hu]; rfl))
                  go_wp2_with fail
                  go_ret
                  exact ⟨by rw [HV.out]; rfl, hk2.trans k5⟩
        · have HJ := Lib.hid (show j = n by omega)
          go_wp2_with fail
          go_roundw
          case rel => exact ⟨i + 1, by omega, by go_num, hk2, Lib.hid (by have h := hno2.out; rw [HJ.out] at h; rw [freeTo1_succ, hno.out, h]; rfl)⟩
          case measure => simp [intOf]; omega
    · have HI := Lib.hid (show i = n by omega)
      go_wp2_with fail
      go_ret
      exact ⟨by unfold freeF; have h := hno.out; rw [HI.out] at h; unfold freeTo1 at h; rw [h]; rfl, hk1⟩
end Go.Proofs.Ytgcpomdlajoifaa
