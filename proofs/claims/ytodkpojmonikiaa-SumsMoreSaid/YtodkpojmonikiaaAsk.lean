/- The walks of package sums: wrong, Told; and of the statements' side: AskedCheck, asked, Odd. -/
import Derived.Test.YtodkpojmonikiaaTold2
namespace Go.Proofs.Ytodkpojmonikiaa
open Go Go.RowKit
set_option linter.unusedVariables false

/-- a word that has a bit beyond n -/
def misW (n : Nat) (q : BitVec 32) : Bool := !fitB n q
def askF (n : Int) (qs : List (BitVec 32)) (s : BitVec 32) : Int := if n < 1 ∨ 8 < n ∨ 12 < qs.length then 1 else if qs.any (misW n.toNat) then 4 else if fitB n.toNat s then 0 else 4
theorem askF_zero {n : Int} {qs : List (BitVec 32)} {s : BitVec 32} (h : askF n qs s = 0) : ∃ nn : Nat, n = nn ∧ 1 ≤ nn ∧ nn ≤ 8 ∧ qs.length ≤ 12 ∧ ∀ q ∈ qs, fitB nn q = true := by
  unfold askF at h
  by_cases h1 : n < 1 ∨ 8 < n ∨ 12 < qs.length
  · rw [if_pos h1] at h; cases h
  · rw [if_neg h1] at h
    obtain ⟨nn, rfl⟩ := Int.eq_ofNat_of_zero_le (show 0 ≤ n by omega)
    refine ⟨nn, rfl, by omega, by omega, by omega, fun q hq => ?_⟩
    rw [Int.toNat_natCast] at h
    cases h2 : qs.any (misW nn)
    · rw [List.any_eq_false] at h2
      have := h2 q hq
      unfold misW at this
      simpa using this
    · rw [if_pos h2] at h; cases h
theorem sums1_any (nn : Nat) (p : Addr) (x : BitVec 32) (w : World) (hp : w.cell? p = some (.int .i64 nn)) (hn8 : nn ≤ 8) :
    Calls Try.prog 83 #[.int .u32 (W x), .pointer (some p)] w fun e w' => e = .returned (.bool (misW nn x)) ∧ w = w' := by
  go_enter Try.func83, Try.ntmps83
  go_wp2
  go_ret
  exact ⟨rfl, rfl⟩
theorem sumsIndex_any (nn : Nat) (p : Addr) (A : Option Addr) (n c : Nat) (xs : List (BitVec 32)) (w : World) (hs : SlW w A n xs) (hn : n ≤ 1000) (hp : w.cell? p = some (.int .i64 nn)) (hn8 : nn ≤ 8) :
    Calls Try.prog 85 #[.slice A n c, .func (.func 83) #[] #[.pointer (some p)]] w fun e w' => e = .returned (.int .i64 (firstI (misW nn) xs)) ∧ w = w' := by
  go_enter Try.func85, Try.ntmps85
  go_wp2_with fail
  go_loop [8] (fun t => ∃ q : Nat, q ≤ n ∧ t = .int .i64 q ∧ Hid ((xs.take q).any (misW nn) = false)) (fun t => n - (intOf t).toNat)
  case atStart => exact ⟨0, Nat.zero_le _, rfl, Lib.hid rfl⟩
  case round =>
    obtain ⟨q, hq, rfl, HN⟩ := hrel
    by_cases hlt : q < n
    · obtain ⟨b, off, hk, rfl, hb, cq⟩ := hs.get q hlt
      have hsn := Lib.hid (any_snoc (misW nn) xs q hk)
      have hhit := Lib.hid (firstI_hit (misW nn) xs q hk HN.out)
      cases hb1 : (misW nn) xs[q]
      · have HB := Lib.hid hb1
        clear hb1
        go_wp2_with fail
        refine (sums1_any nn p _ _ hp hn8).mono ?_
        rintro e w' ⟨rfl, rfl⟩
        rw [HB.out]
        go_wp2_with fail
        go_round
        case rel => exact ⟨q + 1, by omega, by go_num, Lib.hid (by rw [hsn.out, HN.out, HB.out]; rfl)⟩
        case measure => simp [intOf]; omega
      · have HB := Lib.hid hb1
        clear hb1
        go_wp2_with fail
        refine (sums1_any nn p _ _ hp hn8).mono ?_
        rintro e w' ⟨rfl, rfl⟩
        rw [HB.out]
        go_wp2_with fail
        go_ret
        exact ⟨by rw [hhit.out HB.out]; rfl, rfl⟩
    · have HK := Lib.hid (take_all xs q (by rw [hs.2]; omega))
      go_wp2_with fail
      go_ret
      exact ⟨by rw [firstI_none _ _ (by rw [← HK.out]; exact HN.out)]; rfl, rfl⟩
theorem sumsContains_any (nn : Nat) (p : Addr) (A : Option Addr) (n c : Nat) (xs : List (BitVec 32)) (w : World) (hs : SlW w A n xs) (hn : n ≤ 1000) (hp : w.cell? p = some (.int .i64 nn)) (hn8 : nn ≤ 8) :
    Calls Try.prog 65 #[.slice A n c, .func (.func 83) #[] #[.pointer (some p)]] w fun e w' => e = .returned (.bool (xs.any (misW nn))) ∧ w = w' := by
  have H := Lib.hid (firstI_ge (misW nn) xs)
  go_enter Try.func65, Try.ntmps65
  go_wp2_with fail
  refine (sumsIndex_any nn p _ _ _ xs _ hs hn hp hn8).mono ?_
  rintro e w' ⟨rfl, rfl⟩
  go_wp2_with fail
  go_ret
  exact ⟨by rw [← H.out]; rfl, rfl⟩

theorem guards12 {n : Int} {len : Nat} (hbad : n < 1 ∨ 8 < n ∨ 12 < len) : decide (n < 1) = true ∨ (decide (n < 1) = false ∧ decide (8 < n) = true) ∨ (decide (n < 1) = false ∧ decide (8 < n) = false ∧ decide (12 < (len : Int)) = true) := by
  simp only [decide_eq_true_eq, decide_eq_false_iff_not]
  omega
set_option maxHeartbeats 800000 in
theorem sumsWrong_any (n : Int) (A : Option Addr) (len c : Nat) (qs : List (BitVec 32)) (s : BitVec 32) (w : World) (hs : SlW w A len qs) :
    Calls Try.prog 52 #[.int .i64 n, .slice A len c, .int .u32 (W s)] w fun e w' => e = .returned (.int .i64 (askF n qs s)) ∧ Kept w w' := by
  by_cases hbad : n < 1 ∨ 8 < n ∨ 12 < len
  · have HF := Lib.hid (show askF n qs s = 1 by unfold askF; rw [if_pos (by rw [hs.2]; exact hbad)])
    clear hs
    rcases guards12 hbad with d1 | ⟨d1, d2⟩ | ⟨d1, d2, d3⟩
    all_goals
      clear hbad
      go_enter Try.func52, Try.ntmps52
      go_wp2
      go_ret
      exact ⟨by rw [HF.out]; rfl, (Kept.refl _).alloc _⟩
  · obtain ⟨nn, rfl⟩ := Int.eq_ofNat_of_zero_le (show 0 ≤ n by omega)
    have hn8 : nn ≤ 8 := by omega
    have d1 : decide ((nn : Int) < 1) = false := by simp; omega
    have d2 : decide (8 < (nn : Int)) = false := by simp; omega
    have d3 : decide (12 < (len : Int)) = false := by simp; omega
    have HF := Lib.hid (show askF nn qs s = if qs.any (misW nn) then 4 else if fitB nn s then 0 else 4 by unfold askF; rw [if_neg (by rw [hs.2]; exact hbad), Int.toNat_natCast])
    have hl5 : len ≤ 12 := by omega
    clear hbad
    go_enter Try.func52, Try.ntmps52
    go_wp2_with fail
    have hka : Kept w (w.alloc (.cells #[.int .i64 nn] 3)) := (Kept.refl _).alloc _
    have bx := Box.new w #[.int .i64 nn] 3 w.heap.size rfl
    refine (sumsContains_any nn ⟨w.heap.size, 0, none⟩ _ _ _ qs _ (hs.kept hka) (by omega) (bx.at_ 0 rfl) hn8).mono ?_
    rintro e w1 ⟨rfl, rfl⟩
    have e0 := bx.at_ 0 rfl
    cases ha : qs.any (misW nn)
    · cases hf : fitB nn s
      · have HV := Lib.hid (show askF nn qs s = 4 by rw [HF.out, ha, hf]; rfl)
        clear ha
        go_wp2_with fail
        go_ret
        exact ⟨by rw [HV.out]; rfl, hka⟩
      · have HV := Lib.hid (show askF nn qs s = 0 by rw [HF.out, ha, hf]; rfl)
        clear ha
        go_wp2_with fail
        go_ret
        exact ⟨by rw [HV.out]; rfl, hka⟩
    · have HV := Lib.hid (show askF nn qs s = 4 by rw [HF.out, ha]; rfl)
      clear ha
      go_wp2_with fail
      go_ret
      exact ⟨by rw [HV.out]; rfl, hka⟩
theorem sumsFits_any (n : Nat) (hn : n < 32) (x : BitVec 32) (w : World) : Calls Try.prog 25 #[.int .i64 n, .int .u32 (W x)] w fun e w' => e = .returned (.bool (fitB n x)) ∧ w = w' := by
  have h1 : decide (32 ≤ (n : Int)) = false := by simp; omega
  rw [fitB_lt hn]
  go_enter Try.func25, Try.ntmps25
  go_wp2
  go_ret
  exact ⟨rfl, rfl⟩
theorem sumsBit_any (x : BitVec 32) (i : Nat) (hi : i < 32) (w : World) : Calls Try.prog 18 #[.int .u32 (W x), .int .i64 i] w fun e w' => e = .returned (.bool (x.getLsbD i)) ∧ w = w' := by
  have h1 : decide (0 ≤ (i : Int)) = true := by simp
  have h2 : decide ((i : Int) < 32) = true := by simp; omega
  go_enter Try.func18, Try.ntmps18
  go_wp2
  go_ret
  exact ⟨rfl, rfl⟩
theorem sumsSize_any (x : BitVec 32) (w : World) : Calls Try.prog 56 #[.int .u32 (W x)] w fun e w' => e = .returned (.int .i64 (sizeN x 32)) ∧ w = w' := by
  go_enter Try.func56, Try.ntmps56
  go_wp2_with fail
  go_loop [3, 4] (fun s t => ∃ k : Nat, k ≤ 32 ∧ t = .int .i64 k ∧ s = .int .i64 (sizeN x k)) (fun _ t => 32 - (intOf t).toNat)
  case atStart => exact ⟨0, by omega, rfl, rfl⟩
  case round =>
    obtain ⟨k, hk, rfl, rfl⟩ := hrel
    have hle := sizeN_le x k
    by_cases hlt : k < 32
    · have hi2 : (k : Int) < 32 := by omega
      have HS := Lib.hid (show sizeN x (k + 1) = sizeN x k + if x.getLsbD k then 1 else 0 from rfl)
      cases hb : x.getLsbD k
      · have HB := Lib.hid hb
        go_wp2_with fail
        refine (sumsBit_any x k hlt _).mono ?_
        rintro e w' ⟨rfl, rfl⟩
        rw [HB.out]
        go_wp2_with fail
        go_round
        case rel => exact ⟨k + 1, by omega, by go_num, by rw [HS.out, HB.out]; rfl⟩
        case measure => simp [intOf]; omega
      · have HB := Lib.hid hb
        go_wp2_with fail
        refine (sumsBit_any x k hlt _).mono ?_
        rintro e w' ⟨rfl, rfl⟩
        rw [HB.out]
        go_wp2_with fail
        go_round
        case rel => exact ⟨k + 1, by omega, by go_num, by rw [HS.out, HB.out]; rfl⟩
        case measure => simp [intOf]; omega
    · have HK := Lib.hid (show k = 32 by omega)
      go_wp2_with fail
      go_ret
      exact ⟨by rw [← HK.out]; rfl, rfl⟩
theorem odd_any (a q : BitVec 32) (w : World) : Calls Try.prog 26 #[.int .u32 (W a), .int .u32 (W q)] w fun e w' => e = .returned (.bool (oddB a q)) ∧ w = w' := by
  have hle := sizeN_le (a &&& q) 32
  have ho : oddB a q = decide (sizeN (a &&& q) 32 % 2 = 1) := rfl
  have hsz := sumsSize_any (a &&& q)
  generalize sizeN (a &&& q) 32 = m at hle ho hsz
  obtain ⟨r, hr⟩ : ∃ r : Nat, m % 2 = r := ⟨_, rfl⟩
  have er : (m : Int) % 2 = (r : Int) := by omega
  have HO := Lib.hid (show oddB a q = ((r : Int) == 1) by rw [ho, hr, Bool.eq_iff_iff]; simp; omega)
  clear ho
  go_enter Try.func26, Try.ntmps26
  go_wp2_with fail
  refine (hsz _).mono ?_
  rintro e w' ⟨rfl, rfl⟩
  go_wp2_with fail
  go_ret
  exact ⟨by rw [HO.out]; rfl, rfl⟩
set_option maxHeartbeats 800000 in
theorem askedCheck_any (n : Int) (A : Option Addr) (len c : Nat) (qs : List (BitVec 32)) (s : BitVec 32) (w : World) (hs : SlW w A len qs) :
    Calls Try.prog 55 #[.int .i64 n, .slice A len c, .int .u32 (W s)] w fun e w' => e = .returned (.int .i64 (askF n qs s)) ∧ w = w' := by
  by_cases hbad : n < 1 ∨ 8 < n ∨ 12 < len
  · have HF := Lib.hid (show askF n qs s = 1 by unfold askF; rw [if_pos (by rw [hs.2]; exact hbad)])
    clear hs
    rcases guards12 hbad with d1 | ⟨d1, d2⟩ | ⟨d1, d2, d3⟩
    all_goals
      clear hbad
      go_enter Try.func55, Try.ntmps55
      go_wp2
      go_ret
      exact ⟨by rw [HF.out]; rfl, rfl⟩
  · obtain ⟨nn, rfl⟩ := Int.eq_ofNat_of_zero_le (show 0 ≤ n by omega)
    have hn8 : nn ≤ 8 := by omega
    have d1 : decide ((nn : Int) < 1) = false := by simp; omega
    have d2 : decide (8 < (nn : Int)) = false := by simp; omega
    have d3 : decide (12 < (len : Int)) = false := by simp; omega
    have HF := Lib.hid (show askF nn qs s = if qs.any (misW nn) then 4 else if fitB nn s then 0 else 4 by unfold askF; rw [if_neg (by rw [hs.2]; exact hbad), Int.toNat_natCast])
    have hl5 : len ≤ 12 := by omega
    have HL := Lib.hid hs.2
    clear hbad
    go_enter Try.func55, Try.ntmps55
    go_wp2_with fail
    clear d1 d2 d3
    go_loop [22] (fun t => ∃ q : Nat, q ≤ len ∧ t = .int .i64 q ∧ Hid ((qs.take q).any (misW nn) = false)) (fun t => len - (intOf t).toNat)
    case atStart => exact ⟨0, Nat.zero_le _, rfl, Lib.hid rfl⟩
    case round =>
      obtain ⟨q, hq, rfl, hno⟩ := hrel
      by_cases hlt : q < len
      · obtain ⟨b, off, hk, rfl, hb, cq⟩ := hs.get q hlt
        have HS := Lib.hid (any_snoc (misW nn) qs q hk)
        have HE := Lib.hid (show misW nn qs[q] = true → qs.any (misW nn) = true from fun h => List.any_eq_true.2 ⟨_, List.getElem_mem hk, h⟩)
        generalize qs[q] = r at cq HS HE
        have hi1 : (0 : Int) ≤ (q : Int) := by omega
        have hi2 : (q : Int) < (len : Int) := by omega
        cases hf : fitB nn r
        · have HV := Lib.hid (show askF nn qs s = 4 by rw [HF.out, HE.out (by unfold misW; rw [hf]; rfl)]; rfl)
          have HB := Lib.hid hf
          clear hf
          go_wp2_with fail
          refine (sumsFits_any nn (by omega) r _).mono ?_
          rintro e w1 ⟨rfl, rfl⟩
          rw [HB.out]
          go_wp2_with fail
          go_ret
          exact ⟨by rw [HV.out]; rfl, rfl⟩
        · have HB := Lib.hid hf
          clear hf
          go_wp2_with fail
          refine (sumsFits_any nn (by omega) r _).mono ?_
          rintro e w1 ⟨rfl, rfl⟩
          rw [HB.out]
          go_wp2_with fail
          go_round
          case rel => exact ⟨q + 1, by omega, by go_num, Lib.hid (by rw [HS.out, hno.out]; unfold misW; rw [HB.out]; rfl)⟩
          case measure => simp [intOf]; omega
      · have HA := Lib.hid (show qs.any (misW nn) = false by have h := hno.out; rwa [take_all qs q (by rw [HL.out]; omega)] at h)
        go_wp2_with fail
        refine (sumsFits_any nn (by omega) s _).mono ?_
        rintro e w1 ⟨rfl, rfl⟩
        cases hf : fitB nn s
        · have HV := Lib.hid (show askF nn qs s = 4 by rw [HF.out, HA.out, hf]; rfl)
          go_wp2_with fail
          go_ret
          exact ⟨by rw [HV.out]; rfl, rfl⟩
        · have HV := Lib.hid (show askF nn qs s = 0 by rw [HF.out, HA.out, hf]; rfl)
          go_wp2_with fail
          go_ret
          exact ⟨by rw [HV.out]; rfl, rfl⟩
theorem asked_any (n : Int) (A : Option Addr) (len c : Nat) (qs : List (BitVec 32)) (s : BitVec 32) (w : World) (hs : SlW w A len qs) :
    Calls Try.prog 24 #[.int .i64 n, .slice A len c, .int .u32 (W s)] w fun e w' => e = .returned (.bool (askF n qs s == 0)) ∧ w = w' := by
  go_enter Try.func24, Try.ntmps24
  go_wp2_with fail
  refine (askedCheck_any n A len c qs s _ hs).mono ?_
  rintro e w1 ⟨rfl, rfl⟩
  go_wp2_with fail
  go_ret
  exact ⟨rfl, rfl⟩
/-- what Told answers -/
def RetTold (w : World) (n : Int) (qs : List (BitVec 32)) (e : Ending) (w' : World) : Prop :=
  Kept w w' ∧ ((askF n qs 0#32 ≠ 0 ∧ e = .returned (.tuple #[.int .u32 0, .int .i64 (askF n qs 0#32)])) ∨ (askF n qs 0#32 = 0 ∧ e = .returned (.tuple #[.int .u32 (W (toldR (rowsQ qs qs.length))), .int .i64 0])))
theorem sumsTold_any (n : Int) (A : Option Addr) (len c : Nat) (qs : List (BitVec 32)) (w : World) (hs : SlW w A len qs) :
    Calls Try.prog 23 #[.int .i64 n, .slice A len c] w (RetTold w n qs) := by
  have hw := fun w h => sumsWrong_any n A len c qs 0#32 w h
  rw [W_zero] at hw
  by_cases h0 : askF n qs 0#32 = 0
  · obtain ⟨nn, rfl, h1, h8, hl, hok⟩ := askF_zero h0
    have hl2 := hs.2
    have HB := Lib.hid (fun w' h => build_any A len c qs nn w' h h8 hok (by omega))
    have HR := Lib.hid (fun k hk => rowsQ_ref (n := nn) (qs := qs) h8 hok k hk)
    have H0 := Lib.hid h0
    clear hok h0
    go_enter Try.func23, Try.ntmps23
    go_wp2_with fail
    refine (hw _ hs).mono ?_
    rintro e w1 ⟨rfl, k1⟩
    rw [H0.out]
    go_wp2_with fail
    refine (HB.out _ (hs.kept k1)).mono ?_
    rintro e w2 ⟨B, A2, c2, rfl, hb, k2⟩
    rw [← hl2] at hb
    have href := HR.out qs.length (Nat.le_refl _)
    have hln := rowsQ_len qs qs.length
    have hfin := Lib.hid (fun w' (k : Kept w2 w') => show RetTold w nn qs (.returned (.tuple #[.int .u32 (W (toldR (rowsQ qs qs.length))), .int .i64 0])) w' from ⟨(k1.trans k2).trans k, .inr ⟨H0.out, rfl⟩⟩)
    generalize rowsQ qs qs.length = l at hb href hln hfin
    go_wp2_with fail
    refine (told_any B A2 l.length c2 l _ hb (by omega)).mono ?_
    rintro e w3 ⟨rfl, k3⟩
    go_wp2_with fail
    go_ret2
    exact hfin.out _ k3
  · have H0 := Lib.hid h0
    have hne : (askF n qs 0#32 != 0) = true := by simpa using h0
    clear h0
    go_enter Try.func23, Try.ntmps23
    go_wp2_with fail
    refine (hw _ hs).mono ?_
    rintro e w1 ⟨rfl, k1⟩
    go_wp2_with fail
    go_ret2
    exact ⟨k1, .inl ⟨H0.out, rfl⟩⟩
end Go.Proofs.Ytodkpojmonikiaa
