/- The walks of package truth: Sums. -/
import Derived.Test.YtjliabifaohfjaaSumsP
import Derived.Test.YtjliabifaohfjaaTruth2
import Derived.BigRegion
namespace Go.Proofs.Ytjliabifaohfjaa
open Go Go.RowKit
set_option linter.unusedVariables false

def RetOwnB (w : World) (xs : List Bool) (e : Ending) (w' : World) : Prop := ∃ v, e = .returned v ∧ Own w w' 4 1 v xs.length (xs.map bv)
theorem cloneB_any (A : Option Addr) (n c : Nat) (xs : List Bool) (w : World) (hs : SlB w A n xs) (hn : n ≤ 1000) (hp : 0 < n) :
    Calls Try.prog 46 #[.slice A n c] w (RetOwnB w xs) := by
  have hnil := fun W => Lib.run_eql_slice_nil (P := Try.prog) W 22 4 A n c 0 0 Try.underlying22
  obtain ⟨b, off, rfl, _⟩ := hs.1.2 hp
  have hl := hs.2
  go_enter Try.func46, Try.ntmps46
  go_wp2_with (at_builtin; refine wpList_pushAll rfl _ _ 22 rfl 4 Try.underlying22 info_bool rfl (by decide) (by decide) _ _ _ _ (Own.empty (Kept.refl w) 4 1 _ rfl) _ _ _ _ (hs.kept ((Kept.refl w).alloc _)).1 rfl rfl (one_bools _) n (by omega) (by omega) ?_; intro v' w3 hown3)
  go_ret
  refine ⟨_, rfl, ?_⟩
  rw [hl]
  simpa using hown3

theorem mid_at (i : Nat) (h : Nat → Bool) (len k s : Nat) (hs : s < len) : (((List.range len).map (midT i h k)).map bv)[s]? = some (bv (midT i h k s)) := by
  simp [hs]
theorem mid_set (i : Nat) (h : Nat → Bool) (len k : Nat) : (((List.range len).map (midT i h k)).map bv).set k (bv (passT i h k)) = ((List.range len).map (midT i h (k + 1))).map bv := by
  rw [map_set]
  congr 1
  apply List.ext_getElem
  · simp
  · intro j h1 h2
    rw [List.getElem_set]
    simp only [List.getElem_map, List.getElem_range]
    unfold midT
    by_cases e : k = j
    · subst e
      simp
    · rw [if_neg e]
      by_cases hj : j < k
      · rw [if_pos hj, if_pos (by omega)]
      · rw [if_neg hj, if_neg (by omega)]
theorem mid_same (i : Nat) (h : Nat → Bool) (len k : Nat) (hb : k.testBit i = false) : (List.range len).map (midT i h k) = (List.range len).map (midT i h (k + 1)) := by
  apply List.map_congr_left
  intro j _
  unfold midT
  by_cases hj : j < k
  · rw [if_pos hj, if_pos (by omega)]
  · rw [if_neg hj]
    by_cases e : j = k
    · subst e
      rw [if_pos (by omega)]
      unfold passT
      rw [hb]
      rfl
    · rw [if_neg (by omega)]
theorem mid_done (i : Nat) (h : Nat → Bool) (len : Nat) : (List.range len).map (midT i h len) = (List.range len).map (passT i h) := by
  apply List.map_congr_left
  intro j hj
  rw [List.mem_range] at hj
  unfold midT
  rw [if_pos hj]
theorem mid_start (i : Nat) (h : Nat → Bool) (len : Nat) : (List.range len).map (midT i h 0) = (List.range len).map h := by
  apply List.map_congr_left
  intro j _
  unfold midT
  rw [if_neg (by omega)]
theorem bit_i64 {s i : Nat} : ((s : Int) / 2 ^ i) = ((s >>> i : Nat) : Int) := by
  rw [Nat.shiftRight_eq_div_pow, Int.natCast_ediv, Int.natCast_pow]
  rfl
theorem and1_nat (m : Nat) : m &&& 1 = if m.testBit 0 then 1 else 0 := by
  rw [Nat.and_one_is_mod, Nat.testBit_zero]
  by_cases h : m % 2 = 1
  · simp [h]
  · have : m % 2 = 0 := by omega
    simp [this]

/-- the post of a call that hands back a new array of truth values -/
def RetRowB (w : World) (xs : List Bool) (e : Ending) (w' : World) : Prop := ∃ B c, e = .returned (.slice (some ⟨B, 0, none⟩) xs.length c) ∧ Row w w' B 4 (xs.map bv) ∧ xs.length ≤ c
set_option maxHeartbeats 1000000 in
theorem sums_row (n : Nat) (hn : n ≤ 4) (A : Option Addr) (len c : Nat) (f : List Bool) (w : World) (hf : SlB w A len f) (hlen : len = 2 ^ n) :
    Calls Try.prog 32 #[.int .i64 n, .slice A len c] w (RetRowB w (sumsL n f)) := by
  have hl16 : len ≤ 16 := by rw [hlen]; exact pow_le4 n hn
  have hlp : 0 < len := by have : 0 < 2 ^ n := Nat.pow_pos (by omega); omega
  have HFL := Lib.hid hf.2
  have HL := Lib.hid hlen
  clear hlen
  go_enter Try.func32, Try.ntmps32
  go_wp2_with fail
  refine (cloneB_any _ _ _ f _ hf (by omega) hlp).mono ?_
  rintro e w1 ⟨v1, rfl, hown⟩
  rw [HFL.out] at hown
  obtain ⟨A1, c1, rfl, _, hcap⟩ := hown.form
  obtain ⟨B, rfl, hrow⟩ := Row.of_own hown hlp
  clear hown
  have e0 : f = (List.range len).map (sumsN (bat f) 0) := by
    apply bat_ext (by rw [HFL.out]; simp)
    intro k hk
    rw [HFL.out] at hk
    rw [bat_map_range _ _ _ hk]
    rfl
  have hrow0 : Row w w1 B 4 (((List.range len).map (sumsN (bat f) 0)).map bv) := by rw [← e0]; exact hrow
  clear hrow e0
  go_wp2_with fail
  go_loopw [11] (fun t wr => ∃ i : Nat, i ≤ n ∧ t = .int .i64 i ∧ Row w wr B 4 (((List.range len).map (sumsN (bat f) i)).map bv)) (fun t _ => n - (intOf t).toNat)
  case atStart => exact ⟨0, Nat.zero_le _, rfl, hrow0⟩
  case round =>
    obtain ⟨i, hi, rfl, hr⟩ := hrel
    by_cases hlt : i < n
    · go_wp2_with fail
      go_loopw [16] (fun t wr => ∃ k : Nat, k ≤ len ∧ t = .int .i64 k ∧ Row w wr B 4 (((List.range len).map (midT i (sumsN (bat f) i) k)).map bv)) (fun t _ => len - (intOf t).toNat)
      case atStart => exact ⟨0, Nat.zero_le _, rfl, by rw [mid_start]; exact hr⟩
      case round =>
        obtain ⟨k, hk, rfl, hr2⟩ := hrel
        by_cases hlt2 : k < len
        · have hbit := bit_i64 (s := k) (i := i)
          have hand : bits .and .i64 ((k >>> i : Nat) : Int) 1 = ((if k.testBit i then 1 else 0 : Nat) : Int) := by
            have h := i64_and (k >>> i) 1 (by have := Nat.shiftRight_le k i; omega) (by omega)
            rw [and1_nat, Nat.testBit_shiftRight, Nat.add_zero] at h
            exact h
          generalize k >>> i = m at hbit hand
          cases hb : k.testBit i
          · have HB := Lib.hid hb
            rw [hb] at hand
            go_wp2_with fail
            go_roundw
            case rel => exact ⟨k + 1, by omega, by go_num, by rw [← mid_same _ _ _ _ HB.out]; exact hr2⟩
            case measure => simp [intOf]; omega
          · have HB := Lib.hid hb
            rw [hb] at hand
            have hxl : k ^^^ 2 ^ i < len := by rw [HL.out]; exact xor_lt (by rw [← HL.out]; exact hlt2) hlt
            have hw := i64_pow i (by omega)
            have hp2 : 2 ^ i < 2 ^ n := Nat.pow_lt_pow_right (by omega) hlt
            rw [← HL.out] at hp2
            have hxor := i64_xor k (2 ^ i) (by omega) (by omega)
            have c0 := hr2.cell k (mid_at i (sumsN (bat f) i) len k k hlt2)
            have c1 := hr2.cell (k ^^^ 2 ^ i) (mid_at i (sumsN (bat f) i) len k _ hxl)
            rw [midT_self] at c0
            rw [midT_other _ HB.out] at c1
            have f0 := hr2.free k
            have HS := Lib.hid (hr2.set k (bv (passT i (sumsN (bat f) i) k)))
            have HP := Lib.hid (show passT i (sumsN (bat f) i) k = (sumsN (bat f) i k != sumsN (bat f) i (k ^^^ 2 ^ i)) by unfold passT; rw [HB.out]; rfl)
            generalize hq : 2 ^ i = q at hxl hw hp2 hxor c1 HP
            generalize hx : k ^^^ q = x at hxl hxor c1 HP
            clear hb hq hx
            have hi1 : (0 : Int) ≤ (k : Int) := by omega
            have hi2 : (k : Int) < (len : Int) := by omega
            have hi3 : (0 : Int) ≤ (x : Int) := by omega
            have hi4 : (x : Int) < (len : Int) := by omega
            unfold bv at c0 c1
            go_wp2_with fail
            go_region
            go_wp2_with fail
            go_roundw
            case rel =>
              refine ⟨k + 1, by omega, by go_num, ?_⟩
              rw [← mid_set, HP.out]
              exact (hr2.set k _).drew
            case measure => simp [intOf]; omega
        · have HK := Lib.hid (show k = len by omega)
          rw [HK.out, mid_done] at hr2
          have HR2 := Lib.hid hr2
          clear hr2
          go_wp2_with fail
          go_roundw
          case rel => exact ⟨i + 1, by omega, by go_num, HR2.out⟩
          case measure => simp [intOf]; omega
    · have HI := Lib.hid (show i = n by omega)
      rw [HI.out] at hr
      have e : (List.range len).map (sumsN (bat f) n) = sumsL n f := by unfold sumsL; rw [HFL.out]
      rw [e] at hr
      have hl2 : (sumsL n f).length = len := by rw [sumsL_length, HFL.out]
      have HL2 := Lib.hid hl2
      clear e hl2
      go_wp2_with fail
      go_ret
      exact ⟨B, c1, by rw [HL2.out]; rfl, hr, by rw [HL2.out]; exact hcap⟩
theorem sums_any (n : Nat) (hn : n ≤ 4) (A : Option Addr) (len c : Nat) (f : List Bool) (w : World) (hf : SlB w A len f) (hlen : len = 2 ^ n) :
    Calls Try.prog 32 #[.int .i64 n, .slice A len c] w (RetB w (sumsL n f)) :=
  (sums_row n hn A len c f w hf hlen).mono fun e w' ⟨B, c1, h1, hr, hc⟩ => ⟨some ⟨B, 0, none⟩, c1, h1, ⟨hr.sl _ (by simp), rfl⟩, hc, hr.kept0⟩
theorem sumsX_ok (n : Int) (A : Option Addr) (len c : Nat) (f : List Bool) (w : World) (hl : len ≤ maxLen) (hf : SlB w A len f) (hc : truthF n f = 0) :
    Calls Try.prog 15 #[.int .i64 n, .slice A len c] w (RetBE w (sumsL n.toNat f)) := by
  have hz := truthF_zero hc
  obtain ⟨n, rfl⟩ := Int.eq_ofNat_of_zero_le hz.1
  rw [Int.toNat_natCast] at hz ⊢
  have hlen : len = 2 ^ n := hf.2.symm.trans hz.2.2
  have hn4 : n ≤ 4 := by omega
  have HC := Lib.hid hc
  have HL := Lib.hid hlen
  clear hc hz hlen
  go_enter Try.func15, Try.ntmps15
  go_wp2_with fail
  refine (truthCheck_any _ _ _ _ f _ hl hf).mono ?_
  rintro e w1 ⟨rfl, rfl⟩
  rw [HC.out]
  go_wp2_with fail
  refine (sums_any n hn4 _ _ _ f _ hf HL.out).mono ?_
  rintro e w2 ⟨A1, c1, rfl, hs, hcap, k1⟩
  go_wp2_with fail
  go_ret2
  exact ⟨A1, c1, rfl, hs, hcap, k1⟩
theorem sumsX_no (n : Int) (A : Option Addr) (len c : Nat) (f : List Bool) (w : World) (hl : len ≤ maxLen) (hf : SlB w A len f) (hc : (truthF n f != 0) = true) :
    Calls Try.prog 15 #[.int .i64 n, .slice A len c] w fun e w' => e = .returned (.tuple #[.slice none 0 0, .int .i64 (truthF n f)]) ∧ w = w' := by
  go_enter Try.func15, Try.ntmps15
  go_wp2_with fail
  refine (truthCheck_any _ _ _ _ f _ hl hf).mono ?_
  rintro e w1 ⟨rfl, rfl⟩
  go_wp2_with fail
  go_ret2
  exact ⟨rfl, rfl⟩
end Go.Proofs.Ytjliabifaohfjaa
