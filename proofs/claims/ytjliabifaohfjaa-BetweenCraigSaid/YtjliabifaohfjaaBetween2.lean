/- The walks of package between: not, Least, Most, Told. -/
import Derived.Test.YtjliabifaohfjaaBetween
namespace Go.Proofs.Ytjliabifaohfjaa
open Go Go.RowKit
set_option linter.unusedVariables false

theorem fitsT_any (n : Nat) (hn : n < 32) (x : BitVec 32) (w : World) : Calls Try.prog 22 #[.int .i64 n, .int .u32 (W x)] w fun e w' => e = .returned (.bool (fitB n x)) ∧ w = w' := by
  have h1 : decide (32 ≤ (n : Int)) = false := by simp; omega
  rw [fitB_lt hn]
  go_enter Try.func22, Try.ntmps22
  go_wp2
  go_ret
  exact ⟨rfl, rfl⟩
def notTo (f : List Bool) (k s : Nat) : Bool := decide (s < k) && !bat f s
theorem notTo_set (f : List Bool) (k : Nat) : setB (notTo f k) k (!bat f k) = notTo f (k + 1) := by
  funext s
  unfold setB notTo
  by_cases e : s = k
  · subst e; simp
  · rw [if_neg e]
    by_cases h : s < k
    · simp [h]; omega
    · simp [h]; omega
theorem rep_rows (n : Nat) (f : List Bool) : (rep n (.bool false)) = (rowsB n (notTo f 0)).toArray := by
  unfold rep rowsB notTo
  congr 1
  rw [List.map_map]
  apply List.ext_getElem
  · simp
  · intro i h1 h2
    simp [bv]
set_option maxHeartbeats 400000 in
theorem not_any (A : Option Addr) (len c : Nat) (f : List Bool) (w : World) (hf : SlB w A len f) (hlen : len ≤ 1000) :
    Calls Try.prog 39 #[.slice A len c] w (RetB w (notL f)) := by
  have hmk := run_make1 (P := Try.prog) 22 4 Try.underlying22 info_bool rfl (by decide) len (by omega)
  have HFL := Lib.hid hf.2
  go_enter Try.func39, Try.ntmps39
  go_wp2_with fail
  obtain ⟨B, hB⟩ : ∃ B, w.heap.size = B := ⟨_, rfl⟩
  have hrow : Row w (w.alloc (.cells (rep len (.bool false)) 4)) B 4 (rowsB len (notTo f 0)) := by
    rw [rep_rows len f]
    exact Row.new (Kept.refl w) _ _ _ hB
  have HB := Lib.hid hB
  rw [hB]
  clear hB hmk
  generalize w.alloc (.cells (rep len (.bool false)) 4) = w1 at hrow
  go_loopw [11] (fun t wr => ∃ k : Nat, k ≤ len ∧ t = .int .i64 k ∧ Row w wr B 4 (rowsB len (notTo f k))) (fun t _ => len - (intOf t).toNat)
  case atStart => exact ⟨0, Nat.zero_le _, rfl, hrow⟩
  case round =>
    obtain ⟨k, hk, rfl, hr⟩ := hrel
    by_cases hlt : k < len
    · obtain ⟨b, off, rfl, hb, cq⟩ := (hf.kept hr.kept0).getN k hlt
      have hcell := hr.cell k (rowsB_at _ hlt)
      have hfree := hr.free k
      have HS := Lib.hid (notTo_set f k)
      have hset := hr.set k (.bool (!bat f k))
      rw [rowsB_set, HS.out] at hset
      have HSET := Lib.hid hset
      clear hset
      generalize bat f k = y at cq HSET
      have hi1 : (0 : Int) ≤ (k : Int) := by omega
      have hi2 : (k : Int) < (len : Int) := by omega
      go_wp2_with fail
      go_roundw
      case rel => exact ⟨k + 1, by omega, by go_num, HSET.out⟩
      case measure => simp [intOf]; omega
    · have HK := Lib.hid (show k = len by omega)
      go_wp2_with fail
      go_ret
      rw [HK.out] at hr
      have hsl := rowsB_sl hr
      have e : (List.range len).map (notTo f len) = notL f := by
        unfold notL
        rw [HFL.out]
        apply List.map_congr_left
        intro s hs
        rw [List.mem_range] at hs
        unfold notTo
        simp [hs]
      rw [e] at hsl
      have hl2 : (notL f).length = len := by rw [notL_length, HFL.out]
      exact ⟨some ⟨B, 0, none⟩, len, by rw [hl2]; rfl, by rw [hl2]; exact hsl, by omega, hr.kept0⟩
/-- the code of Least and Most -/
def btF (n : Int) (f : List Bool) (keep : BitVec 32) : Int := if truthF n f ≠ 0 then truthF n f else if fitB n.toNat keep then 0 else 4
theorem btF_zero {n : Int} {f : List Bool} {keep : BitVec 32} (h : btF n f keep = 0) : truthF n f = 0 ∧ fitB n.toNat keep = true := by
  unfold btF at h
  split at h
  · rename_i h1; exact absurd h h1
  · rename_i h1
    split at h
    · rename_i h2; exact ⟨by simpa using h1, h2⟩
    · exact absurd h (by decide)
theorem btF_ok {n : Int} {f : List Bool} {keep : BitVec 32} (h1 : truthF n f = 0) (h2 : fitB n.toNat keep = true) : btF n f keep = 0 := by
  unfold btF
  rw [if_neg (by simp [h1]), if_pos h2]
theorem btF_no {n : Int} {f : List Bool} {keep : BitVec 32} (h : btF n f keep ≠ 0) : (truthF n f ≠ 0 ∧ btF n f keep = truthF n f) ∨ (truthF n f = 0 ∧ fitB n.toNat keep = false ∧ btF n f keep = 4) := by
  by_cases h1 : truthF n f = 0
  · right
    cases h2 : fitB n.toNat keep
    · exact ⟨h1, rfl, by unfold btF; rw [if_neg (by simp [h1]), h2]; rfl⟩
    · exact absurd (btF_ok h1 h2) h
  · exact .inl ⟨h1, by unfold btF; rw [if_pos h1]⟩
theorem leastX_ok (n : Int) (A : Option Addr) (len c : Nat) (f : List Bool) (keep : BitVec 32) (w : World) (hl : len ≤ maxLen) (hf : SlB w A len f) (hc : btF n f keep = 0) :
    Calls Try.prog 20 #[.int .i64 n, .slice A len c, .int .u32 (W keep)] w (RetBE w (leastL n.toNat f keep)) := by
  obtain ⟨hc, hfit⟩ := btF_zero hc
  have hz := truthF_zero hc
  obtain ⟨n, rfl⟩ := Int.eq_ofNat_of_zero_le hz.1
  rw [Int.toNat_natCast] at hz hfit ⊢
  have hlen : len = 2 ^ n := hf.2.symm.trans hz.2.2
  have hn4 : n ≤ 4 := by omega
  have HC := Lib.hid hc
  have HL := Lib.hid hlen
  clear hc hz hlen
  go_enter Try.func20, Try.ntmps20
  go_wp2_with fail
  refine (truthCheck_any _ _ _ _ f _ hl hf).mono ?_
  rintro e w1 ⟨rfl, rfl⟩
  rw [HC.out]
  go_wp2_with fail
  refine (least_any n hn4 _ _ _ f keep _ hf HL.out).mono ?_
  rintro e w2 ⟨A1, c1, rfl, hs, hcap, k1⟩
  go_wp2_with fail
  go_ret2
  exact ⟨A1, c1, rfl, hs, hcap, k1⟩
theorem leastX_no (n : Int) (A : Option Addr) (len c : Nat) (f : List Bool) (keep : BitVec 32) (w : World) (hl : len ≤ maxLen) (hf : SlB w A len f) (hc : btF n f keep ≠ 0) :
    Calls Try.prog 20 #[.int .i64 n, .slice A len c, .int .u32 (W keep)] w fun e w' => e = .returned (.tuple #[.slice none 0 0, .int .i64 (btF n f keep)]) ∧ w = w' := by
  rcases btF_no hc with ⟨h1, h2⟩ | ⟨h1, h2, h3⟩
  · have hne : (truthF n f != 0) = true := by simpa using h1
    have HB := Lib.hid h2
    clear hc h1 h2
    go_enter Try.func20, Try.ntmps20
    go_wp2_with fail
    refine (truthCheck_any _ _ _ _ f _ hl hf).mono ?_
    rintro e w1 ⟨rfl, rfl⟩
    go_wp2_with fail
    go_ret2
    exact ⟨by rw [HB.out]; rfl, rfl⟩
  · have hz := truthF_zero h1
    obtain ⟨n, rfl⟩ := Int.eq_ofNat_of_zero_le hz.1
    rw [Int.toNat_natCast] at h2
    have hn4 : n ≤ 4 := by omega
    have HC := Lib.hid h1
    have HB := Lib.hid h3
    clear hc h1 h3 hz
    go_enter Try.func20, Try.ntmps20
    go_wp2_with fail
    refine (truthCheck_any _ _ _ _ f _ hl hf).mono ?_
    rintro e w1 ⟨rfl, rfl⟩
    rw [HC.out]
    go_wp2_with fail
    go_ret2
    exact ⟨by rw [HB.out]; rfl, rfl⟩
theorem mostX_ok (n : Int) (A : Option Addr) (len c : Nat) (f : List Bool) (keep : BitVec 32) (w : World) (hl : len ≤ maxLen) (hf : SlB w A len f) (hc : btF n f keep = 0) :
    Calls Try.prog 21 #[.int .i64 n, .slice A len c, .int .u32 (W keep)] w (RetBE w (mostL n.toNat f keep)) := by
  obtain ⟨hc, hfit⟩ := btF_zero hc
  have hz := truthF_zero hc
  obtain ⟨n, rfl⟩ := Int.eq_ofNat_of_zero_le hz.1
  rw [Int.toNat_natCast] at hz hfit ⊢
  have hlen : len = 2 ^ n := hf.2.symm.trans hz.2.2
  have hn4 : n ≤ 4 := by omega
  have hl16 : len ≤ 16 := by rw [hlen]; exact pow_le4 n hn4
  have HC := Lib.hid hc
  have HL := Lib.hid hlen
  have H1 := Lib.hid (show (notL f).length = len by rw [notL_length, hf.2])
  have H2 := Lib.hid (show (leastL n (notL f) keep).length = len by rw [leastL_length, notL_length, hf.2])
  have H3 := Lib.hid (show notL (leastL n (notL f) keep) = mostL n f keep from rfl)
  clear hc hz hlen
  go_enter Try.func21, Try.ntmps21
  go_wp2_with fail
  refine (truthCheck_any _ _ _ _ f _ hl hf).mono ?_
  rintro e w1 ⟨rfl, rfl⟩
  rw [HC.out]
  go_wp2_with fail
  refine (not_any _ _ _ f _ hf (by omega)).mono ?_
  rintro e w2 ⟨A1, c1, rfl, hs, hcap, k1⟩
  rw [H1.out] at hs ⊢
  go_wp2_with fail
  refine (least_any n hn4 _ _ _ (notL f) keep _ hs HL.out).mono ?_
  rintro e w3 ⟨A2, c2, rfl, hs2, hcap2, k2⟩
  rw [H2.out] at hs2 ⊢
  go_wp2_with fail
  refine (not_any _ _ _ (leastL n (notL f) keep) _ hs2 (by omega)).mono ?_
  rintro e w4 ⟨A3, c3, rfl, hs3, hcap3, k3⟩
  rw [H3.out] at hs3 hcap3 ⊢
  go_wp2_with fail
  go_ret2
  exact ⟨A3, c3, rfl, hs3, hcap3, (k1.trans k2).trans k3⟩
theorem mostX_no (n : Int) (A : Option Addr) (len c : Nat) (f : List Bool) (keep : BitVec 32) (w : World) (hl : len ≤ maxLen) (hf : SlB w A len f) (hc : btF n f keep ≠ 0) :
    Calls Try.prog 21 #[.int .i64 n, .slice A len c, .int .u32 (W keep)] w fun e w' => e = .returned (.tuple #[.slice none 0 0, .int .i64 (btF n f keep)]) ∧ w = w' := by
  rcases btF_no hc with ⟨h1, h2⟩ | ⟨h1, h2, h3⟩
  · have hne : (truthF n f != 0) = true := by simpa using h1
    have HB := Lib.hid h2
    clear hc h1 h2
    go_enter Try.func21, Try.ntmps21
    go_wp2_with fail
    refine (truthCheck_any _ _ _ _ f _ hl hf).mono ?_
    rintro e w1 ⟨rfl, rfl⟩
    go_wp2_with fail
    go_ret2
    exact ⟨by rw [HB.out]; rfl, rfl⟩
  · have hz := truthF_zero h1
    obtain ⟨n, rfl⟩ := Int.eq_ofNat_of_zero_le hz.1
    rw [Int.toNat_natCast] at h2
    have hn4 : n ≤ 4 := by omega
    have HC := Lib.hid h1
    have HB := Lib.hid h3
    clear hc h1 h3 hz
    go_enter Try.func21, Try.ntmps21
    go_wp2_with fail
    refine (truthCheck_any _ _ _ _ f _ hl hf).mono ?_
    rintro e w1 ⟨rfl, rfl⟩
    rw [HC.out]
    go_wp2_with fail
    go_ret2
    exact ⟨by rw [HB.out]; rfl, rfl⟩
/-- is a variable told by all others, in the first k? -/
def toldAt (f : List Bool) (v s : Nat) : Bool := !(bat f s && bat f (s ^^^ 2 ^ v))
def toldTo (f : List Bool) (v k : Nat) : Bool := (List.range k).all (toldAt f v)
theorem toldTo_succ (f : List Bool) (v k : Nat) : toldTo f v (k + 1) = (toldTo f v k && toldAt f v k) := all_range _ k
theorem toldTo_no {f : List Bool} {v k m : Nat} (hk : k < m) (h : toldAt f v k = false) : toldTo f v m = false := by
  unfold toldTo
  rw [List.all_eq_false]
  exact ⟨k, List.mem_range.2 hk, by rw [h]; simp⟩
theorem outT_of {i : Int} {n : Int} (h : i < 0 ∨ n ≤ i) : decide (i < 0) = true ∨ (decide (i < 0) = false ∧ decide (n ≤ i) = true) := by
  simp only [decide_eq_true_eq, decide_eq_false_iff_not]
  omega
theorem toldX_no (n : Int) (A : Option Addr) (len c : Nat) (f : List Bool) (v : Int) (w : World) (hl : len ≤ maxLen) (hf : SlB w A len f) (hc : (truthF n f != 0) = true) :
    Calls Try.prog 19 #[.int .i64 n, .slice A len c, .int .i64 v] w fun e w' => e = .returned (.tuple #[.bool false, .int .i64 (truthF n f)]) ∧ w = w' := by
  go_enter Try.func19, Try.ntmps19
  go_wp2_with fail
  refine (truthCheck_any _ _ _ _ f _ hl hf).mono ?_
  rintro e w1 ⟨rfl, rfl⟩
  go_wp2_with fail
  go_ret2
  exact ⟨rfl, rfl⟩
theorem toldX_arg (n : Int) (A : Option Addr) (len c : Nat) (f : List Bool) (v : Int) (w : World) (hl : len ≤ maxLen) (hf : SlB w A len f) (hc : truthF n f = 0) (hv : v < 0 ∨ n ≤ v) :
    Calls Try.prog 19 #[.int .i64 n, .slice A len c, .int .i64 v] w fun e w' => e = .returned (.tuple #[.bool false, .int .i64 4]) ∧ w = w' := by
  have HC := Lib.hid hc
  clear hc
  rcases outT_of hv with d1 | ⟨d1, d2⟩
  all_goals
    clear hv
    go_enter Try.func19, Try.ntmps19
    go_wp2_with fail
    refine (truthCheck_any _ _ _ _ f _ hl hf).mono ?_
    rintro e w1 ⟨rfl, rfl⟩
    rw [HC.out]
    go_wp2_with fail
    go_ret2
    exact ⟨rfl, rfl⟩
set_option maxHeartbeats 800000 in
theorem toldX_ok (n : Nat) (A : Option Addr) (len c : Nat) (f : List Bool) (v : Nat) (w : World) (hl : len ≤ maxLen) (hf : SlB w A len f) (hc : truthF n f = 0) (hv : v < n) :
    Calls Try.prog 19 #[.int .i64 n, .slice A len c, .int .i64 v] w fun e w' => e = .returned (.tuple #[.bool (toldTo f v len), .int .i64 0]) ∧ w = w' := by
  have hz := truthF_zero hc
  rw [Int.toNat_natCast] at hz
  have hlen : len = 2 ^ n := hf.2.symm.trans hz.2.2
  have hn4 : n ≤ 4 := by omega
  have hl16 : len ≤ 16 := by rw [hlen]; exact pow_le4 n hn4
  have d1 : decide ((v : Int) < 0) = false := by simp
  have d2 : decide (n ≤ v) = false := by simp; omega
  have HC := Lib.hid hc
  have HL := Lib.hid hlen
  have hp2 : 2 ^ v < len := by rw [hlen]; exact Nat.pow_lt_pow_right (by omega) hv
  have hw := i64_pow v (by omega)
  clear hc hz hlen
  go_enter Try.func19, Try.ntmps19
  go_wp2_with fail
  refine (truthCheck_any _ _ _ _ f _ hl hf).mono ?_
  rintro e w1 ⟨rfl, rfl⟩
  rw [HC.out]
  go_wp2_with fail
  go_loop [26] (fun t => ∃ k : Nat, k ≤ len ∧ t = .int .i64 k ∧ Hid (toldTo f v k = true)) (fun t => len - (intOf t).toNat)
  case atStart => exact ⟨0, Nat.zero_le _, rfl, Lib.hid rfl⟩
  case round =>
    obtain ⟨k, hk, rfl, hall⟩ := hrel
    by_cases hlt : k < len
    · have hxl : k ^^^ 2 ^ v < len := by rw [HL.out]; exact xor_lt (by rw [← HL.out]; exact hlt) hv
      obtain ⟨b, off, rfl, hb, ck⟩ := hf.getN k hlt
      obtain ⟨b2, o2, e2, _, cx⟩ := hf.getN _ hxl
      injection e2 with e2
      injection e2 with e2 e2'
      subst e2 e2'
      have HS := Lib.hid (toldTo_succ f v k)
      have HN := Lib.hid (toldTo_no (f := f) (v := v) hlt)
      have HA := Lib.hid (show toldAt f v k = !(bat f k && bat f (k ^^^ 2 ^ v)) from rfl)
      have hxor := i64_xor k (2 ^ v) (by omega) (by omega)
      generalize bat f (k ^^^ 2 ^ v) = q at cx HA
      generalize hqq : 2 ^ v = qq at hxl hxor cx hw hp2
      generalize hx : k ^^^ qq = x at hxl hxor cx
      clear hqq hx
      have hi1 : (0 : Int) ≤ (x : Int) := by omega
      have hi2 : (x : Int) < (len : Int) := by omega
      generalize bat f k = p at ck HA
      cases p
      · have HV := Lib.hid (show toldAt f v k = true by rw [HA.out]; rfl)
        go_wp2_with fail
        go_round
        case rel => exact ⟨k + 1, by omega, by go_num, Lib.hid (by rw [HS.out, hall.out, HV.out]; rfl)⟩
        case measure => simp [intOf]; omega
      · cases q
        · have HV := Lib.hid (show toldAt f v k = true by rw [HA.out]; rfl)
          go_wp2_with fail
          go_round
          case rel => exact ⟨k + 1, by omega, by go_num, Lib.hid (by rw [HS.out, hall.out, HV.out]; rfl)⟩
          case measure => simp [intOf]; omega
        · have HV := Lib.hid (HN.out (show toldAt f v k = false by rw [HA.out]; rfl))
          go_wp2_with fail
          go_ret2
          exact ⟨by rw [HV.out]; rfl, rfl⟩
    · have HV := Lib.hid (show toldTo f v len = true by have h := hall.out; rwa [show k = len by omega] at h)
      go_wp2_with fail
      go_ret2
      exact ⟨by rw [HV.out]; rfl, rfl⟩
end Go.Proofs.Ytjliabifaohfjaa
