/- The walks of package between: least, not, Least, Most, Told, follows. -/
import Derived.Test.YtjliabifaohfjaaBetweenP
import Derived.Test.YtjliabifaohfjaaSums
import Derived.BigQuiet
namespace Go.Proofs.Ytjliabifaohfjaa
open Go Go.RowKit
set_option linter.unusedVariables false

def rowsB (len : Nat) (g : Nat → Bool) : List Value := ((List.range len).map g).map bv
def setB (g : Nat → Bool) (k : Nat) (b : Bool) : Nat → Bool := fun s => if s = k then b else g s
theorem rowsB_length (len : Nat) (g : Nat → Bool) : (rowsB len g).length = len := by simp [rowsB]
theorem rowsB_at {len s : Nat} (g : Nat → Bool) (h : s < len) : (rowsB len g)[s]? = some (.bool (g s)) := by simp [rowsB, bv, h]
theorem rowsB_set (len : Nat) (g : Nat → Bool) (k : Nat) (b : Bool) : (rowsB len g).set k (.bool b) = rowsB len (setB g k b) := by
  unfold rowsB
  apply List.ext_getElem
  · simp
  · intro i h1 h2
    rw [List.getElem_set]
    simp only [List.getElem_map, List.getElem_range]
    unfold setB bv
    by_cases e : k = i
    · subst e
      simp
    · rw [if_neg e, if_neg (fun h => e h.symm)]
theorem rowsB_congr {len : Nat} {g h : Nat → Bool} (e : ∀ s, s < len → g s = h s) : rowsB len g = rowsB len h := by
  unfold rowsB
  congr 1
  apply List.map_congr_left
  intro s hs
  exact e s (List.mem_range.1 hs)
theorem rowsB_sl {w0 w : World} {B n : Nat} {e : TypeId} {g : Nat → Bool} (h : Row w0 w B e (rowsB n g)) : SlB w (some ⟨B, 0, none⟩) n ((List.range n).map g) := ⟨h.sl n (rowsB_length n g), by simp⟩
theorem mid_two {v k : Nat} (g : Nat → Bool) (h : k.testBit v = false) : midL v g (k + 1) = setB (setB (midL v g k) k (passL v g k)) (k ^^^ 2 ^ v) (passL v g k) ∧ midL v g (k + 1) = setB (setB (midL v g k) (k ^^^ 2 ^ v) (passL v g k)) k (passL v g k) := by
  constructor
  all_goals
    funext s
    rw [midL_next g h]
    unfold setB
    by_cases e1 : s = k
    · simp [e1]
    · by_cases e2 : s = k ^^^ 2 ^ v
      · simp [e2]
      · simp [e1, e2]
set_option maxHeartbeats 1000000 in
theorem least_any (n : Nat) (hn : n ≤ 4) (A : Option Addr) (len c : Nat) (f : List Bool) (keep : BitVec 32) (w : World) (hf : SlB w A len f) (hlen : len = 2 ^ n) :
    Calls Try.prog 38 #[.int .i64 n, .slice A len c, .int .u32 (W keep)] w (RetB w (leastL n f keep)) := by
  have hl16 : len ≤ 16 := by rw [hlen]; exact pow_le4 n hn
  have hlp : 0 < len := by have : 0 < 2 ^ n := Nat.pow_pos (by omega); omega
  have HFL := Lib.hid hf.2
  have HL := Lib.hid hlen
  clear hlen
  go_enter Try.func38, Try.ntmps38
  go_wp2_with fail
  refine (cloneB_any _ _ _ f _ hf (by omega) hlp).mono ?_
  rintro e w1 ⟨v1, rfl, hown⟩
  rw [HFL.out] at hown
  obtain ⟨A1, c1, rfl, _, hcap⟩ := hown.form
  obtain ⟨B, rfl, hrow⟩ := Row.of_own hown hlp
  clear hown
  have e0 : f = (List.range len).map (leastN (bat f) (keepB keep) 0) := by
    apply bat_ext (by rw [HFL.out]; simp)
    intro k hk
    rw [HFL.out] at hk
    rw [bat_map_range _ _ _ hk]
    rfl
  have hrow0 : Row w w1 B 4 (rowsB len (leastN (bat f) (keepB keep) 0)) := by unfold rowsB; rw [← e0]; exact hrow
  clear hrow e0
  go_wp2_with fail
  go_loopw [13] (fun t wr => ∃ i : Nat, i ≤ n ∧ t = .int .i64 i ∧ Row w wr B 4 (rowsB len (leastN (bat f) (keepB keep) i))) (fun t _ => n - (intOf t).toNat)
  case atStart => exact ⟨0, Nat.zero_le _, rfl, hrow0⟩
  case round =>
    obtain ⟨i, hi, rfl, hr⟩ := hrel
    by_cases hlt : i < n
    · have HST := Lib.hid (show leastN (bat f) (keepB keep) (i + 1) = if keep.getLsbD i then leastN (bat f) (keepB keep) i else passL i (leastN (bat f) (keepB keep) i) from rfl)
      cases hkb : keep.getLsbD i
      · have HKB := Lib.hid hkb
        go_wp2_with fail
        clear hkb
        go_loopw [23] (fun t wr => ∃ k : Nat, k ≤ len ∧ t = .int .i64 k ∧ Row w wr B 4 (rowsB len (midL i (leastN (bat f) (keepB keep) i) k))) (fun t _ => len - (intOf t).toNat)
        case atStart => exact ⟨0, Nat.zero_le _, rfl, by rw [midL_zero]; exact hr⟩
        case round =>
          obtain ⟨k, hk, rfl, hr2⟩ := hrel
          by_cases hlt2 : k < len
          · have hbit := bit_i64 (s := k) (i := i)
            have hand : bits .and .i64 ((k >>> i : Nat) : Int) 1 = ((if k.testBit i then 1 else 0 : Nat) : Int) := by
              have h := i64_and (k >>> i) 1 (by have := Nat.shiftRight_le k i; omega) (by omega)
              rw [and1_nat, Nat.testBit_shiftRight, Nat.add_zero] at h
              exact h
            generalize k >>> i = m at hbit hand
            cases hb : k.testBit i
            · have HB := Lib.hid hb
              rw [hb] at hand
              have hxl : k ^^^ 2 ^ i < len := by rw [HL.out]; exact xor_lt (by rw [← HL.out]; exact hlt2) hlt
              have hw := i64_pow i (by omega)
              have hp2 : 2 ^ i < 2 ^ n := Nat.pow_lt_pow_right (by omega) hlt
              rw [← HL.out] at hp2
              have hor := i64_or k (2 ^ i) (by omega) (by omega)
              rw [or_flip hb] at hor
              have HMID := Lib.hid (mid_two (leastN (bat f) (keepB keep) i) hb)
              have HP := Lib.hid (show passL i (leastN (bat f) (keepB keep) i) k = (leastN (bat f) (keepB keep) i k || leastN (bat f) (keepB keep) i (k ^^^ 2 ^ i)) from rfl)
              have c0 := hr2.cell k (rowsB_at _ hlt2)
              have c1 := hr2.cell (k ^^^ 2 ^ i) (rowsB_at _ hxl)
              rw [(midL_at _ hb).1] at c0
              rw [(midL_at _ hb).2] at c1
              have f0 := hr2.free k
              have f1 := hr2.free (k ^^^ 2 ^ i)
              have HSA := Lib.hid (fun (b : Bool) => (hr2.set k (.bool b)).set (k ^^^ 2 ^ i) (.bool b))
              have HSB := Lib.hid (fun (b : Bool) => (hr2.set (k ^^^ 2 ^ i) (.bool b)).set k (.bool b))
              have HCA := Lib.hid (fun (b : Bool) => (by have h := hr2.set k (.bool b); rw [rowsB_set] at h; exact ⟨h.cell (k ^^^ 2 ^ i) (rowsB_at _ hxl), h.free (k ^^^ 2 ^ i)⟩ : (wr.setCell ⟨B, k, none⟩ (.bool b)).cell? ⟨B, k ^^^ 2 ^ i, none⟩ = some (.bool (setB (midL i (leastN (bat f) (keepB keep) i) k) k b (k ^^^ 2 ^ i))) ∧ (wr.setCell ⟨B, k, none⟩ (.bool b)).frozen? ⟨B, k ^^^ 2 ^ i, none⟩ = false))
              have HCB := Lib.hid (fun (b : Bool) => (by have h := hr2.set (k ^^^ 2 ^ i) (.bool b); rw [rowsB_set] at h; exact ⟨h.cell k (rowsB_at _ hlt2), h.free k⟩ : (wr.setCell ⟨B, k ^^^ 2 ^ i, none⟩ (.bool b)).cell? ⟨B, k, none⟩ = some (.bool (setB (midL i (leastN (bat f) (keepB keep) i) k) (k ^^^ 2 ^ i) b k)) ∧ (wr.setCell ⟨B, k ^^^ 2 ^ i, none⟩ (.bool b)).frozen? ⟨B, k, none⟩ = false))
              simp only [rowsB_set] at HSA HSB
              generalize leastN (bat f) (keepB keep) i = g at c0 c1 HP HSA HSB HCA HCB HMID ⊢
              generalize hq : 2 ^ i = q at hxl hw hp2 hor c1 HP HSA HSB HCA HCB HMID f1
              generalize hx : k ^^^ q = x at hxl hor c1 HP HSA HSB HCA HCB HMID f1
              clear hb hq hx hr2
              have hi1 : (0 : Int) ≤ (k : Int) := by omega
              have hi2 : (k : Int) < (len : Int) := by omega
              have hi3 : (0 : Int) ≤ (x : Int) := by omega
              have hi4 : (x : Int) < (len : Int) := by omega
              cases hgk : g k
              · rw [hgk] at c0
                have HV := Lib.hid (show passL i g k = g x by rw [HP.out, hgk]; rfl)
                generalize hgx : g x = y at c1 HV
                have HGX := Lib.hid hgx
                clear hgk hgx
                obtain ⟨s1, s2⟩ := HCA.out y
                obtain ⟨s3, s4⟩ := HCB.out y
                go_wp2_with fail
                go_region
                all_goals
                  go_wp2_with fail
                  go_roundw
                  case rel => exact ⟨k + 1, by omega, by go_num, by first | (rw [HMID.out.1, HV.out]; exact (HSA.out y).drew) | (rw [HMID.out.2, HV.out]; exact (HSB.out y).drew)⟩
                  case measure => simp [intOf]; omega
              · rw [hgk] at c0
                have HV := Lib.hid (show passL i g k = true by rw [HP.out, hgk]; rfl)
                clear hgk
                obtain ⟨s1, s2⟩ := HCA.out true
                obtain ⟨s3, s4⟩ := HCB.out true
                go_wp2_with fail
                go_region
                all_goals
                  go_wp2_with fail
                  go_roundw
                  case rel => exact ⟨k + 1, by omega, by go_num, by first | (rw [HMID.out.1, HV.out]; exact (HSA.out true).drew) | (rw [HMID.out.2, HV.out]; exact (HSB.out true).drew)⟩
                  case measure => simp [intOf]; omega
            · have HB := Lib.hid hb
              rw [hb] at hand
              have HSK := Lib.hid (midL_skip (leastN (bat f) (keepB keep) i) hb)
              go_wp2_with fail
              go_roundw
              case rel => exact ⟨k + 1, by omega, by go_num, by rw [HSK.out]; exact hr2⟩
              case measure => simp [intOf]; omega
          · have HD := Lib.hid (show rowsB len (midL i (leastN (bat f) (keepB keep) i) k) = rowsB len (leastN (bat f) (keepB keep) (i + 1)) by
              refine rowsB_congr fun s hs => ?_
              rw [HST.out, HKB.out, show k = len by omega, midL_done _ hs]
              rfl)
            go_wp2_with fail
            go_roundw
            case rel => exact ⟨i + 1, by omega, by go_num, by rw [← HD.out]; exact hr2⟩
            case measure => simp [intOf]; omega
      · have HKB := Lib.hid hkb
        go_wp2_with fail
        go_roundw
        case rel => exact ⟨i + 1, by omega, by go_num, by rw [HST.out, HKB.out]; exact hr⟩
        case measure => simp [intOf]; omega
    · have HI := Lib.hid (show i = n by omega)
      rw [HI.out] at hr
      have hsl := rowsB_sl hr
      have e : (List.range len).map (leastN (bat f) (keepB keep) n) = leastL n f keep := by unfold leastL; rw [HFL.out]
      rw [e] at hsl
      have HL2 := Lib.hid (show (leastL n f keep).length = len by rw [leastL_length, HFL.out])
      clear e
      go_wp2_with fail
      go_ret
      exact ⟨some ⟨B, 0, none⟩, c1, by rw [HL2.out]; rfl, by rw [HL2.out]; exact hsl, by rw [HL2.out]; exact hcap, hr.kept0⟩
end Go.Proofs.Ytjliabifaohfjaa
