/- The walks of truth.class, Class. -/
import Derived.Test.YtjliabifaohfjaaPost
import Derived.Test.YtjliabifaohfjaaTruth2
import Derived.Test.YtjliabifaohfjaaHold
import Derived.Deep.RegionHeld3
namespace Go.Proofs.Ytjliabifaohfjaa
open Go Go.RowKit
set_option linter.unusedVariables false

set_option maxHeartbeats 1000000 in
theorem equalB_any (A : Option Addr) (n c : Nat) (A2 : Option Addr) (n2 c2 : Nat) (xs ys : List Bool) (w : World) (hx : SlB w A n xs) (hy : SlB w A2 n2 ys) (hn : n ≤ maxLen) (hne : n2 = n) :
    Calls Try.prog 47 #[.slice A n c, .slice A2 n2 c2] w fun e w' => e = .returned (.bool (xs == ys)) ∧ Kept w w' := by
  subst hne
  unfold maxLen at hn
  have HXL := Lib.hid hx.2
  have HYL := Lib.hid hy.2
  have hb : ((n2 : Int) != (n2 : Int)) = false := by simp
  go_enter Try.func47, Try.ntmps47
  go_wp2_with fail
  go_loopw [13] (fun t wr => ∃ k : Nat, k ≤ n2 ∧ t = .int .i64 k ∧ NotYetB xs ys k ∧ Kept w wr) (fun t _ => n2 - (intOf t).toNat)
  case atStart => exact ⟨0, Nat.zero_le _, rfl, fun i hi => absurd hi (by omega), Kept.refl _⟩
  case round =>
    obtain ⟨k, hk, rfl, hny, hkw⟩ := hrel
    have HNY := Lib.hid hny
    clear hny
    by_cases hlt : k < n2
    · obtain ⟨b1, o1, rfl, _, c1'⟩ := (hx.kept hkw).getN k hlt
      obtain ⟨b2, o2, rfl, _, c2'⟩ := (hy.kept hkw).getN k hlt
      have hi1 : (0 : Int) ≤ (k : Int) := by omega
      have hi2 : (k : Int) < (n2 : Int) := by omega
      go_wp2_with fail
      go_quiet (fail)
      cases hbb : bat xs k == bat ys k
      · have HB := Lib.hid hbb
        have hbb2 : (bat xs k != bat ys k) = true := by unfold bne; rw [hbb]; rfl
        go_wp2_with fail
        go_ret
        refine ⟨?_, hkw.drewN nq⟩
        have : (xs == ys) = false := by
          rw [beq_eq_false_iff_ne]
          intro e
          have h2 := HB.out
          rw [e] at h2
          simp at h2
        rw [this]
        rfl
      · have HB := Lib.hid hbb
        have hbb2 : (bat xs k != bat ys k) = false := by unfold bne; rw [hbb]; rfl
        go_wp2_with fail
        go_roundw
        case rel => exact ⟨k + 1, by omega, by go_num, HNY.out.step (by have := HB.out; simpa using this), hkw.drewN nq⟩
        case measure => simp [intOf]; omega
    · have : (xs == ys) = true := by
        rw [beq_iff_eq]
        exact bat_ext (by rw [HXL.out, HYL.out]) fun i hi => HNY.out i (by rw [HXL.out] at hi; omega)
      have HR := Lib.hid this
      clear this
      go_wp2_with fail
      go_ret
      exact ⟨by rw [HR.out]; rfl, hkw⟩

/-! ### what stands in the five bits on the way -/
def monoTo (n : Nat) (f : List Bool) (s i : Nat) : Bool := ((List.range s).all fun s => (List.range n).all fun i => !bat f s || bat f (s ||| 2 ^ i)) && (List.range i).all fun i => !bat f s || bat f (s ||| 2 ^ i)
theorem monoTo_zero (n : Nat) (f : List Bool) : monoTo n f 0 0 = true := rfl
theorem monoTo_step (n : Nat) (f : List Bool) (s i : Nat) : monoTo n f s (i + 1) = (monoTo n f s i && (!bat f s || bat f (s ||| 2 ^ i))) := by
  unfold monoTo
  rw [List.range_succ, List.all_append, ← Bool.and_assoc]
  simp
theorem monoTo_next (n : Nat) (f : List Bool) (s : Nat) : monoTo n f (s + 1) 0 = monoTo n f s n := by
  unfold monoTo
  rw [List.range_succ, List.all_append]
  simp
theorem monoTo_done (n : Nat) (f : List Bool) : monoTo n f f.length 0 = monoB n f := by
  unfold monoTo monoB
  simp
def linTo (n : Nat) (f : List Bool) (s : Nat) : Bool := (List.range s).all fun s => !bat (sumsL n f) s || supp s
theorem linTo_step (n : Nat) (f : List Bool) (s : Nat) : linTo n f (s + 1) = (linTo n f s && (!bat (sumsL n f) s || supp s)) := by
  unfold linTo
  rw [List.range_succ, List.all_append]
  simp
theorem Row.baseC {w w1 w2 : World} {B : Nat} {e : TypeId} {xs : List Value} (h : Row w1 w2 B e xs) (k : Kept w w1) : Row w w2 B e xs := ⟨h.1, Nat.le_trans k.size h.2.1, k.trans h.2.2⟩
theorem supp_i64 : ∀ s : Fin 16, (bits .and .i64 ((s.1 : Nat) : Int) (((s.1 : Nat) : Int) - 1) == 0) = supp s.1 := by decide +kernel
def fiveV (b0 b1 b2 b3 b4 : Bool) : List Value := [.bool b0, .bool b1, .bool b2, .bool b3, .bool b4]
theorem five_at (n : Nat) (f : List Bool) (i : Nat) (h : i < 5) : (fiveV (!bat f 0) (bat f (f.length - 1)) (f == dualL f) (monoB n f) (linB n f))[i]? = some (.bool (classB n f i)) := by
  match i, h with
  | 0, _ => rfl
  | 1, _ => rfl
  | 2, _ => rfl
  | 3, _ => rfl
  | 4, _ => rfl
  | i + 5, h => omega
set_option maxRecDepth 100000 in
set_option maxHeartbeats 8000000 in
theorem class_any (n : Nat) (hn : n ≤ 4) (A : Option Addr) (len c : Nat) (f : List Bool) (w : World) (hf : SlB w A len f) (hlen : len = 2 ^ n) :
    Calls Try.prog 33 #[.int .i64 n, .slice A len c] w fun e w' => e = .returned (.int .u32 (W (classF n f))) ∧ Kept w w' := by
  have hl16 : len ≤ 16 := by rw [hlen]; exact pow_le4 n hn
  have hlp : 0 < len := by have : 0 < 2 ^ n := Nat.pow_pos (by omega); omega
  have HFL := Lib.hid hf.2
  have HL := Lib.hid hlen
  have HP := Lib.hid (fun i hi => show 2 ^ i < len by rw [hlen]; exact Nat.pow_lt_pow_right (by omega) (show i < n from hi))
  have HOR := Lib.hid (fun s i (hs : s < len) (hi : i < n) => show s ||| 2 ^ i < len by rw [hlen] at hs ⊢; exact or_lt2 hs hi)
  obtain ⟨q, hql⟩ : ∃ q, q + 1 = len := ⟨len - 1, by omega⟩
  obtain ⟨b, off, rfl, hb, hc⟩ := hf.open_ hlp
  have hq : (len : Int) - 1 = (q : Int) := by omega
  have hqw : IntKind.i64.wrap (q : Int) = (q : Int) := by rw [IntWalk.i64_left, IntWalk.wrap64_in _ (by omega)]
  have hq1 : (0 : Int) ≤ (q : Int) := by omega
  have hq2 : (q : Int) < (len : Int) := by omega
  have h0l : (0 : Int) < (len : Int) := by omega
  have HSW := Lib.hid (fun w' (k : Kept w w') => show w'.cell? ⟨b, off, none⟩ = some (.bool (bat f 0)) ∧ w'.cell? ⟨b, off + q, none⟩ = some (.bool (bat f q)) ∧ Kept w w' from
    ⟨(k.cell (p := ⟨b, off, none⟩) hb).trans (hc 0 (by omega)), (k.cell (p := ⟨b, off + q, none⟩) hb).trans (hc q (by omega)), k⟩)
  have HF := Lib.hid hf
  have HQL := Lib.hid hql
  clear hlen hc hf hql
  go_enter Try.func33, Try.ntmps33
  go_wp2_with fail
  go_region_held3 (fun w' => w'.cell? ⟨b, off, none⟩ = some (.bool (bat f 0)) ∧ w'.cell? ⟨b, off + q, none⟩ = some (.bool (bat f q)) ∧ Kept w w')
    ((refine HSW.out _ ?_; repeat first | exact Kept.refl _ | exact K4.out | exact K3.out | refine Kept.alloc ?_ _ | refine Kept.drew ?_))
    ((first
      | (go_at_call 30
         refine (dual_any (some ⟨b, off, none⟩) len c f _ (HF.out.kept (by repeat first | exact Kept.refl _ | refine Kept.alloc ?_ _ | refine Kept.drew ?_)) (by omega)).mono ?_
         rintro e w3 ⟨A3, c3, rfl, h3, _, k3⟩
         have K3 := Lib.hid (Kept.trans (show Kept w _ by repeat first | exact Kept.refl _ | refine Kept.alloc ?_ _ | refine Kept.drew ?_) k3)
         have H3 := Lib.hid h3
         clear h3 k3)
      | (go_at_call 47
         refine (equalB_any (some ⟨b, off, none⟩) len c A3 (dualL f).length c3 f (dualL f) _ (HF.out.kept (by first | exact K3.out | exact K3.out.drew)) H3.out (by unfold maxLen; omega) (by rw [dualL_length, HFL.out])).mono ?_
         rintro e w4 ⟨rfl, k4⟩
         have K4 := Lib.hid (K3.out.trans k4)
         clear k4)))
  all_goals
    rename_i hHeld
    clear hHeld
  have HD := Lib.hid (show (f == dualL f) = (f == dualL f) from rfl)
  obtain ⟨b2, hb2⟩ : ∃ b2, (f == dualL f) = b2 := ⟨_, rfl⟩
  rw [hb2]
  have HB2 := Lib.hid hb2
  clear hb2 HD hq hqw
  have HF4 := Lib.hid (HF.out.kept K4.out)
  obtain ⟨B, hB⟩ : ∃ B : Nat, w4.heap.size = B := ⟨_, rfl⟩
  have HR0 := Lib.hid (show Row w (w4.alloc (.cells #[.bool (!bat f 0), .bool (bat f q), .bool b2, .bool true, .bool true] 4)) B 4 (fiveV (!bat f 0) (bat f q) b2 (monoTo n f 0 0) true) from Row.new K4.out 4 (fiveV (!bat f 0) (bat f q) b2 true true) B hB)
  go_wp2_with fail
  rw [hB]
  clear hB
  generalize w4.alloc (.cells #[.bool (!bat f 0), .bool (bat f q), .bool b2, .bool true, .bool true] 4) = w5 at HR0
  have HN := Lib.hid hn
  clear hq1 hq2 h0l
  go_loopw [31] (fun t wr => ∃ k : Nat, k ≤ len ∧ t = .int .i64 k ∧ Row w wr B 4 (fiveV (!bat f 0) (bat f q) b2 (monoTo n f k 0) true)) (fun t _ => len - (intOf t).toNat)
  case atStart => exact ⟨0, Nat.zero_le _, rfl, HR0.out⟩
  case round =>
    clear HR0
    obtain ⟨k, hk, rfl, hr⟩ := hrel
    by_cases hlt : k < len
    · obtain ⟨bk, ok, ek, _, ck⟩ := (HF.out.kept hr.kept0).getN k hlt
      cases ek
      have hi1 : (0 : Int) ≤ (k : Int) := by omega
      have hi2 : (k : Int) < (len : Int) := by omega
      have HNX := Lib.hid (monoTo_next n f k)
      go_wp2_with fail
      go_loopw [37] (fun t wr => ∃ i : Nat, i ≤ n ∧ t = .int .i64 i ∧ Row w wr B 4 (fiveV (!bat f 0) (bat f q) b2 (monoTo n f k i) true)) (fun t _ => n - (intOf t).toNat)
      case atStart => exact ⟨0, Nat.zero_le _, rfl, hr⟩
      case round =>
        clear hr ck
        obtain ⟨i, hi, rfl, hr2⟩ := hrel
        by_cases hlt2 : i < n
        · have c3 := hr2.cell 3 rfl
          have f3 := hr2.free 3
          have HS := Lib.hid (monoTo_step n f k i)
          have HSET := Lib.hid (hr2.set 3 (.bool (monoTo n f k (i + 1))))
          obtain ⟨m, hm⟩ : ∃ m, monoTo n f k i = m := ⟨_, rfl⟩
          rw [hm] at c3 HS HSET
          have hw := i64_pow i (by omega)
          have hor := i64_or k (2 ^ i) (by omega) (by have := HP.out i hlt2; omega)
          have hol := HOR.out k i hlt hlt2
          have hp2 := HP.out i hlt2
          obtain ⟨bo, oo, eo, _, co⟩ := (HF.out.kept hr2.kept0).getN (k ||| 2 ^ i) hol
          cases eo
          have HX := Lib.hid (show bat f (k ||| 2 ^ i) = bat f (k ||| 2 ^ i) from rfl)
          generalize hz : bat f (k ||| 2 ^ i) = z at co HS HX
          generalize hqq : 2 ^ i = p at hw hor hol hp2 co HX
          generalize hx : k ||| p = x at hor hol co HX
          obtain ⟨y, hy⟩ : ∃ y, bat f k = y := ⟨_, rfl⟩
          rw [hy] at HS ⊢
          have hi3 : (0 : Int) ≤ (x : Int) := by omega
          have hi4 : (x : Int) < (len : Int) := by omega
          clear hm hz hqq hx hy HX hi1 hi2
          cases m
          · have HV := Lib.hid (show monoTo n f k (i + 1) = false by rw [HS.out]; rfl)
            go_wp2_with fail
            go_roundw
            case rel => exact ⟨i + 1, by omega, by go_num, by rw [HV.out]; have := HSET.out; rw [HV.out] at this; exact this⟩
            case measure => simp [intOf]; omega
          · cases y
            · have HV := Lib.hid (show monoTo n f k (i + 1) = true by rw [HS.out]; rfl)
              go_wp2_with fail
              go_roundw
              case rel => exact ⟨i + 1, by omega, by go_num, by rw [HV.out]; have := HSET.out; rw [HV.out] at this; exact this⟩
              case measure => simp [intOf]; omega
            · have HV := Lib.hid (show monoTo n f k (i + 1) = z by rw [HS.out]; rfl)
              go_wp2_with fail
              go_roundw
              case rel => exact ⟨i + 1, by omega, by go_num, by rw [HV.out]; have := HSET.out; rw [HV.out] at this; exact this⟩
              case measure => simp [intOf]; omega
        · have HI := Lib.hid (show i = n by omega)
          go_wp2_with fail
          go_roundw
          case rel => exact ⟨k + 1, by omega, by go_num, by rw [HNX.out]; have h := hr2; rw [HI.out] at h; exact h⟩
          case measure => simp [intOf]; omega
    · have HK := Lib.hid (show k = len by omega)
      have HM := Lib.hid (show monoTo n f k 0 = monoB n f by rw [HK.out, ← HFL.out]; exact monoTo_done n f)
      rw [HM.out] at hr
      have HR := Lib.hid hr
      have HSU := Lib.hid (sums_row n hn (some ⟨b, off, none⟩) len c f wr (HF.out.kept hr.kept0) HL.out)
      have HLB := Lib.hid hr.lt
      clear hr
      go_wp2_with fail
      refine HSU.out.mono ?_
      rintro e w6 ⟨B6, c6, rfl, h6, _⟩
      have HR6 := Lib.hid (HR.out.kept h6.kept0)
      have HNE := Lib.hid (show B6 ≠ B by have := h6.2.1; have := HLB.out; omega)
      have HS6 := Lib.hid (h6.baseC HR.out.kept0)
      rw [show (sumsL n f).length = len by rw [sumsL_length, HFL.out]]
      clear h6 HSU HR
      go_wp2_with fail
      go_loopw [64] (fun t wr => ∃ k : Nat, k ≤ len ∧ t = .int .i64 k ∧ Row w wr B 4 (fiveV (!bat f 0) (bat f q) b2 (monoB n f) (linTo n f k)) ∧ Row w wr B6 4 ((sumsL n f).map bv)) (fun t _ => len - (intOf t).toNat)
      case atStart => exact ⟨0, Nat.zero_le _, rfl, HR6.out, HS6.out⟩
      case round =>
        clear HR6 HS6
        obtain ⟨k, hk, rfl, hr, h6⟩ := hrel
        by_cases hlt : k < len
        · have c4 := hr.cell 4 rfl
          have f4 := hr.free 4
          have g0 := h6.cell k (u := .bool (bat (sumsL n f) k)) (by rw [List.getElem?_map, List.getElem?_eq_getElem (by rw [sumsL_length, HFL.out]; exact hlt), bat_eq _ _ (by rw [sumsL_length, HFL.out]; exact hlt)]; rfl)
          have HS := Lib.hid (linTo_step n f k)
          have HSET := Lib.hid (hr.set 4 (.bool (linTo n f (k + 1))))
          have HOT := Lib.hid (h6.other (p := ⟨B, 4, none⟩) (.bool (linTo n f (k + 1))) HNE.out hr.2.1)
          have hsu := supp_i64 ⟨k, by omega⟩
          simp only at hsu
          have hi1 : (0 : Int) ≤ (k : Int) := by omega
          have hi2 : (k : Int) < (len : Int) := by omega
          obtain ⟨m, hm⟩ : ∃ m, linTo n f k = m := ⟨_, rfl⟩
          rw [hm] at c4 HS HSET
          generalize bat (sumsL n f) k = y at g0 HS
          generalize hss : supp k = z at hsu HS
          generalize hbb : bits .and .i64 (k : Int) ((k : Int) - 1) = x at hsu
          clear hm hss hr h6
          cases m
          · have HV := Lib.hid (show linTo n f (k + 1) = false by rw [HS.out]; rfl)
            go_wp2_with fail
            go_roundw
            case rel => exact ⟨k + 1, by omega, by go_num, by have := HSET.out; rw [HV.out] at this ⊢; exact this, by have := HOT.out; rw [HV.out] at this; exact this⟩
            case measure => simp [intOf]; omega
          · cases y
            · have HV := Lib.hid (show linTo n f (k + 1) = true by rw [HS.out]; rfl)
              go_wp2_with fail
              go_roundw
              case rel => exact ⟨k + 1, by omega, by go_num, by have := HSET.out; rw [HV.out] at this ⊢; exact this, by have := HOT.out; rw [HV.out] at this; exact this⟩
              case measure => simp [intOf]; omega
            · have HV := Lib.hid (show linTo n f (k + 1) = z by rw [HS.out]; rfl)
              go_wp2_with fail
              go_roundw
              case rel => exact ⟨k + 1, by omega, by go_num, by have := HSET.out; rw [HV.out] at this ⊢; exact this, by have := HOT.out; rw [HV.out] at this; exact this⟩
              case measure => simp [intOf]; omega
        · have HK2 := Lib.hid (show linTo n f k = linB n f by rw [show k = f.length by rw [HFL.out]; omega]; rfl)
          rw [HK2.out, show q = f.length - 1 by rw [HFL.out, ← HQL.out]; rfl, ← HB2.out] at hr
          have HR := Lib.hid hr
          clear hr h6
          go_wp2_with fail
          go_loop [11, 88] (fun o t => ∃ i : Nat, i ≤ 5 ∧ t = .int .i64 i ∧ o = .int .u32 (W (wordN i (classB n f)))) (fun _ t => 5 - (intOf t).toNat)
          case atStart => exact ⟨0, Nat.zero_le _, rfl, rfl⟩
          case round =>
            obtain ⟨i, hi, rfl, rfl⟩ := hrel
            by_cases hlt3 : i < 5
            · have ci := HR.out.cell i (five_at n f i hlt3)
              have HS := Lib.hid (wordN_succ i (classB n f))
              have hi1 : (0 : Int) ≤ (i : Int) := by omega
              have hi2 : (i : Int) < 5 := by omega
              generalize wordN i (classB n f) = y at HS
              generalize classB n f i = z at ci HS
              cases z
              all_goals
                go_wp2_with fail
                go_round
                case rel => exact ⟨i + 1, by omega, by go_num, by rw [HS.out]; rfl⟩
                case measure => simp [intOf]; omega
            · have HI := Lib.hid (show i = 5 by omega)
              go_wp2_with fail
              go_ret
              exact ⟨by unfold classF; rw [← HI.out]; rfl, HR.out.kept0⟩
theorem classX_ok (n : Int) (A : Option Addr) (len c : Nat) (f : List Bool) (w : World) (hl : len ≤ maxLen) (hf : SlB w A len f) (hc : truthF n f = 0) :
    Calls Try.prog 16 #[.int .i64 n, .slice A len c] w fun e w' => e = .returned (.tuple #[.int .u32 (W (classF n.toNat f)), .int .i64 0]) ∧ Kept w w' := by
  have hz := truthF_zero hc
  obtain ⟨n, rfl⟩ := Int.eq_ofNat_of_zero_le hz.1
  rw [Int.toNat_natCast] at hz ⊢
  have hlen : len = 2 ^ n := hf.2.symm.trans hz.2.2
  have hn4 : n ≤ 4 := by omega
  have HC := Lib.hid hc
  have HL := Lib.hid hlen
  clear hc hz hlen
  go_enter Try.func16, Try.ntmps16
  go_wp2_with fail
  refine (truthCheck_any _ _ _ _ f _ hl hf).mono ?_
  rintro e w1 ⟨rfl, rfl⟩
  rw [HC.out]
  go_wp2_with fail
  refine (class_any n hn4 _ _ _ f _ hf HL.out).mono ?_
  rintro e w2 ⟨rfl, k1⟩
  go_wp2_with fail
  go_ret2
  exact ⟨rfl, k1⟩
theorem classX_no (n : Int) (A : Option Addr) (len c : Nat) (f : List Bool) (w : World) (hl : len ≤ maxLen) (hf : SlB w A len f) (hc : (truthF n f != 0) = true) :
    Calls Try.prog 16 #[.int .i64 n, .slice A len c] w fun e w' => e = .returned (.tuple #[.int .u32 0, .int .i64 (truthF n f)]) ∧ Kept w w' := by
  go_enter Try.func16, Try.ntmps16
  go_wp2_with fail
  refine (truthCheck_any _ _ _ _ f _ hl hf).mono ?_
  rintro e w1 ⟨rfl, rfl⟩
  go_wp2_with fail
  go_ret2
  exact ⟨rfl, Kept.refl _⟩
end Go.Proofs.Ytjliabifaohfjaa
