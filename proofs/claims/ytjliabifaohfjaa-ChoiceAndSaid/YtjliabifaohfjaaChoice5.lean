/- The walks of choice.tell, wrong, Read; and of Branches. -/
import Derived.Test.YtjliabifaohfjaaChoice4
namespace Go.Proofs.Ytjliabifaohfjaa
open Go Go.RowKit
set_option linter.unusedVariables false
set_option linter.unusedSimpArgs false

theorem and1_natC (m : Nat) : m &&& 1 = if m.testBit 0 then 1 else 0 := by
  rw [Nat.and_one_is_mod, Nat.testBit_zero]
  rcases Nat.mod_two_eq_zero_or_one m with h | h <;> rw [h] <;> simp
set_option maxRecDepth 100000 in
set_option maxHeartbeats 4000000 in
theorem tell_any (n : Nat) (hn : n ≤ 4) (A : Option Addr) (len c : Nat) (l : List Bn) (k s : Nat) (w : World) (hl : SlBn w A len l) (ht : TreeOk n l) (hk : k ≤ len + 1) (hl20 : len ≤ 20) (hs : s ≤ 1000) :
    Calls Try.prog 43 #[.slice A len c, .int .i64 k, .int .i64 s] w fun e w' => e = .returned (.bool (saysF l k s)) ∧ Kept w w' := by
  have HT := Lib.hid ht
  have HL := Lib.hid hl
  have HLEN := Lib.hid hl.2
  clear ht hl
  obtain ⟨r, hr⟩ : ∃ r, saysF l k s = r := ⟨_, rfl⟩
  rw [hr]
  have HR := Lib.hid hr
  clear hr
  go_enter Try.func43, Try.ntmps43
  go_wp2_with fail
  go_loopw [1] (fun t wr => ∃ q : Nat, q ≤ len + 1 ∧ t = .int .i64 q ∧ Kept w wr ∧ Hid (saysF l q s = r)) (fun t _ => (intOf t).toNat)
  case atStart => exact ⟨k, hk, rfl, Kept.refl _, HR⟩
  case round =>
    obtain ⟨q, hq, rfl, hkw, HQ⟩ := hrel
    by_cases h1 : q ≤ 1
    · have HS := Lib.hid (show (q == 1) = r by rw [← HQ.out, saysF_le l s h1])
      have d1 : decide (1 < (q : Int)) = false := by simp; omega
      have d1' : ¬ (1 < q) := by omega
      by_cases h2 : q = 1
      · have g1 : ((q : Int) == 1) = true := by rw [h2]; rfl
        have HV := Lib.hid (show r = true by rw [← HS.out, h2]; rfl)
        clear h1 h2 d1'
        go_wp2_with fail
        go_ret
        exact ⟨by rw [HV.out]; rfl, hkw⟩
      · have g1 : ((q : Int) == 1) = false := by rw [beq_eq_false_iff_ne]; omega
        have HV := Lib.hid (show r = false by rw [← HS.out]; simpa using h2)
        clear h1 h2 d1'
        go_wp2_with fail
        go_ret
        exact ⟨by rw [HV.out]; rfl, hkw⟩
    · obtain ⟨p, rfl⟩ : ∃ p, q = p + 2 := ⟨q - 2, by omega⟩
      have hp : p < len := by omega
      obtain ⟨b, off, rfl, hb, c0, c1, c2⟩ := (HL.out.kept hkw).getN p hp
      have hgo := saysF_go HT.out h1 (by rw [HLEN.out]; omega) s
      rw [Nat.add_sub_cancel] at hgo
      obtain ⟨t1, t2, t3⟩ := HT.out p (by rw [HLEN.out]; exact hp)
      have t2 := t2.1
      have t3 := t3.1
      have HGO := Lib.hid (show (saysF l (if s.testBit (bnAt l p).1 then (bnAt l p).2.2 else (bnAt l p).2.1) s) = r by rw [← HQ.out]; exact hgo.symm)
      generalize bnAt l p = x at c0 c1 c2 t1 t2 t3 HGO
      obtain ⟨v, lo, hi⟩ := x
      have t1 : v < n := t1
      have t2 : lo ≤ p + 1 := t2
      have t3 : hi ≤ p + 1 := t3
      have HGO : Hid (saysF l (if s.testBit v then hi else lo) s = r) := HGO
      simp only at c0 c1 c2
      clear hgo h1
      have hv31 : v ≤ 31 := by omega
      have d1 : decide (1 < ((p + 2 : Nat) : Int)) = true := by simp; omega
      have d2 : ((p + 2 : Nat) : Int) - 2 = (p : Int) := by omega
      have hand : bits .and .i64 ((s >>> v : Nat) : Int) 1 = ((if s.testBit v then 1 else 0 : Nat) : Int) := by
        have hle : s >>> v ≤ s := Nat.shiftRight_le _ _
        have h := i64_and (s >>> v) 1 (by omega) (by omega)
        rw [and1_natC, Nat.testBit_shiftRight, Nat.add_zero] at h
        exact h
      have hshr : (s : Int) / 2 ^ v = ((s >>> v : Nat) : Int) := by
        rw [Nat.shiftRight_eq_div_pow, Int.natCast_ediv, pow_cast]
      have i1 : (0 : Int) ≤ (p : Int) := by omega
      have i2 : (p : Int) < (len : Int) := by omega
      generalize s >>> v = m at hand hshr
      cases hbit : s.testBit v
      · rw [hbit] at hand
        have HB := Lib.hid (show saysF l lo s = r by have := HGO.out; rw [hbit] at this; exact this)
        clear hbit
        go_wp2_with fail
        go_roundw
        case rel => exact ⟨lo, by omega, rfl, hkw.alloc _, HB⟩
        case measure => simp [intOf]; omega
      · rw [hbit] at hand
        have HB := Lib.hid (show saysF l hi s = r by have := HGO.out; rw [hbit] at this; exact this)
        clear hbit
        go_wp2_with fail
        go_roundw
        case rel => exact ⟨hi, by omega, rfl, hkw.alloc _, HB⟩
        case measure => simp [intOf]; omega
/-! ### Read -/
theorem readF_snoc (l : List Bn) (k s : Nat) : (List.range (s + 1)).map (saysF l k) = (List.range s).map (saysF l k) ++ [saysF l k s] := by
  rw [List.range_succ, List.map_append]
  rfl
set_option maxRecDepth 100000 in
set_option maxHeartbeats 4000000 in
/-- a tree that may be -/
theorem wrong_ok (n : Nat) (hn : n ≤ 4) (A : Option Addr) (len c : Nat) (l : List Bn) (k : Nat) (w : World) (hl : SlBn w A len l) (ht : TreeOk n l) (hk : k ≤ len + 1) (hl20 : len ≤ 20) :
    Calls Try.prog 42 #[.int .i64 n, .slice A len c, .int .i64 k] w fun e w' => e = .returned (.int .i64 0) ∧ Kept w w' := by
  have HT := Lib.hid ht
  have HL := Lib.hid hl
  have HLEN := Lib.hid hl.2
  clear ht hl
  go_enter Try.func42, Try.ntmps42
  go_wp2_with fail
  go_loopw [13] (fun t wr => ∃ i : Nat, i ≤ len ∧ t = .int .i64 i ∧ Kept w wr) (fun t _ => len - (intOf t).toNat)
  case atStart => exact ⟨0, Nat.zero_le _, rfl, Kept.refl _⟩
  case round =>
    obtain ⟨i, hi, rfl, hkw⟩ := hrel
    obtain ⟨wo, hwo⟩ : ∃ wo : World, wo = wr := ⟨_, rfl⟩
    subst hwo
    by_cases hlt : i < len
    · obtain ⟨b, off, rfl, hb, c0, c1, c2⟩ := (HL.out.kept hkw).getN i hlt
      obtain ⟨t1, t2, t3⟩ := HT.out i (by rw [HLEN.out]; exact hlt)
      have HGO : Hid (∀ (j q : Nat), j ≤ 1 → (q = if j = 0 then (bnAt l i).2.1 else (bnAt l i).2.2) → q ≤ i + 1 ∧ (1 < q → (bnAt l i).1 < (bnAt l (q - 2)).1)) := Lib.hid (fun j q hj hq => by
        by_cases e : j = 0
        · rw [if_pos e] at hq; subst hq; exact t2
        · rw [if_neg e] at hq; subst hq; exact t3)
      generalize bnAt l i = x at c0 c1 c2 t1 HGO
      obtain ⟨v, lo, hi'⟩ := x
      have t1 : v < n := t1
      have HGO : Hid (∀ (j q : Nat), j ≤ 1 → (q = if j = 0 then lo else hi') → q ≤ i + 1 ∧ (1 < q → v < (bnAt l (q - 2)).1)) := HGO
      simp only at c0 c1 c2
      have d1 : decide ((v : Int) < 0) = false := by simp
      have d2 : decide ((n : Int) ≤ (v : Int)) = false := by simp; omega
      have d2' : decide (n ≤ v) = false := by simp; omega
      have i1 : (0 : Int) ≤ (i : Int) := by omega
      have i2 : (i : Int) < (len : Int) := by omega
      have hkb : Kept wo (wo.alloc (.cells #[.int .i64 v, .int .i64 lo, .int .i64 hi'] 74)) := (Kept.refl _).alloc _
      have bx := Box.new wo #[.int .i64 v, .int .i64 lo, .int .i64 hi'] 74 wo.heap.size rfl
      have x0 := bx.at_ 0 rfl
      have x1 := bx.at_ 1 rfl
      have x2 := bx.at_ 2 rfl
      clear t2 t3
      obtain ⟨w2, hw2⟩ : ∃ w2, (wo.alloc (.cells #[.int .i64 v, .int .i64 lo, .int .i64 hi'] 74)).alloc (.cells #[.int .i64 lo, .int .i64 hi'] 3) = w2 := ⟨_, rfl⟩
      have hk2 : Kept wo w2 := by rw [← hw2]; exact ((Kept.refl _).alloc _).alloc _
      obtain ⟨bx1, bx2⟩ := boxes2 (w := wo) (w1 := w2) (by rw [hw2]; exact Kept.refl _)
      have K2 := Lib.hid (hkw.trans hk2)
      have X1 := Lib.hid bx1
      have X2 := Lib.hid bx2
      have HB2 := Lib.hid (Nat.lt_of_lt_of_le hb hk2.size)
      clear bx bx1 bx2 hkb
      go_wp2_with fail
      clear x0 x1 x2 c0 c1 c2
      go_loopw [33] (fun t wq => ∃ j : Nat, j ≤ 2 ∧ t = .int .i64 j ∧ Kept w2 wq) (fun t _ => 2 - (intOf t).toNat)
      case atStart => exact ⟨0, by omega, rfl, Kept.refl _⟩
      case round =>
        obtain ⟨j, hj, rfl, hkj⟩ := hrel
        by_cases hlt2 : j < 2
        · obtain ⟨q, hq⟩ : ∃ q, q = if j = 0 then lo else hi' := ⟨_, rfl⟩
          obtain ⟨g1, g2⟩ := HGO.out j q (by omega) hq
          have G2 := Lib.hid g2
          have cj : wr.cell? ⟨wo.heap.size + 1, j, none⟩ = some (.int .i64 q) := by
            refine (hkj.cell (p := ⟨wo.heap.size + 1, j, none⟩) X2.out.1).trans ?_
            rw [hq]
            rcases (by omega : j = 0 ∨ j = 1) with rfl | rfl
            · exact X2.out.at_ 0 rfl
            · exact X2.out.at_ 1 rfl
          obtain ⟨X, hX⟩ : ∃ X, wo.heap.size = X := ⟨_, rfl⟩
          have x0 := (hkj.cell (p := ⟨wo.heap.size, 0, none⟩) X1.out.1).trans (X1.out.at_ 0 rfl)
          have j1 : (0 : Int) ≤ (j : Int) := by omega
          have j2 : (j : Int) < 2 := by omega
          have e1 : decide ((q : Int) < 0) = false := by simp
          have e2 : decide ((i : Int) + 1 < (q : Int)) = false := by simp; omega
          have e3 : IntKind.i64.wrap ((i : Int) + 1) = (i : Int) + 1 := by rw [IntKind.wrap_i64]; omega
          have KJ := Lib.hid hkj
          clear hX hq
          by_cases hq1 : 1 < q
          · obtain ⟨p, rfl⟩ : ∃ p, q = p + 2 := ⟨q - 2, by omega⟩
            have hp : p < len := by omega
            have hlt3 := G2.out hq1
            rw [Nat.add_sub_cancel] at hlt3
            obtain ⟨b9, o9, e9, hb9, p0, _, _⟩ := (HL.out.kept (K2.out.trans KJ.out)).getN p hp
            injection e9 with e9
            injection e9 with e9 e9'
            subst e9 e9'
            generalize (bnAt l p).1 = v2 at p0 hlt3
            have e4 : decide (1 < ((p + 2 : Nat) : Int)) = true := by simp; omega
            have e5 : ((p + 2 : Nat) : Int) - 2 = (p : Int) := by omega
            have e6 : decide ((v2 : Int) ≤ (v : Int)) = false := by simp; omega
            have e6' : decide (v2 ≤ v) = false := by simp; omega
            have e7 : IntKind.i64.wrap (p : Int) = (p : Int) := by rw [IntKind.wrap_i64]; omega
            have p1 : (0 : Int) ≤ (p : Int) := by omega
            have p2 : (p : Int) < (len : Int) := by omega
            have hqn : ((p + 2 : Nat) : Int) = (p : Int) + 2 := by omega
            rw [hqn] at cj e1 e2 e4 e5
            clear hqn hq1 G2 hlt3 g1 g2
            go_wp2_with fail
            go_quiet (fail)
            go_wp2_with fail
            go_roundw
            case rel => exact ⟨j + 1, by omega, by go_num, KJ.out.drewN _⟩
            case measure => simp [intOf]; omega
          · have e4 : decide (1 < (q : Int)) = false := by simp; omega
            clear hq1 G2 g1 g2
            go_wp2_with fail
            go_quiet (fail)
            go_wp2_with fail
            go_roundw
            case rel => exact ⟨j + 1, by omega, by go_num, KJ.out.drewN _⟩
            case measure => simp [intOf]; omega
        · go_wp2_with fail
          go_roundw
          case rel => exact ⟨i + 1, by omega, by go_num, K2.out.trans hkj⟩
          case measure => simp [intOf]; omega
    · have d1 : decide ((k : Int) < 0) = false := by simp
      have d2 : decide ((len : Int) + 1 < (k : Int)) = false := by simp; omega
      go_wp2_with fail
      go_ret
      exact ⟨rfl, hkw⟩
end Go.Proofs.Ytjliabifaohfjaa
