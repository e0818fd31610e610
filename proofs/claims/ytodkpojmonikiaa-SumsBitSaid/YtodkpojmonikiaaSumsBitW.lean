/- SumsBit: the walk of the statement. -/
import Derived.Test.YtodkpojmonikiaaAsk
namespace Go.Proofs.Ytodkpojmonikiaa.sumsBitDone
open Go Go.RowKit
set_option linter.unusedVariables false

theorem bit_is (x : BitVec 32) (i : Nat) (hi : i < 32) (b : Bool) (hb : x.getLsbD i = b) (w : World) : Calls Try.prog 18 #[.int .u32 (W x), .int .i64 i] w fun e w' => e = .returned (.bool b) ∧ w = w' := by
  rw [← hb]
  exact sumsBit_any x i hi w
theorem odd_is (x y : BitVec 32) (b : Bool) (hb : oddB x y = b) (w : World) : Calls Try.prog 26 #[.int .u32 (W x), .int .u32 (W y)] w fun e w' => e = .returned (.bool b) ∧ w = w' := by
  rw [← hb]
  exact odd_any x y w
theorem bad (n : Int) (A : Option Addr) (len c : Nat) (qs : List (BitVec 32)) (a b : BitVec 32) (w : World) (hs : SlW w A len qs) (h : askF n qs 0#32 ≠ 0) :
    Calls Try.prog 6 #[.int .i64 n, .slice A len c, .int .u32 (W a), .int .u32 (W b)] w fun e w' => e = .returned (.bool true) ∧ Kept w w' := by
  have hk := fun w h => asked_any n A len c qs 0#32 w h
  rw [W_zero] at hk
  have h0 : (askF n qs 0#32 != 0) = true := by simpa using h
  have h1 : (askF n qs 0#32 == 0) = false := by simpa using h
  have HH := Lib.hid h
  clear h
  go_enter Try.func6, Try.ntmps6
  go_wp2_with fail
  refine (sumsTold_any n A len c qs _ hs).mono ?_
  rintro e w1 ⟨k1, ⟨_, rfl⟩ | ⟨hz, _⟩⟩
  case inr => exact absurd hz HH.out
  go_wp2_with fail
  refine (hk _ (hs.kept k1)).mono ?_
  rintro e w2 ⟨rfl, rfl⟩
  go_wp2_with fail
  go_ret
  exact ⟨rfl, k1⟩
set_option maxHeartbeats 4000000 in
theorem good (nn : Nat) (A : Option Addr) (len c : Nat) (qs : List (BitVec 32)) (a b : BitVec 32) (w : World) (hs : SlW w A len qs) (h8 : nn ≤ 8) (h : askF nn qs 0#32 = 0) (hok : ∀ q ∈ qs, fitB nn q = true) (hl : len ≤ 12) :
    Calls Try.prog 6 #[.int .i64 nn, .slice A len c, .int .u32 (W a), .int .u32 (W b)] w fun e w' => e = .returned (.bool true) ∧ Kept w w' := by
  have hk := fun w h => asked_any nn A len c qs 0#32 w h
  rw [W_zero, h] at hk
  have HH := Lib.hid h
  have HL := Lib.hid hs.2
  have href := rowsQ_ref (n := nn) h8 hok qs.length (Nat.le_refl _)
  have hft := toldR_fit href
  have HSAME := Lib.hid (fun (hq : ∀ q ∈ qs, oddB a q = oddB b q) k hk => told_same (k := k) href h8 (rowsQ_same hq qs.length (Nat.le_refl _)) hk)
  clear h hok href
  go_enter Try.func6, Try.ntmps6
  go_wp2_with fail
  refine (sumsTold_any nn A len c qs _ hs).mono ?_
  rintro e w1 ⟨k1, ⟨hz, _⟩ | ⟨_, rfl⟩⟩
  case inl => exact absurd HH.out hz
  generalize toldR (rowsQ qs qs.length) = s at hft HSAME
  go_wp2_with fail
  refine (hk _ (hs.kept k1)).mono ?_
  rintro e w2 ⟨rfl, rfl⟩
  go_wp2_with fail
  refine (sumsFits_any nn (by omega) s _).mono ?_
  rintro e w2 ⟨rfl, rfl⟩
  rw [hft]
  go_wp2_with fail
  go_loopw [36] (fun t wr => ∃ q : Nat, q ≤ len ∧ t = .int .i64 q ∧ Kept w wr ∧ Hid (∀ o ∈ qs.take q, oddB a o = oddB b o)) (fun t _ => len - (intOf t).toNat)
  case atStart => exact ⟨0, Nat.zero_le _, rfl, k1, Lib.hid (fun o ho => by simp at ho)⟩
  case round =>
    obtain ⟨q, hq, rfl, kw, hno⟩ := hrel
    by_cases hlt : q < len
    · obtain ⟨b1, off, hk1, rfl, hb, cq⟩ := (hs.kept kw).get q hlt
      have HS := Lib.hid (take_snoc qs q hk1)
      have hi1 : (0 : Int) ≤ (q : Int) := by omega
      have hi2 : (q : Int) < (len : Int) := by omega
      generalize qs[q] = r at cq HS
      obtain ⟨u, hu⟩ : ∃ u, oddB a r = u := ⟨_, rfl⟩
      obtain ⟨v, hv⟩ : ∃ v, oddB b r = v := ⟨_, rfl⟩
      have HU := Lib.hid hu
      have HV := Lib.hid hv
      clear hu hv
      cases u <;> cases v
      case false.true | true.false =>
        go_wp2_with fail
        refine (odd_is a r _ HU.out _).mono ?_
        rintro e w4 ⟨rfl, rfl⟩
        go_wp2_with fail
        refine (odd_is b r _ HV.out _).mono ?_
        rintro e w4 ⟨rfl, rfl⟩
        go_wp2_with fail
        go_ret
        exact ⟨rfl, kw⟩
      case false.false | true.true =>
        go_wp2_with fail
        refine (odd_is a r _ HU.out _).mono ?_
        rintro e w4 ⟨rfl, rfl⟩
        go_wp2_with fail
        refine (odd_is b r _ HV.out _).mono ?_
        rintro e w4 ⟨rfl, rfl⟩
        go_wp2_with fail
        go_roundw
        case rel => exact ⟨q + 1, by omega, by go_num, kw, Lib.hid (by
          intro o ho
          rw [HS.out, List.mem_append, List.mem_singleton] at ho
          rcases ho with ho | rfl
          · exact hno.out o ho
          · rw [HU.out, HV.out])⟩
        case measure => simp [intOf]; omega
    · have HALL := Lib.hid (HSAME.out (by have h := hno.out; rwa [take_all qs q (by rw [HL.out]; omega)] at h))
      go_wp2_with fail
      go_loopw [13] (fun t wr2 => ∃ k : Nat, k ≤ nn ∧ t = .int .i64 k ∧ Kept wr wr2) (fun t _ => nn - (intOf t).toNat)
      case atStart => exact ⟨0, Nat.zero_le _, rfl, Kept.refl _⟩
      case round =>
        obtain ⟨k, hk, rfl, kk⟩ := hrel
        by_cases hlt2 : k < nn
        · have hi3 : (0 : Int) ≤ (k : Int) := by omega
          have hi4 : (k : Int) < (nn : Int) := by omega
          obtain ⟨t, ht⟩ : ∃ t, s.getLsbD k = t := ⟨_, rfl⟩
          obtain ⟨u, hu⟩ : ∃ u, a.getLsbD k = u := ⟨_, rfl⟩
          obtain ⟨v, hv⟩ : ∃ v, b.getLsbD k = v := ⟨_, rfl⟩
          have H0 := Lib.hid ht
          have H1 := Lib.hid hu
          have H2 := Lib.hid hv
          have HN := Lib.hid (show (t && (u != v)) = false by
            cases ht2 : t
            · rfl
            · have := HALL.out k (by rw [ht, ht2])
              rw [hu, hv] at this
              subst this
              simp)
          clear ht hu hv
          cases t
          · go_wp2_with fail
            refine (bit_is s k (by omega) _ H0.out _).mono ?_
            rintro e w4 ⟨rfl, rfl⟩
            go_wp2_with fail
            go_roundw
            case rel => exact ⟨k + 1, by omega, by go_num, kk⟩
            case measure => simp [intOf]; omega
          · cases u <;> cases v
            case false.true | true.false => exact absurd HN.out (by decide)
            case false.false | true.true =>
              go_wp2_with fail
              refine (bit_is s k (by omega) _ H0.out _).mono ?_
              rintro e w4 ⟨rfl, rfl⟩
              go_wp2_with fail
              refine (bit_is a k (by omega) _ H1.out _).mono ?_
              rintro e w4 ⟨rfl, rfl⟩
              go_wp2_with fail
              refine (bit_is b k (by omega) _ H2.out _).mono ?_
              rintro e w4 ⟨rfl, rfl⟩
              go_wp2_with fail
              go_roundw
              case rel => exact ⟨k + 1, by omega, by go_num, kk⟩
              case measure => simp [intOf]; omega
        · go_wp2_with fail
          go_ret
          exact ⟨rfl, kw.trans kk⟩
theorem sumsBit_walk (n : Int) (A : Option Addr) (len c : Nat) (qs : List (BitVec 32)) (a b : BitVec 32) (w : World) (_wn : (Lit.int .i64 n).wf = true) (hl : len ≤ maxLen) (hs : SlW w A len qs) :
    Calls Try.prog 6 #[.int .i64 n, .slice A len c, .int .u32 (W a), .int .u32 (W b)] w fun e w' => e = .returned (.bool true) ∧ Below w.heap.size w w' := by
  suffices h : Calls Try.prog 6 #[.int .i64 n, .slice A len c, .int .u32 (W a), .int .u32 (W b)] w fun e w' => e = .returned (.bool true) ∧ Kept w w' from h.mono fun e w' ⟨h1, h2⟩ => ⟨h1, h2.below⟩
  by_cases h0 : askF n qs 0#32 = 0
  · obtain ⟨nn, rfl, h1, h8, hl2, hok⟩ := askF_zero h0
    exact good nn A len c qs a b w hs h8 h0 hok (by rw [← hs.2]; exact hl2)
  · exact bad n A len c qs a b w hs h0
end Go.Proofs.Ytodkpojmonikiaa.sumsBitDone
