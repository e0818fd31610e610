/- VeilPick: the walk of the statement. -/
import Derived.Test.YtodkpojmonikiaaVeil2
namespace Go.Proofs.Ytodkpojmonikiaa.veilPickDone
open Go Go.RowKit
set_option linter.unusedVariables false

theorem vl_fit {m : Nat} {rows : List (List Int)} {k : Nat} (hm : m < 32) {x : BitVec 32} (h : x ∈ vlF m rows k (words m)) : fitB m x = true := vlF_sub (words m) [] (fun x => fitB m x = true) (by simp) (fun x hx => (mem_words hm x).1 hx) x h
theorem vl_crowd {m : Nat} {rows : List (List Int)} {k : Nat} {x : BitVec 32} (h : x ∈ vlF m rows k (words m)) : k ≤ crowdN m rows x := vlF_all (words m) [] (by simp) x h
theorem veiled0_any (A : Option Addr) (len c : Nat) (rs : List Rv) (w : World) (hs : SlM w A len rs) :
    Calls Try.prog 31 #[.slice A len c, .int .u32 0] w fun e w' => e = .returned (.bool (veilF rs 0#32 == 0)) ∧ w = w' := veiled_any A len c rs 0#32 w hs
set_option maxHeartbeats 2000000 in
set_option maxRecDepth 100000 in
theorem yes (A : Option Addr) (len cp : Nat) (rs : List Rv) (k : Nat) (i : Int) (w : World) (hl : len ≤ maxLen) (hf : SlM w A len rs) (hc : veilF rs 0#32 = 0) (hk : 1 ≤ k) (hkw : k ≤ 9223372036854775807) :
    Calls Try.prog 10 #[.slice A len cp, .int .i64 k, .int .i64 i] w fun e w' => e = .returned (.bool true) ∧ Kept w w' := by
  have hz := veilF_zero hc
  have hm6 := hz.1.2.2
  have hl8 : len ≤ 8 := by have := hz.1.2.1; rw [hf.len] at this; exact this
  have HRL := Lib.hid hz.2.1
  have HC := Lib.hid hc
  have HZ := Lib.hid (show (0 : Int) = W 0#32 from rfl)
  have HVL := Lib.hid (show (vnums rs).length = len by rw [vnums_len, hf.len])
  have dk : decide ((k : Int) < 1) = false := by simp; omega
  have HOKS := Lib.hid (fun s (h : fitB (wid rs) s = true) => veilF_ok hc h)
  clear hc hz
  go_enter Try.func10, Try.ntmps10
  go_wp2_with fail
  refine (leastX_ok _ _ _ rs k _ hf HC.out hk).mono ?_
  rintro e w1 ⟨k1, ⟨hkl, A1, c1, rfl, hs1, hpos⟩ | ⟨hkl, rfl⟩⟩
  · have hs1' := hs1
    rw [HVL.out] at hkl
    go_wp2_with fail
    refine (veiled0_any _ _ _ rs _ (hf.kept k1)).mono ?_
    rintro e w2 ⟨rfl, rfl⟩
    rw [HC.out]
    have HG := Lib.hid (fun (j : Nat) (h : j < (vlF (wid rs) (vnums rs) k (words (wid rs))).length) => (⟨vl_fit (by omega) (List.getElem_mem h), vl_crowd (List.getElem_mem h)⟩ : fitB (wid rs) (vlF (wid rs) (vnums rs) k (words (wid rs)))[j] = true ∧ k ≤ crowdN (wid rs) (vnums rs) (vlF (wid rs) (vnums rs) k (words (wid rs)))[j]))
    have hlen64 : (vlF (wid rs) (vnums rs) k (words (wid rs))).length ≤ 64 := by
      have h1 := vlF_length (wid rs) (vnums rs) k (words (wid rs)) []
      rw [List.length_nil, Nat.zero_add, words_length] at h1
      exact Nat.le_trans h1 (pow_le _ hm6)
    generalize hL : vlF (wid rs) (vnums rs) k (words (wid rs)) = L at hs1 hpos HG hlen64 hs1'
    have HLH := Lib.hid hL
    have d1 : ((L.length : Int) == 0) = false := by
      rw [beq_eq_false_iff_ne]
      omega
    have d2 : decide (len < k) = false := by simp; omega
    clear hL
    by_cases hi : i < 0 ∨ (len : Int) ≤ i
    · rcases out_of hi with d3 | ⟨d3, d4⟩
      all_goals
        clear hi
        go_wp2_with fail
        go_ret
        exact ⟨rfl, k1⟩
    · obtain ⟨ii, rfl⟩ := Int.eq_ofNat_of_zero_le (show 0 ≤ i by omega)
      have hil : ii < len := by omega
      have d3 : decide ((ii : Int) < 0) = false := by simp
      have d4 : decide (len ≤ ii) = false := by simp; omega
      clear hi
      go_wp2_with fail
      clear d1 d2 d3 d4
      go_loopw [57] (fun t wr => ∃ q : Nat, q ≤ L.length ∧ t = .int .i64 q ∧ Kept w1 wr) (fun t _ => L.length - (intOf t).toNat)
      case atStart => exact ⟨0, Nat.zero_le _, rfl, Kept.refl _⟩
      case round =>
        obtain ⟨q, hq, rfl, hkw⟩ := hrel
        have q1 := k1.trans hkw
        by_cases hlt : q < L.length
        · obtain ⟨b1, o1, hql, rfl, hb1, cq⟩ := (hs1.kept hkw).get q hlt
          have HGQ := Lib.hid (HG.out q hlt)
          obtain ⟨b2, o2, hil2, rfl, hb2, ci, hrow, _⟩ := (hf.kept q1).get ii hil
          have HM := Lib.hid (HRL.out _ (List.getElem_mem hil2))
          have HN := Lib.hid (vnums_at rs ii hil2)
          generalize L[q] = s at cq HGQ
          generalize rs[ii] = r at ci hrow HM HN
          obtain ⟨Ar, lr, cr, xs⟩ := r
          simp only at ci hrow HM HN
          rw [HM.out] at ci hrow
          have HP := Lib.hid (show k ≤ (pickTo (wid rs) (vnums rs) s xs len).length by
            have h := crowdN_mem (m := wid rs) (hid := s) (rows := vnums rs) (i := ii) (by rw [HVL.out]; exact hil)
            rw [HN.out] at h
            unfold pickN at h
            rw [HVL.out] at h
            exact Nat.le_trans HGQ.out.2 h)
          have HHAS := Lib.hid (show hasI (pickTo (wid rs) (vnums rs) s xs len) (ii : Int) = true from hasI_iff.2 (pickTo_mem.2 ⟨hil, by rw [HN.out]; exact alikeTo_iff.2 fun _ _ _ => rfl⟩))
          have hi1 : (0 : Int) ≤ (ii : Int) := by omega
          have hi2 : (ii : Int) < (len : Int) := by omega
          go_wp2_with fail
          refine (pickX_ok _ _ _ rs s _ _ xs _ (hf.kept q1) hrow (HOKS.out s HGQ.out.1)).mono ?_
          rintro e w4 ⟨A4, c4, rfl, hp4, k4⟩
          have hpl := pickTo_len (wid rs) (vnums rs) s xs len
          generalize pickTo (wid rs) (vnums rs) s xs len = P at HP HHAS hp4 hpl ⊢
          have hpk := HP.out
          have d1 : decide (P.length < k) = false := by simp; omega
          go_wp2_with fail
          refine (has_any _ _ _ P _ _ hp4 (by omega)).mono ?_
          rintro e w5 ⟨rfl, rfl⟩
          rw [HHAS.out]
          go_wp2_with fail
          go_roundw
          case rel => exact ⟨q + 1, by omega, by go_num, hkw.trans k4⟩
          case measure => simp [intOf]; omega
        · go_wp2_with fail
          go_ret
          exact ⟨rfl, q1⟩
  · rw [HVL.out] at hkl
    have d2 : decide (len < k) = true := by simp; omega
    go_wp2_with fail
    refine (veiled0_any _ _ _ rs _ (hf.kept k1)).mono ?_
    rintro e w2 ⟨rfl, rfl⟩
    rw [HC.out]
    go_wp2_with fail
    go_ret
    exact ⟨rfl, k1⟩
set_option maxHeartbeats 1000000 in
theorem veilPick_walk (A : Option Addr) (len cp : Nat) (rs : List Rv) (k i : Int) (w : World) (hl : len ≤ maxLen) (hf : SlM w A len rs) (wk : (Lit.int .i64 k).wf = true) (_wi : (Lit.int .i64 i).wf = true) :
    Calls Try.prog 10 #[.slice A len cp, .int .i64 k, .int .i64 i] w fun e w' => e = .returned (.bool true) ∧ Kept w w' := by
  have HZ := Lib.hid (show (0 : Int) = W 0#32 from rfl)
  by_cases hc : veilF rs 0#32 = 0
  · by_cases hk : k < 1
    · have dk : decide (k < 1) = true := by simpa using hk
      have HC := Lib.hid hc
      have HDK := Lib.hid dk
      clear hc hk wk
      go_enter Try.func10, Try.ntmps10
      go_wp2_with fail
      refine (leastX_arg _ _ _ rs k _ hf HC.out HDK.out).mono ?_
      rintro e w1 ⟨rfl, k1⟩
      go_wp2_with fail
      refine (veiled0_any _ _ _ rs _ (hf.kept k1)).mono ?_
      rintro e w2 ⟨rfl, rfl⟩
      rw [HC.out]
      go_wp2_with fail
      go_ret
      exact ⟨rfl, k1⟩
    · obtain ⟨kk, rfl⟩ := Int.eq_ofNat_of_zero_le (show 0 ≤ k by omega)
      have hw : kk ≤ 9223372036854775807 := by
        simp [Lit.wf, IntKind.min, IntKind.max, IntKind.signed, IntKind.bits] at wk
        omega
      exact yes A len cp rs kk i w hl hf hc (by omega) hw
  · have hne : (veilF rs 0#32 != 0) = true := by simpa using hc
    have hnz : (veilF rs 0#32 == 0) = false := by simpa using hc
    clear hc wk
    go_enter Try.func10, Try.ntmps10
    go_wp2_with fail
    refine (leastX_no _ _ _ rs k _ hf hne).mono ?_
    rintro e w1 ⟨rfl, k1⟩
    go_wp2_with fail
    refine (veiled0_any _ _ _ rs _ (hf.kept k1)).mono ?_
    rintro e w2 ⟨rfl, rfl⟩
    go_wp2_with fail
    go_ret
    exact ⟨rfl, k1⟩
end Go.Proofs.Ytodkpojmonikiaa.veilPickDone
