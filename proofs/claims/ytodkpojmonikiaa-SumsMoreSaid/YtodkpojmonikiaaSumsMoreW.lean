/- SumsMore: the walk of the statement. -/
import Derived.Test.YtodkpojmonikiaaFollows
import Derived.Test.YtodkpojmonikiaaGuard
import Derived.Test.YtodkpojmonikiaaMoreP
import Derived.Test.YtodkpojmonikiaaOpen
namespace Go.Proofs.Ytodkpojmonikiaa.sumsMoreDone
open Go Go.RowKit
set_option linter.unusedVariables false

theorem in_any (x y : BitVec 32) (w : World) : Calls Try.prog 20 #[.int .u32 (W x), .int .u32 (W y)] w fun e w' => e = .returned (.bool (subB x y)) ∧ w = w' := by
  go_enter Try.func20, Try.ntmps20
  go_wp2
  go_ret
  exact ⟨rfl, rfl⟩
theorem in_is (x y : BitVec 32) (hb : subB x y = true) (w : World) : Calls Try.prog 20 #[.int .u32 (W x), .int .u32 (W y)] w fun e w' => e = .returned (.bool true) ∧ w = w' := by
  rw [← hb]
  exact in_any x y w
/-- where the question may not be -/
theorem bad (n : Int) (A : Option Addr) (len c : Nat) (qs : List (BitVec 32)) (q : BitVec 32) (w : World) (hs : SlW w A len qs) (h : askF n qs q ≠ 0) :
    Calls Try.prog 8 #[.int .i64 n, .slice A len c, .int .u32 (W q)] w fun e w' => e = .returned (.bool true) ∧ Kept w w' := by
  have hk := Lib.hid (fun w h => asked_any n A len c qs q w h)
  have hz : (askF n qs q == 0) = false := by simpa using h
  rw [hz] at hk
  have HH := Lib.hid h
  clear h hz
  go_enter Try.func8, Try.ntmps8
  go_wp2_with fail
  refine (sumsTold_any n A len c qs _ hs).mono ?_
  rintro e w1 ⟨k1, ⟨h0, rfl⟩ | ⟨h0, rfl⟩⟩
  · have hne : (askF n qs 0#32 != 0) = true := by simpa using h0
    have H0 := Lib.hid h0
    clear h0
    go_wp2_with fail
    refine (sumsLeft_any n A len c qs _ (hs.kept k1)).mono ?_
    rintro e w2 ⟨k2, ⟨_, rfl⟩ | ⟨h0, _⟩⟩
    case inr => exact absurd h0 H0.out
    have q2 := k1.trans k2
    go_wp2_with fail
    refine (hk.out _ (hs.kept q2)).mono ?_
    rintro e w3 ⟨rfl, rfl⟩
    go_wp2_with fail
    go_ret
    exact ⟨rfl, q2⟩
  · have H0 := Lib.hid h0
    obtain ⟨nn, rfl, h1, h8, hl, hok⟩ := askF_zero h0
    have hfit : fitB nn q = false := by
      cases hb : fitB nn q
      · rfl
      · exfalso
        apply HH.out
        unfold askF
        rw [if_neg (by omega), Int.toNat_natCast, hb]
        have : qs.any (misW nn) = false := by
          rw [List.any_eq_false]
          intro x hx
          unfold misW
          rw [hok x hx]
          decide
        rw [this]
        rfl
    have HF := Lib.hid hfit
    clear h0 hok hfit
    go_wp2_with fail
    refine (sumsLeft_any nn A len c qs _ (hs.kept k1)).mono ?_
    rintro e w2 ⟨k2, ⟨h0, _⟩ | ⟨_, rfl⟩⟩
    case inl => exact absurd H0.out h0
    have q2 := k1.trans k2
    go_wp2_with fail
    refine (hk.out _ (hs.kept q2)).mono ?_
    rintro e w3 ⟨rfl, rfl⟩
    go_wp2_with fail
    refine (sumsFits_any nn (by omega) q _).mono ?_
    rintro e w4 ⟨rfl, rfl⟩
    rw [HF.out]
    go_wp2_with fail
    go_ret
    exact ⟨rfl, q2⟩
set_option maxRecDepth 100000 in
set_option maxHeartbeats 8000000 in
theorem good (nn : Nat) (A : Option Addr) (len c : Nat) (qs : List (BitVec 32)) (q : BitVec 32) (w : World) (hs : SlW w A len qs) (h1 : 1 ≤ nn) (h8 : nn ≤ 8) (h : askF nn qs q = 0) (hok : ∀ q ∈ qs, fitB nn q = true) (hq : fitB nn q = true) (hl : len ≤ 12) :
    Calls Try.prog 8 #[.int .i64 nn, .slice A len c, .int .u32 (W q)] w fun e w' => e = .returned (.bool true) ∧ Kept w w' := by
  have hk := Lib.hid (fun w h => asked_any nn A len c qs q w h)
  rw [h] at hk
  have HL := Lib.hid hs.2
  have H0 := Lib.hid (askF_ok (nn := nn) (qs := qs) h1 h8 (by rw [HL.out]; exact hl) hok)
  have HH := Lib.hid h
  have HS := Lib.hid hs
  have HMZ := Lib.hid (fun h => more_none (qs := qs) (q := q) h)
  have HMS := Lib.hid (fun h => more_some (n := nn) (qs := qs) (q := q) h8 hok hq h)
  have hsn := snoc_fit hok hq
  have HASK := Lib.hid (fun (h : len < 12) => askF_ok (nn := nn) (qs := qs ++ [q]) h1 h8 (by rw [List.length_append, HL.out]; simp; omega) hsn)
  have HASKN := Lib.hid (show ¬ len < 12 → askF nn (qs ++ [q]) 0#32 ≠ 0 from fun h => by unfold askF; rw [if_pos (by rw [List.length_append, HL.out]; simp; omega)]; decide)
  have HFOL := Lib.hid (fun w' h => sumsFol_any nn A len c qs q w' h HH.out)
  have HLM := Lib.hid (show (qs ++ [q]).length = qs.length + 1 by simp)
  have hrl := rowsQ_len qs qs.length
  clear h hok hq hsn hs
  go_enter Try.func8, Try.ntmps8
  go_wp2_with fail
  refine (sumsTold_any nn A len c qs _ HS.out).mono ?_
  rintro e w1 ⟨k1, ⟨h0, _⟩ | ⟨_, rfl⟩⟩
  case inl => exact absurd H0.out h0
  go_wp2_with fail
  refine (sumsLeft_any nn A len c qs _ (HS.out.kept k1)).mono ?_
  rintro e w2 ⟨k2, ⟨h0, _⟩ | ⟨_, rfl⟩⟩
  case inl => exact absurd H0.out h0
  have HK2 := Lib.hid (k1.trans k2)
  clear k1 k2
  go_wp2_with fail
  refine (hk.out _ (HS.out.kept HK2.out)).mono ?_
  rintro e w3 ⟨rfl, rfl⟩
  have HFC := Lib.hid (HFOL.out w2 (HS.out.kept HK2.out))
  -- what the question is
  obtain ⟨tb, htb⟩ : ∃ tb, toldR (rowsQ qs qs.length) = tb := ⟨_, rfl⟩
  obtain ⟨m0, hm0⟩ : ∃ m0, (rowsQ qs qs.length).length = m0 := ⟨_, rfl⟩
  obtain ⟨ta, hta⟩ : ∃ ta, toldR (rowsQ (qs ++ [q]) (qs ++ [q]).length) = ta := ⟨_, rfl⟩
  obtain ⟨m1, hm1⟩ : ∃ m1, (rowsQ (qs ++ [q]) (qs ++ [q]).length).length = m1 := ⟨_, rfl⟩
  rw [htb, hm0]
  have HREL := Lib.hid (show ((lessR (rowsQ qs qs.length) (q, 0#32)).1 = 0#32 → ta = tb ∧ m1 = m0) ∧ ((lessR (rowsQ qs qs.length) (q, 0#32)).1 ≠ 0#32 → subB tb ta = true ∧ m1 = m0 + 1) from
    ⟨fun h => by
      have := HMZ.out h
      rw [← HLM.out] at this
      rw [← hta, ← hm1, ← htb, ← hm0, this]
      exact ⟨rfl, rfl⟩, fun h => by
      obtain ⟨g1, g2⟩ := HMS.out h
      rw [← HLM.out] at g1 g2
      rw [← hta, ← hm1, ← htb, ← hm0]
      exact ⟨g2, g1⟩⟩)
  have HT1 := Lib.hid hta
  have HM1 := Lib.hid hm1
  rw [hm0] at hrl
  have hm12 : m0 ≤ 12 := by have := HL.out; omega
  clear htb hm0 hta hm1
  go_wp2_with fail
  refine HFC.out.mono ?_
  intro e w4 hf
  obtain ⟨A4, n4, c4, code, rfl, k4, hcode⟩ : ∃ A4 n4 c4 code, e = .returned (.tuple #[.slice A4 n4 c4, .int .i64 code]) ∧ Kept w2 w4 ∧ ((code = 0 ∧ ta = tb ∧ m1 = m0) ∨ (code = 5 ∧ n4 = 0 ∧ subB tb ta = true ∧ m1 = m0 + 1)) := by
    obtain ⟨k4, ⟨h0, A4, n4, c4, rfl⟩ | ⟨h0, rfl⟩⟩ := hf
    · exact ⟨A4, n4, c4, 0, rfl, k4, .inl ⟨rfl, HREL.out.1 h0⟩⟩
    · exact ⟨none, 0, 0, 5, rfl, k4, .inr ⟨rfl, rfl, HREL.out.2 h0⟩⟩
  have HK4 := Lib.hid (HK2.out.trans k4)
  have HCODE := Lib.hid hcode
  clear hf hcode k4 HFC HFOL
  have hslg := (HS.out.kept HK4.out).1
  go_wp2_with (at_builtin; first | (refine wpList_pushAll rfl _ _ 40 rfl 23 Try.underlying40 info_u32 rfl (by decide) (by decide) _ _ _ _ (Own.empty (Kept.refl w4) 23 1 _ rfl) _ _ _ _ ((hslg.kept ((Kept.refl w4).alloc _))) rfl rfl (one_words qs) len (by omega) (by omega) ?_; intro v5 w5 hown5; obtain ⟨A5, c5, rfl, hsl5⟩ := hown5.form; have O5 := Lib.hid hown5; clear hown5) | (refine wpList_push rfl _ _ 40 rfl 23 Try.underlying40 info_u32 rfl (by decide) (by decide) _ _ _ _ O5.out #[.int .u32 (W q)] 23 _ 1 1 rfl rfl rfl rfl (one_words [q]) (by omega) ?_; intro v7 w7 hown7 hgr7; obtain ⟨A7, c7, rfl, hsl7⟩ := hown7.form; have O7 := Lib.hid hown7; clear hown7))
  have HK7 := Lib.hid (HK4.out.trans O7.out.kept0)
  have HM7 := Lib.hid (show SlW w7 A7 (len + 1) (qs ++ [q]) from ⟨by simpa [wv] using hsl7.1, by rw [HLM.out, HL.out]⟩)
  clear hsl7 hsl5 hslg
  refine (sumsTold_any nn A7 (len + 1) c7 (qs ++ [q]) _ HM7.out).mono ?_
  rintro e w8 ⟨k8, hres⟩
  by_cases hlt : len < 12
  · have hd : decide ((12 : Int) < ((len + 1 : Nat) : Int)) = false := by simp; omega
    have hd2 : decide (12 < len + 1) = false := by simp; omega
    have hd3 : decide ((12 : Int) < (len : Int) + 1) = false := by simp; omega
    obtain ⟨_, rfl⟩ := hres.resolve_left (fun h => h.1 (HASK.out hlt))
    rw [HT1.out]
    go_wp2_with fail
    refine (sumsLeft_any nn A7 (len + 1) c7 (qs ++ [q]) _ (HM7.out.kept k8)).mono ?_
    rintro e w9 ⟨k9, hres9⟩
    obtain ⟨_, rfl⟩ := hres9.resolve_left (fun h => h.1 (HASK.out hlt))
    rw [HM1.out]
    have HKF := Lib.hid (HK7.out.trans (k8.trans k9))
    clear hlt k8 k9 hres hres9
    rcases HCODE.out with ⟨rfl, e1, e2⟩ | ⟨rfl, rfl, e1, e2⟩
    · subst e1 e2
      go_wp2_with fail
      refine (in_is ta ta (subB_refl ta) _).mono ?_
      rintro e w10 ⟨rfl, rfl⟩
      go_wp2_with fail
      go_ret
      exact ⟨by simp, HKF.out⟩
    · subst e2
      have hw : ((nn : Int) - ((m0 + 1 : Nat) : Int) == (nn : Int) - (m0 : Int) - 1) = true := by rw [beq_iff_eq]; omega
      have hw2 : ((nn : Int) - ((m0 : Int) + 1) == (nn : Int) - (m0 : Int) - 1) = true := by rw [beq_iff_eq]; omega
      go_wp2_with fail
      refine (in_is tb ta e1 _).mono ?_
      rintro e w10 ⟨rfl, rfl⟩
      go_wp2_with fail
      go_ret
      exact ⟨rfl, HKF.out⟩
  · have hd : decide ((12 : Int) < ((len + 1 : Nat) : Int)) = true := by simp; omega
    have hd2 : decide (12 < len + 1) = true := by simp; omega
    have hd3 : decide ((12 : Int) < (len : Int) + 1) = true := by simp; omega
    have HN := Lib.hid (HASKN.out hlt)
    have hne : (askF nn (qs ++ [q]) 0#32 != 0) = true := by simpa using HN.out
    obtain ⟨_, rfl⟩ := hres.resolve_right (fun h => HN.out h.1)
    clear hres hlt
    go_wp2_with fail
    refine (sumsLeft_any nn A7 (len + 1) c7 (qs ++ [q]) _ (HM7.out.kept k8)).mono ?_
    rintro e w9 ⟨k9, hres9⟩
    obtain ⟨_, rfl⟩ := hres9.resolve_right (fun h => HN.out h.1)
    have HKF := Lib.hid (HK7.out.trans (k8.trans k9))
    clear hres9 k8 k9
    go_wp2_with fail
    go_ret
    exact ⟨rfl, HKF.out⟩
theorem sumsMore_walk (n : Int) (A : Option Addr) (len c : Nat) (qs : List (BitVec 32)) (q : BitVec 32) (w : World) (_wn : (Lit.int .i64 n).wf = true) (hl : len ≤ maxLen) (hs : SlW w A len qs) :
    Calls Try.prog 8 #[.int .i64 n, .slice A len c, .int .u32 (W q)] w fun e w' => e = .returned (.bool true) ∧ Below w.heap.size w w' := by
  suffices h : Calls Try.prog 8 #[.int .i64 n, .slice A len c, .int .u32 (W q)] w fun e w' => e = .returned (.bool true) ∧ Kept w w' from h.mono fun e w' ⟨h1, h2⟩ => ⟨h1, h2.below⟩
  by_cases h0 : askF n qs q = 0
  · obtain ⟨nn, rfl, h1, h8, hl12, hok⟩ := askF_zero h0
    have hq : fitB nn q = true := by
      cases hb : fitB nn q
      · unfold askF at h0
        rw [if_neg (by omega), Int.toNat_natCast, hb] at h0
        split at h0 <;> cases h0
      · rfl
    exact good nn A len c qs q w hs h1 h8 h0 hok hq (by rw [← hs.2]; exact hl12)
  · exact bad n A len c qs q w hs h0
end Go.Proofs.Ytodkpojmonikiaa.sumsMoreDone
