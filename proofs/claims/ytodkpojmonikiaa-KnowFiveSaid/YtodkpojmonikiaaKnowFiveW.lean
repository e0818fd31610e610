/- KnowFive: the walk of the statement. -/
import Derived.Test.YtodkpojmonikiaaKnow2
namespace Go.Proofs.Ytodkpojmonikiaa.knowFiveDone
open Go Go.RowKit
set_option linter.unusedVariables false

set_option maxHeartbeats 2000000 in
set_option maxRecDepth 100000 in
theorem knowFive_walk (n : Int) (A : Option Addr) (len cp : Nat) (rs : List Rv) (i : Int) (a b : BitVec 32) (w : World) (_wn : (Lit.int .i64 n).wf = true) (hl : len ≤ maxLen) (hf : SlM w A len rs) (_wi : (Lit.int .i64 i).wf = true) :
    Calls Try.prog 4 #[.int .i64 n, .slice A len cp, .int .i64 i, .int .u32 (W a), .int .u32 (W b)] w fun e w' => e = .returned (.bool true) ∧ Kept w w' := by
  by_cases hc : knowF n rs a = 0
  · by_cases hi : i < 0 ∨ (len : Int) ≤ i
    · have HC := Lib.hid hc
      clear hc
      rcases out_of hi with d1 | ⟨d1, d2⟩
      all_goals
        have HI := Lib.hid hi
        clear hi
        go_enter Try.func4, Try.ntmps4
        go_wp2_with fail
        refine (knowsX_arg n _ _ _ rs i a _ hf HC.out HI.out).mono ?_
        rintro e w1 ⟨rfl, k1⟩
        go_wp2_with fail
        refine (known_any n _ _ _ rs a _ (hf.kept k1)).mono ?_
        rintro e w2 ⟨rfl, rfl⟩
        rw [HC.out]
        go_wp2_with fail
        go_ret
        exact ⟨rfl, k1⟩
    · have hz := knowF_zero hc
      obtain ⟨nn, rfl⟩ := Int.eq_ofNat_of_zero_le (show 0 ≤ n by omega)
      obtain ⟨ii, rfl⟩ := Int.eq_ofNat_of_zero_le (show 0 ≤ i by omega)
      have hii : ii < len := by omega
      have hn32 : nn < 32 := by omega
      have hn32' : nn ≤ 32 := by omega
      have d1 : decide ((ii : Int) < 0) = false := by simp
      have d2 : decide ((len : Int) ≤ (ii : Int)) = false := by simp; omega
      have HC := Lib.hid hc
      have H1 := Lib.hid (fun ev2 (h : fitB nn ev2 = true) => knowF_ok (ev2 := ev2) hc (by rw [Int.toNat_natCast]; exact h))
      have HX := Lib.hid (H1.out _ (knW_fit (c := rowAt rs ii) (ev := a) hn32'))
      have HNX := Lib.hid (H1.out _ (not_fit (knW nn (rowAt rs ii) a) hn32))
      have HT := Lib.hid (H1.out _ (full_fit hn32))
      have E1 := Lib.hid (knW_idem (n := nn) (c := rowAt rs ii) (ev := a) hn32')
      have E2 := Lib.hid (knW_not (n := nn) (c := rowAt rs ii) (ev := a) hn32)
      have E3 := Lib.hid (knW_all (n := nn) (c := rowAt rs ii) hn32)
      have E4 := Lib.hid (knW_and (n := nn) (c := rowAt rs ii) (a := a) (b := b) hn32')
      have E5 := Lib.hid (knW_sub (n := nn) (c := rowAt rs ii) (ev := a) hn32')
      have HAB := Lib.hid (H1.out (a &&& b) (fitB_sub (subB_iff.2 fun i hi => by rw [BitVec.getLsbD_and, Bool.and_eq_true] at hi; exact hi.1) (by have := hz.2.2; rwa [Int.toNat_natCast] at this)))
      clear hc hi hz
      go_enter Try.func4, Try.ntmps4
      go_wp2_with fail
      refine (knowsX_ok nn _ _ _ rs ii a _ hf HC.out hii).mono ?_
      rintro e w1 ⟨rfl, k1⟩
      go_wp2_with fail
      refine (known_any nn _ _ _ rs a _ (hf.kept k1)).mono ?_
      rintro e w2 ⟨rfl, rfl⟩
      rw [HC.out]
      go_wp2_with fail
      refine (knowsX_ok nn _ _ _ rs ii _ _ (hf.kept k1) HX.out hii).mono ?_
      rintro e w3 ⟨rfl, k3⟩
      rw [E1.out]
      have q3 := k1.trans k3
      go_wp2_with fail
      refine (knowsX_ok nn _ _ _ rs ii _ _ (hf.kept q3) HNX.out hii).mono ?_
      rintro e w4 ⟨rfl, k4⟩
      rw [E2.out]
      have q4 := q3.trans k4
      go_wp2_with fail
      refine (knowsX_ok nn _ _ _ rs ii _ _ (hf.kept q4) HT.out hii).mono ?_
      rintro e w5 ⟨rfl, k5⟩
      rw [E3.out]
      have q5 := q4.trans k5
      clear k1 k3 k4 k5 q3 q4
      have n1 : ∀ x : BitVec 32, (x != x) = false := fun x => by simp
      have N1 := n1 (knW nn (rowAt rs ii) a)
      have N2 := n1 ((1#32 <<< nn - 1#32) &&& ~~~(knW nn (rowAt rs ii) a))
      have N3 := n1 (1#32 <<< nn - 1#32)
      clear n1
      go_wp2_with fail
      refine (in_is _ _ true E5.out _).mono ?_
      rintro e w6 ⟨rfl, rfl⟩
      go_wp2_with fail
      refine (known_any nn _ _ _ rs b _ (hf.kept q5)).mono ?_
      rintro e w7 ⟨rfl, rfl⟩
      clear N1 N2 N3 d1 d2
      by_cases hb : knowF nn rs b = 0
      · have HB := Lib.hid hb
        rw [hb]
        clear hb
        go_wp2_with fail
        refine (knowsX_ok nn _ _ _ rs ii b _ (hf.kept q5) HB.out hii).mono ?_
        rintro e w8 ⟨rfl, k8⟩
        have q8 := q5.trans k8
        go_wp2_with fail
        refine (knowsX_ok nn _ _ _ rs ii (a &&& b) _ (hf.kept q8) HAB.out hii).mono ?_
        rintro e w9 ⟨rfl, k9⟩
        rw [E4.out]
        have q9 := q8.trans k9
        generalize knW nn (rowAt rs ii) a = x
        generalize knW nn (rowAt rs ii) b = y
        have N4 : (x &&& y == x &&& y) = true := by simp
        go_wp2_with fail
        go_ret
        exact ⟨rfl, q9⟩
      · have hbz : (knowF nn rs b == 0) = false := by simpa using hb
        clear hb
        go_wp2_with fail
        go_ret
        exact ⟨rfl, q5⟩
  · have hne : (knowF n rs a != 0) = true := by simpa using hc
    have hnz : (knowF n rs a == 0) = false := by simpa using hc
    have HNE := Lib.hid hne
    clear hc
    go_enter Try.func4, Try.ntmps4
    go_wp2_with fail
    refine (knowsX_no n _ _ _ rs i a _ hf HNE.out).mono ?_
    rintro e w1 ⟨rfl, k1⟩
    go_wp2_with fail
    refine (known_any n _ _ _ rs a _ (hf.kept k1)).mono ?_
    rintro e w2 ⟨rfl, rfl⟩
    go_wp2_with fail
    go_ret
    exact ⟨rfl, k1⟩
end Go.Proofs.Ytodkpojmonikiaa.knowFiveDone
