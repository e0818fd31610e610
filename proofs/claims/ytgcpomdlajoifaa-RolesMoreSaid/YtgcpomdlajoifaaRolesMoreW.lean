/- RolesMore: the walk of the statement. -/
import Derived.Test.YtgcpomdlajoifaaRoles
namespace Go.Proofs.Ytgcpomdlajoifaa.rolesMoreDone
open Go Go.RowKit
set_option linter.unusedVariables false

set_option maxHeartbeats 2000000 in
set_option maxRecDepth 100000 in
theorem rolesMore_walk (n : Int) (A : Option Addr) (len cp : Nat) (ps : List Pr) (A2 : Option Addr) (len2 cp2 : Nat) (may : List (BitVec 32)) (s t : BitVec 32) (w : World) (_wn : (Lit.int .i64 n).wf = true) (hl : len ≤ maxLen) (hf : SlP w A len ps) (hl2 : len2 ≤ maxLen) (hm : SlW w A2 len2 may) :
    Calls Try.prog 13 #[.int .i64 n, .slice A len cp, .slice A2 len2 cp2, .int .u32 (W s), .int .u32 (W t)] w fun e w' => e = .returned (.bool true) ∧ Kept w w' := by
  by_cases hc : ordF n ps = 0
  · obtain ⟨⟨hn1, hn6, hlen⟩, hrng, hanti⟩ := ordF_zero hc
    obtain ⟨nn, rfl⟩ := Int.eq_ofNat_of_zero_le (show 0 ≤ n by omega)
    have hn32 : nn < 32 := by omega
    have hn32' : nn ≤ 32 := by omega
    have HC := Lib.hid hc
    have hlen2 : len ≤ 20 := by rw [← hf.2]; exact hlen
    clear hc hrng hanti hlen
    by_cases hll : len2 = nn
    · subst hll
      have d1 : ((len2 : Int) != (len2 : Int)) = false := by simp
      have HML := Lib.hid hm.2
      by_cases hst : fitB len2 (s ||| t) = true
      · have hst2 := hst
        rw [fitB_or, Bool.and_eq_true] at hst2
        have R0 : ∀ x, fitB len2 x = true → mayR len2 ps may x = (0, mayF len2 ps may x) := fun x hx => by unfold mayR; rw [if_neg (by rw [HML.out]; simp), hx]; rfl
        have RS := Lib.hid (R0 s hst2.1)
        have RT := Lib.hid (R0 t hst2.2)
        have RU := Lib.hid (show mayR len2 ps may (s ||| t) = (0, mayF len2 ps may s ||| mayF len2 ps may t) by rw [R0 _ hst, mayF_or hn32'])
        have RD := Lib.hid (show mayR len2 ps may (dnW len2 ps s) = (0, mayF len2 ps may s) by rw [R0 _ (dnW_fit hn32'), mayF_dn hn32'])
        have HST := Lib.hid hst
        have HIN := Lib.hid (fun i hi h => mayF_in (ps := ps) (may := may) (s := s) hn32' (i := i) hi h)
        clear hst hst2 R0
        generalize mayF len2 ps may s = a at RS RU RD HIN
        generalize mayF len2 ps may t = b at RT RU
        have d2 : ((a ||| b) != (a ||| b)) = false := by simp
        have d3 : (a == a) = true := by simp
        go_enter Try.func13, Try.ntmps13
        go_wp2_with fail
        refine (mayX_ok len2 _ _ _ ps _ _ _ may s _ hf hm HC.out).mono ?_
        rintro e w1 ⟨rfl, k1⟩
        rw [RS.out]
        go_wp2_with fail
        refine (mayX_ok len2 _ _ _ ps _ _ _ may t _ (hf.kept k1) (hm.kept k1) HC.out).mono ?_
        rintro e w2 ⟨rfl, k2⟩
        rw [RT.out]
        have q2 := k1.trans k2
        go_wp2_with fail
        refine (mayX_ok len2 _ _ _ ps _ _ _ may (s ||| t) _ (hf.kept q2) (hm.kept q2) HC.out).mono ?_
        rintro e w3 ⟨rfl, k3⟩
        rw [RU.out]
        have q3 := q2.trans k3
        clear k1 k2 k3 q2
        go_wp2_with fail
        refine (ordered_any len2 _ _ _ ps _ (hf.kept q3)).mono ?_
        rintro e w4 ⟨rfl, k4⟩
        rw [HC.out]
        have q4 := q3.trans k4
        go_wp2_with fail
        refine (fitsS_any len2 hn32 (s ||| t) _).mono ?_
        rintro e w5 ⟨rfl, rfl⟩
        rw [HST.out]
        go_wp2_with fail
        clear d1 d2 k4 q3
        go_loopw [17] (fun t wr => ∃ i : Nat, i ≤ len2 ∧ t = .int .i64 i ∧ w4 = wr) (fun t _ => len2 - (intOf t).toNat)
        case atStart => exact ⟨0, Nat.zero_le _, rfl, rfl⟩
        case round =>
          obtain ⟨i, hi, rfl, rfl⟩ := hrel
          by_cases hlt : i < len2
          · obtain ⟨b1, o1, rfl, hb1, ci⟩ := (hm.kept q4).getN i hlt
            have hin := HIN.out i hlt
            generalize nth may i = x at ci hin
            have hi1 : (0 : Int) ≤ (i : Int) := by omega
            have hi2 : (i : Int) < (len2 : Int) := by omega
            have qc := kw_cell ci
            cases hbit : s.getLsbD i
            · clear hin
              have HB := Lib.hid hbit
              clear hbit
              go_wp2_with fail
              refine (bitS_is s i (by omega) false HB.out _).mono ?_
              rintro e w6 ⟨rfl, rfl⟩
              go_wp2_with fail
              go_roundw
              case rel => exact ⟨i + 1, by omega, by go_num, trivial⟩
              case measure => simp [intOf]; omega
            · have HIN2 := Lib.hid (hin hbit)
              have HB := Lib.hid hbit
              clear hin hbit
              go_wp2_with fail
              refine (bitS_is s i (by omega) true HB.out _).mono ?_
              rintro e w6 ⟨rfl, rfl⟩
              go_wp2_with fail
              refine (inS_is x a true HIN2.out _).mono ?_
              rintro e w7 ⟨rfl, rfl⟩
              go_wp2_with fail
              go_roundw
              case rel => exact ⟨i + 1, by omega, by go_num, trivial⟩
              case measure => simp [intOf]; omega
          · go_wp2_with fail
            refine (with_any len2 (by omega) _ _ _ ps s _ (hf.kept q4) (by omega)).mono ?_
            rintro e w6 ⟨rfl, k6⟩
            have q6 := q4.trans k6
            go_wp2_with fail
            refine (mayX_ok len2 _ _ _ ps _ _ _ may (dnW len2 ps s) _ (hf.kept q6) (hm.kept q6) HC.out).mono ?_
            rintro e w7 ⟨rfl, k7⟩
            rw [RD.out]
            go_wp2_with fail
            go_ret
            exact ⟨rfl, q6.trans k7⟩
      · rw [Bool.not_eq_true] at hst
        have hst2 := hst
        rw [fitB_or] at hst2
        have R4 : ∀ x, fitB len2 x = false → mayR len2 ps may x = (4, 0#32) := fun x hx => by unfold mayR; rw [if_neg (by rw [HML.out]; simp), hx]; rfl
        have R0 : ∀ x, fitB len2 x = true → mayR len2 ps may x = (0, mayF len2 ps may x) := fun x hx => by unfold mayR; rw [if_neg (by rw [HML.out]; simp), hx]; rfl
        have HST := Lib.hid hst
        have RU := Lib.hid (R4 _ hst)
        have RST : Hid ((∃ x y, mayR len2 ps may s = (4, x) ∧ mayR len2 ps may t = y) ∨ (∃ x, mayR len2 ps may s = (0, x) ∧ mayR len2 ps may t = (4, 0#32))) := by
          refine Lib.hid ?_
          cases hs : fitB len2 s
          · exact .inl ⟨_, _, R4 s hs, rfl⟩
          · rw [hs, Bool.true_and] at hst2
            exact .inr ⟨_, R0 s hs, R4 t hst2⟩
        clear hst hst2 R0 R4
        go_enter Try.func13, Try.ntmps13
        go_wp2_with fail
        refine (mayX_ok len2 _ _ _ ps _ _ _ may s _ hf hm HC.out).mono ?_
        rintro e w1 ⟨rfl, k1⟩
        rcases RST.out with ⟨x, y, hs, ht⟩ | ⟨x, hs, ht⟩
        all_goals
          rw [hs]
          have HT := Lib.hid ht
          clear hs ht RST
          go_wp2_with fail
          refine (mayX_ok len2 _ _ _ ps _ _ _ may t _ (hf.kept k1) (hm.kept k1) HC.out).mono ?_
          rintro e w2 ⟨rfl, k2⟩
          rw [HT.out]
          have q2 := k1.trans k2
          go_wp2_with fail
          refine (mayX_ok len2 _ _ _ ps _ _ _ may (s ||| t) _ (hf.kept q2) (hm.kept q2) HC.out).mono ?_
          rintro e w3 ⟨rfl, k3⟩
          rw [RU.out]
          have q3 := q2.trans k3
          clear k1 k2 k3 q2
          go_wp2_with fail
          refine (ordered_any len2 _ _ _ ps _ (hf.kept q3)).mono ?_
          rintro e w4 ⟨rfl, k4⟩
          rw [HC.out]
          have q4 := q3.trans k4
          go_wp2_with fail
          refine (fitsS_any len2 hn32 (s ||| t) _).mono ?_
          rintro e w5 ⟨rfl, rfl⟩
          rw [HST.out]
          go_wp2_with fail
          go_ret
          exact ⟨rfl, q4⟩
    · have d1 : ((len2 : Int) != (nn : Int)) = true := by rw [bne_iff_ne]; omega
      have R3 : ∀ x, mayR nn ps may x = (3, 0#32) := fun x => by unfold mayR; rw [if_pos (by rw [hm.2]; exact hll)]
      have HR3 := Lib.hid R3
      clear R3 hll
      go_enter Try.func13, Try.ntmps13
      go_wp2_with fail
      refine (mayX_ok nn _ _ _ ps _ _ _ may s _ hf hm HC.out).mono ?_
      rintro e w1 ⟨rfl, k1⟩
      rw [HR3.out]
      go_wp2_with fail
      refine (mayX_ok nn _ _ _ ps _ _ _ may t _ (hf.kept k1) (hm.kept k1) HC.out).mono ?_
      rintro e w2 ⟨rfl, k2⟩
      rw [HR3.out]
      have q2 := k1.trans k2
      go_wp2_with fail
      refine (mayX_ok nn _ _ _ ps _ _ _ may (s ||| t) _ (hf.kept q2) (hm.kept q2) HC.out).mono ?_
      rintro e w3 ⟨rfl, k3⟩
      rw [HR3.out]
      have q3 := q2.trans k3
      clear k1 k2 k3 q2
      go_wp2_with fail
      refine (ordered_any nn _ _ _ ps _ (hf.kept q3)).mono ?_
      rintro e w4 ⟨rfl, k4⟩
      rw [HC.out]
      go_wp2_with fail
      go_ret
      exact ⟨rfl, q3.trans k4⟩
  · have hne : (ordF n ps != 0) = true := by simpa using hc
    have hnz : (ordF n ps == 0) = false := by simpa using hc
    have HNE := Lib.hid hne
    clear hc
    go_enter Try.func13, Try.ntmps13
    go_wp2_with fail
    refine (mayX_no n _ _ _ ps _ _ _ s _ hf HNE.out).mono ?_
    rintro e w1 ⟨rfl, k1⟩
    go_wp2_with fail
    refine (mayX_no n _ _ _ ps _ _ _ t _ (hf.kept k1) HNE.out).mono ?_
    rintro e w2 ⟨rfl, k2⟩
    have q2 := k1.trans k2
    go_wp2_with fail
    refine (mayX_no n _ _ _ ps _ _ _ (s ||| t) _ (hf.kept q2) HNE.out).mono ?_
    rintro e w3 ⟨rfl, k3⟩
    have q3 := q2.trans k3
    clear k1 k2 k3 q2
    go_wp2_with fail
    refine (ordered_any n _ _ _ ps _ (hf.kept q3)).mono ?_
    rintro e w4 ⟨rfl, k4⟩
    go_wp2_with fail
    go_ret
    exact ⟨rfl, q3.trans k4⟩
end Go.Proofs.Ytgcpomdlajoifaa.rolesMoreDone
