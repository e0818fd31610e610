/- OrderCover: the walk of the statement. -/
import Derived.Test.YtgcpomdlajoifaaCover
import Derived.Test.YtgcpomdlajoifaaWords
namespace Go.Proofs.Ytgcpomdlajoifaa.orderCoverDone
open Go Go.RowKit
set_option linter.unusedVariables false

theorem orderCover_walk (n : Int) (A : Option Addr) (len cp : Nat) (ps : List Pr) (w : World) (_wn : (Lit.int .i64 n).wf = true) (hl : len ≤ maxLen) (hf : SlP w A len ps) :
    Calls Try.prog 5 #[.int .i64 n, .slice A len cp] w fun e w' => e = .returned (.bool true) ∧ Kept w w' := by
  by_cases hc : ordF n ps = 0
  · obtain ⟨⟨hn1, hn6, hlen⟩, hrng, hanti⟩ := ordF_zero hc
    obtain ⟨nn, rfl⟩ := Int.eq_ofNat_of_zero_le (show 0 ≤ n by omega)
    have HC := Lib.hid hc
    have HCC := Lib.hid (cov_ord (by omega) (by omega) (show Anti2 nn ps from hanti))
    have HU := Lib.hid (cov_upL (show Anti2 nn ps from hanti))
    clear hc hrng hanti hlen
    go_enter Try.func5, Try.ntmps5
    go_wp2_with fail
    refine (covers_any nn _ _ _ ps _ hf).mono ?_
    rintro e w1 ⟨k1, ⟨_, A1, c1, rfl, hcv⟩ | ⟨hne, _⟩⟩
    case inr => rw [HC.out] at hne; cases hne
    rw [Int.toNat_natCast] at hcv
    go_wp2_with fail
    refine (table_any nn _ _ _ ps _ (hf.kept k1)).mono ?_
    rintro e w2 ⟨k2, ⟨_, A2, c2, rfl, hup⟩ | ⟨hne, _⟩⟩
    case inr => rw [HC.out] at hne; cases hne
    rw [Int.toNat_natCast] at hup
    have q2 := k1.trans k2
    go_wp2_with fail
    refine (ordered_any nn _ _ _ ps _ (hf.kept q2)).mono ?_
    rintro e w3 ⟨rfl, k3⟩
    rw [HC.out]
    go_wp2_with fail
    refine (table_any nn _ _ _ (covL ps nn) _ ((hcv.kept k2).kept k3)).mono ?_
    rintro e w4 ⟨k4, ⟨_, A4, c4, rfl, hup4⟩ | ⟨hne, _⟩⟩
    case inr => rw [HCC.out] at hne; cases hne
    rw [Int.toNat_natCast, HU.out] at hup4
    go_wp2_with fail
    refine (words_any _ _ _ _ _ _ (upL nn ps) (upL nn ps) _ ((hup.kept k3).kept k4) hup4 (by unfold maxLen; omega)).mono ?_
    rintro e w5 ⟨rfl, k5⟩
    rw [wordsF_self]
    go_wp2_with fail
    go_ret
    exact ⟨rfl, ((q2.trans k3).trans k4).trans k5⟩
  · have hne : (ordF n ps != 0) = true := by simpa using hc
    have hnz : (ordF n ps == 0) = false := by simpa using hc
    go_enter Try.func5, Try.ntmps5
    go_wp2_with fail
    refine (covers_any n _ _ _ ps _ hf).mono ?_
    rintro e w1 ⟨k1, ⟨h0, _⟩ | ⟨_, rfl⟩⟩
    · exact absurd h0 hc
    go_wp2_with fail
    refine (table_any n _ _ _ ps _ (hf.kept k1)).mono ?_
    rintro e w2 ⟨k2, ⟨h0, _⟩ | ⟨_, rfl⟩⟩
    · exact absurd h0 hc
    clear hc
    go_wp2_with fail
    refine (ordered_any n _ _ _ ps _ (hf.kept (k1.trans k2))).mono ?_
    rintro e w3 ⟨rfl, k3⟩
    go_wp2_with fail
    go_ret
    exact ⟨rfl, (k1.trans k2).trans k3⟩
end Go.Proofs.Ytgcpomdlajoifaa.orderCoverDone
