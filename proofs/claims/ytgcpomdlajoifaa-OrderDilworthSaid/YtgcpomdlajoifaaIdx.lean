/- slices.Index over the row of a matching. -/
import Derived.Test.YtgcpomdlajoifaaMatch
namespace Go.Proofs.Ytgcpomdlajoifaa
open Go Go.RowKit
set_option linter.unusedVariables false

theorem laIdx_any (L n c : Nat) (f : Ls) (v : Int) (w : World) (hs : Sl w 1 (some ⟨L, 0, none⟩) n (laV f n)) (hn : n ≤ 1000) :
    Calls Try.prog 48 #[.slice (some ⟨L, 0, none⟩) n c, .int .i64 v] w fun e w' => w = w' ∧ ((∃ j : Nat, j < n ∧ f j = v ∧ e = .returned (.int .i64 (j : Int))) ∨ ((∀ j, j < n → f j ≠ v) ∧ e = .returned (.int .i64 (-1)))) := by
  have HS := Lib.hid hs
  clear hs
  go_enter Try.func48, Try.ntmps48
  go_wp2_with fail
  go_loopw [8] (fun t wr => ∃ q : Nat, q ≤ n ∧ t = .int .i64 (q : Nat) ∧ w = wr ∧ Hid (∀ j, j < q → f j ≠ v)) (fun t _ => n - (intOf t).toNat)
  case atStart => exact ⟨0, Nat.zero_le _, rfl, rfl, Lib.hid fun j h => by omega⟩
  case round =>
    obtain ⟨q, hq, rfl, rfl, HNO⟩ := hrel
    by_cases hlt : q < n
    · have cq : w.cell? ⟨L, q, none⟩ = some (.int .i64 (f q)) := by
        obtain ⟨b, o, e, _, hc⟩ := HS.out.2 (by omega)
        injection e with e
        injection e with ea eb
        subst ea eb
        have := hc q _ (laV_at f hlt)
        rw [Nat.zero_add] at this
        exact this
      have hi1 : (0 : Int) ≤ (q : Int) := by omega
      have hi2 : (q : Int) < (n : Int) := by omega
      have HLT := Lib.hid hlt
      by_cases he : f q = v
      · have HE := Lib.hid he
        rw [he] at cq
        clear hlt he
        go_wp2_with fail
        go_ret
        exact ⟨rfl, .inl ⟨q, HLT.out, HE.out, rfl⟩⟩
      · have HE := Lib.hid he
        have HN2 : Hid (∀ j, j < q + 1 → f j ≠ v) := Lib.hid fun j hj => by
          by_cases e : j = q
          · subst e; exact HE.out
          · exact HNO.out j (by omega)
        generalize f q = y at cq he
        have d : (v == y) = false := by simp; exact fun h => he h.symm
        clear hlt he
        go_wp2_with fail
        go_roundw
        case rel => exact ⟨q + 1, HLT.out, by go_num, trivial, HN2⟩
        case measure => have := HLT.out; simp [intOf]; omega
    · have HN2 : Hid (∀ j, j < n → f j ≠ v) := Lib.hid fun j hj => HNO.out j (by omega)
      go_wp2_with fail
      go_ret
      exact ⟨rfl, .inr ⟨HN2.out, rfl⟩⟩
end Go.Proofs.Ytgcpomdlajoifaa
