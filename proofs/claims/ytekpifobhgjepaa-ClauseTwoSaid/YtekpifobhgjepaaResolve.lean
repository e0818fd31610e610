/- The walk of the statements' Resolve. -/
import Derived.Test.YtekpifobhgjepaaHorn2
import Derived.Test.YtekpifobhgjepaaResolveP
namespace Go.Proofs.Ytekpifobhgjepaa
open Go Go.RowKit
set_option linter.unusedVariables false

def RetR (a b : Ru) (w : World) (e : Ending) (w' : World) : Prop := Kept w w' ∧ ((∃ i, i < 32 ∧ e = .returned (.tuple #[.agg #[.int .u32 (W (resAt a b i).1), .int .u32 (W (resAt a b i).2)], .bool true])) ∨ e = .returned (.tuple #[.agg #[.int .u32 0, .int .u32 0], .bool false]))
set_option maxHeartbeats 1000000 in
theorem refResolve_any (a b : Ru) (w : World) : Calls Try.prog 14 #[.agg #[.int .u32 (W a.1), .int .u32 (W a.2)], .agg #[.int .u32 (W b.1), .int .u32 (W b.2)]] w (RetR a b w) := by
  obtain ⟨p, q⟩ := a
  obtain ⟨p', q'⟩ := b
  have hb3 := boxes3 (Kept.refl (((w.alloc (.cells #[.int .u32 (W p), .int .u32 (W q)] 29)).alloc (.cells #[.int .u32 (W p'), .int .u32 (W q')] 29)).alloc (.cells #[.int .u32 0, .int .u32 0] 29)))
  have a0 := hb3.1.at_ 0 rfl
  have a1 := hb3.1.at_ 1 rfl
  have b0 := hb3.2.1.at_ 0 rfl
  have b1 := hb3.2.1.at_ 1 rfl
  have r0 := hb3.2.2.at_ 0 rfl
  have r1 := hb3.2.2.at_ 1 rfl
  go_enter Try.func14, Try.ntmps14
  go_wp2_with fail
  go_loop [6] (fun t => ∃ k : Nat, k ≤ 32 ∧ t = .int .i64 k) (fun t => 32 - (intOf t).toNat)
  case atStart => exact ⟨0, by omega, rfl⟩
  case round =>
    obtain ⟨k, hk, rfl⟩ := hrel
    by_cases hlt : k < 32
    · have hi2 : (k : Int) < 32 := by omega
      cases hp : p.getLsbD k
      · have HP := Lib.hid hp
        go_wp2_with fail
        refine (satBit_any p k hlt _).mono ?_
        rintro e w' ⟨rfl, rfl⟩
        rw [HP.out]
        go_wp2_with fail
        go_round
        case rel => exact ⟨k + 1, by omega, by go_num⟩
        case measure => simp [intOf]; omega
      · have HP := Lib.hid hp
        cases hq : q'.getLsbD k
        · have HQ := Lib.hid hq
          go_wp2_with fail
          refine (satBit_any p k hlt _).mono ?_
          rintro e w' ⟨rfl, rfl⟩
          rw [HP.out]
          go_wp2_with fail
          refine (satBit_any q' k hlt _).mono ?_
          rintro e w' ⟨rfl, rfl⟩
          rw [HQ.out]
          go_wp2_with fail
          go_round
          case rel => exact ⟨k + 1, by omega, by go_num⟩
          case measure => simp [intOf]; omega
        · have HQ := Lib.hid hq
          go_wp2_with fail
          refine (satBit_any p k hlt _).mono ?_
          rintro e w' ⟨rfl, rfl⟩
          rw [HP.out]
          go_wp2_with fail
          refine (satBit_any q' k hlt _).mono ?_
          rintro e w' ⟨rfl, rfl⟩
          rw [HQ.out]
          go_wp2_with fail
          first
            | go_ret2
              exact ⟨(((Kept.refl _).alloc _).alloc _).alloc _, .inl ⟨k, hlt, rfl⟩⟩
            | go_ret
              exact ⟨(((Kept.refl _).alloc _).alloc _).alloc _, .inl ⟨k, hlt, rfl⟩⟩
            | exact bodyPost_ret (v := .tuple #[.agg #[.int .u32 (W (resAt (p, q) (p', q') k).1), .int .u32 (W (resAt (p, q) (p', q') k).2)], .bool true]) (by simp [results, Try.results14, go_sem, resAt]) rfl ⟨(((Kept.refl _).alloc _).alloc _).alloc _, .inl ⟨k, hlt, rfl⟩⟩
            | trace_state
    · go_wp2_with fail
      first
        | go_ret2
          exact ⟨(((Kept.refl _).alloc _).alloc _).alloc _, .inr rfl⟩
        | go_ret
          exact ⟨(((Kept.refl _).alloc _).alloc _).alloc _, .inr rfl⟩
        | exact bodyPost_ret (v := .tuple #[.agg #[.int .u32 0, .int .u32 0], .bool false]) (by simp [results, Try.results14, go_sem, r0, r1]) rfl ⟨(((Kept.refl _).alloc _).alloc _).alloc _, .inr rfl⟩
end Go.Proofs.Ytekpifobhgjepaa
