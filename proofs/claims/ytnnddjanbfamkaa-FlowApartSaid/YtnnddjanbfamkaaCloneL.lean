/- slices.Clone at labels; the statements' Below and Labels. -/
import Derived.Test.YtnnddjanbfamkaaMark2
namespace Go.Proofs.Ytnnddjanbfamkaa
open Go Go.RowKit
set_option linter.unusedVariables false

theorem cloneL_any (A : Option Addr) (n c : Nat) (ls : List Lab) (w : World) (hs : SlLab w A n ls) (hn : n ≤ 1000) :
    Calls Try.prog 47 #[.slice A n c] w fun e w' => ∃ v, e = .returned v ∧ Own w w' 24 2 v n (labCells ls) := by
  have hnil := fun W => Lib.run_eql_slice_nil (P := Try.prog) W 36 24 A n c 0 0 Try.underlying36
  rcases A with _ | ad
  · have h0 : n = 0 := by
      rcases Nat.eq_zero_or_pos n with h | h
      · exact h
      · obtain ⟨b, off, e, _⟩ := hs.1.2 (by omega)
        cases e
    subst h0
    have hx : ls = [] := List.eq_nil_of_length_eq_zero hs.2
    subst hx
    go_enter Try.func47, Try.ntmps47
    go_wp2_with fail
    go_ret
    exact ⟨_, rfl, Own.start (Kept.refl _)⟩
  · have hl := hs.2
    go_enter Try.func47, Try.ntmps47
    go_wp2_with (at_builtin; refine wpList_pushAll rfl _ _ 36 rfl 24 Try.underlying36 info_label rfl (by decide) (by decide) _ _ _ _ (Own.empty (Kept.refl w) 24 2 _ rfl) _ _ _ _ (hs.kept ((Kept.refl w).alloc _)).1 rfl rfl (one_labs _) n (by omega) (by omega) ?_; intro v' w3 hown3)
    go_ret
    refine ⟨_, rfl, ?_⟩
    simpa using hown3
theorem belowIn_any (x y : BitVec 32) (w : World) : Calls Try.prog 25 #[.int .u32 (W x), .int .u32 (W y)] w fun e w' => e = .returned (.bool (subB x y)) ∧ w = w' := by
  go_enter Try.func25, Try.ntmps25
  go_wp2
  go_ret
  exact ⟨rfl, rfl⟩
theorem below_any (l m : Int) (p q : BitVec 32) (w : World) : Calls Try.prog 21 #[.agg #[.int .i64 l, .int .u32 (W p)], .agg #[.int .i64 m, .int .u32 (W q)]] w fun e w' => e = .returned (.bool (leB (l, p) (m, q))) ∧ Kept w w' := by
  have hb := boxes2 (Kept.refl ((w.alloc (.cells #[.int .i64 l, .int .u32 (W p)] 24)).alloc (.cells #[.int .i64 m, .int .u32 (W q)] 24)))
  have a0 := hb.1.at_ 0 rfl
  have a1 := hb.1.at_ 1 rfl
  have b0 := hb.2.at_ 0 rfl
  have b1 := hb.2.at_ 1 rfl
  have HL := Lib.hid (show leB (l, p) (m, q) = (decide (l ≤ m) && subB p q) from rfl)
  clear hb
  cases h : decide (l ≤ m)
  · go_enter Try.func21, Try.ntmps21
    go_wp2_with fail
    go_ret
    exact ⟨by rw [HL.out, h]; rfl, ((Kept.refl _).alloc _).alloc _⟩
  · go_enter Try.func21, Try.ntmps21
    go_wp2_with fail
    refine (belowIn_any p q _).mono ?_
    rintro e w2 ⟨rfl, hw2⟩
    have HK := Lib.hid (show Kept w w2 from hw2 ▸ ((Kept.refl _).alloc _).alloc _)
    clear hw2
    go_wp2_with fail
    go_ret
    exact ⟨by rw [HL.out, h]; rfl, HK.out⟩
end Go.Proofs.Ytnnddjanbfamkaa
