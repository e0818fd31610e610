/- The walks of the two Resolves: both resolve on the lowest clash. -/
import Derived.Test.YtekpifobhgjepaaTwRP
import Derived.Test.YtekpifobhgjepaaResolve
namespace Go.Proofs.Ytekpifobhgjepaa
open Go Go.RowKit
set_option linter.unusedVariables false

def resB (a b : Ru) : Ru × Bool := match resO a b with | some c => (c, true) | none => ((0#32, 0#32), false)
theorem resB_none {a b : Ru} (h : resO a b = none) : resB a b = ((0#32, 0#32), false) := by unfold resB; rw [h]
theorem resB_some {a b c : Ru} (h : resO a b = some c) : resB a b = (c, true) := by unfold resB; rw [h]
theorem lowB_at {x : BitVec 32} {k : Nat} (hk : k < 32) (h : x.getLsbD k = true) (hu : ∀ i, i < k → x.getLsbD i = false) : lowB x = some k := by
  unfold lowB
  rw [List.find?_range_eq_some]
  exact ⟨h, List.mem_range.2 hk, fun j hj => by rw [hu j hj]; rfl⟩
theorem lowB_first {x : BitVec 32} {k : Nat} (h : lowB x = some k) : ∀ i, i < k → x.getLsbD i = false := by
  unfold lowB at h
  rw [List.find?_range_eq_some] at h
  intro i hi
  simpa using h.2.2 i hi
theorem resB_at {p q p' q' : BitVec 32} {k : Nat} (hk : k < 32) (hp : p.getLsbD k = true) (hq : q'.getLsbD k = true) (hu : ∀ i, i < k → (p &&& q').getLsbD i = false) : resB (p, q) (p', q') = (resAt (p, q) (p', q') k, true) := by
  apply resB_some
  unfold resO
  rw [lowB_at hk (by rw [BitVec.getLsbD_and, hp, hq]; rfl) hu]
  rfl
theorem resB_off {p q p' q' : BitVec 32} (hu : ∀ i, i < 32 → (p &&& q').getLsbD i = false) : resB (p, q) (p', q') = ((0#32, 0#32), false) := by
  apply resB_none
  unfold resO
  rw [lowB_none.2]
  · rfl
  · apply BitVec.eq_of_getLsbD_eq
    intro i hi
    rw [hu i hi]
    simp
theorem low_bit {x : BitVec 32} {k : Nat} (h : lowB x = some k) : x &&& -x = 1#32 <<< k := by
  have h1 := lowB_some h
  have h2 := lowB_first h
  apply BitVec.eq_of_getLsbD_eq
  intro i hi
  rw [BitVec.getLsbD_and, BitVec.getLsbD_neg, getLsbD_bit]
  by_cases e : k = i
  · subst e
    have hn : ¬ ∃ j, j < k ∧ x.getLsbD j = true := fun ⟨j, hj, hx⟩ => by rw [h2 j hj] at hx; cases hx
    simp [h1.2, hn, hi]
  · rcases Nat.lt_or_gt_of_ne e with hlt | hgt
    · have hex : ∃ j, j < i ∧ x.getLsbD j = true := ⟨k, hlt, h1.2⟩
      cases hx : x.getLsbD i <;> simp [hex, e, hi]
    · rw [h2 i hgt]
      simp [e]
@[go_sem] theorem W_neg (x : BitVec 32) : IntKind.u32.wrap (-(W x)) = W (-x) := by
  have h := W_sub 0#32 x
  rw [W_zero] at h
  simpa using h
/-- the value of a clause -/
def ruV (c : Ru) : Value := .agg #[.int .u32 (W c.1), .int .u32 (W c.2)]
def RetX (a b : Ru) (w : World) (e : Ending) (w' : World) : Prop := Kept w w' ∧ e = .returned (.tuple #[.agg #[.int .u32 (W (resB a b).1.1), .int .u32 (W (resB a b).1.2)], .bool (resB a b).2])
set_option maxHeartbeats 1000000 in
theorem refRes_any (a b : Ru) (w : World) : Calls Try.prog 14 #[.agg #[.int .u32 (W a.1), .int .u32 (W a.2)], .agg #[.int .u32 (W b.1), .int .u32 (W b.2)]] w (RetX a b w) := by
  obtain ⟨p, q⟩ := a
  obtain ⟨p', q'⟩ := b
  have hb3 := boxes3 (Kept.refl (((w.alloc (.cells #[.int .u32 (W p), .int .u32 (W q)] 29)).alloc (.cells #[.int .u32 (W p'), .int .u32 (W q')] 29)).alloc (.cells #[.int .u32 0, .int .u32 0] 29)))
  have a0 := hb3.1.at_ 0 rfl
  have a1 := hb3.1.at_ 1 rfl
  have b0 := hb3.2.1.at_ 0 rfl
  have b1 := hb3.2.1.at_ 1 rfl
  have r0 := hb3.2.2.at_ 0 rfl
  have r1 := hb3.2.2.at_ 1 rfl
  go_enter Try.func14, Try.ntmps14
  go_wp2_with fail
  go_loop [6] (fun t => ∃ k : Nat, (k ≤ 32 ∧ ∀ i, i < k → (p &&& q').getLsbD i = false) ∧ t = .int .i64 k) (fun t => 32 - (intOf t).toNat)
  case atStart => exact ⟨0, ⟨by omega, fun i hi => by omega⟩, rfl⟩
  case round =>
    obtain ⟨k, ⟨hk, hlow⟩, rfl⟩ := hrel
    have HLOW := Lib.hid hlow
    clear hlow
    by_cases hlt : k < 32
    · have hi2 : (k : Int) < 32 := by omega
      cases hp : p.getLsbD k
      · have HP := Lib.hid hp
        go_wp2_with fail
        refine (satBit_any p k hlt _).mono ?_
        rintro e w' ⟨rfl, rfl⟩
        rw [HP.out]
        go_wp2_with fail
        go_round
        case rel =>
          refine ⟨k + 1, ⟨by omega, fun i hi => ?_⟩, by go_num⟩
          rcases Nat.lt_succ_iff_lt_or_eq.1 hi with h | rfl
          · exact HLOW.out i h
          · rw [BitVec.getLsbD_and, HP.out]; rfl
        case measure => simp [intOf]; omega
      · have HP := Lib.hid hp
        cases hq : q'.getLsbD k
        · have HQ := Lib.hid hq
          go_wp2_with fail
          refine (satBit_any p k hlt _).mono ?_
          rintro e w' ⟨rfl, rfl⟩
          rw [HP.out]
          go_wp2_with fail
          refine (satBit_any q' k hlt _).mono ?_
          rintro e w' ⟨rfl, rfl⟩
          rw [HQ.out]
          go_wp2_with fail
          go_round
          case rel =>
            refine ⟨k + 1, ⟨by omega, fun i hi => ?_⟩, by go_num⟩
            rcases Nat.lt_succ_iff_lt_or_eq.1 hi with h | rfl
            · exact HLOW.out i h
            · rw [BitVec.getLsbD_and, HQ.out]; simp
          case measure => simp [intOf]; omega
        · have HQ := Lib.hid hq
          go_wp2_with fail
          refine (satBit_any p k hlt _).mono ?_
          rintro e w' ⟨rfl, rfl⟩
          rw [HP.out]
          go_wp2_with fail
          refine (satBit_any q' k hlt _).mono ?_
          rintro e w' ⟨rfl, rfl⟩
          rw [HQ.out]
          go_wp2_with fail
          have fin : RetX (p, q) (p', q') w (.returned (.tuple #[.agg #[.int .u32 (W (resAt (p, q) (p', q') k).1), .int .u32 (W (resAt (p, q) (p', q') k).2)], .bool true])) (((w.alloc (.cells #[.int .u32 (W p), .int .u32 (W q)] 29)).alloc (.cells #[.int .u32 (W p'), .int .u32 (W q')] 29)).alloc (.cells #[.int .u32 0, .int .u32 0] 29)) := ⟨(((Kept.refl _).alloc _).alloc _).alloc _, by rw [resB_at hlt HP.out HQ.out HLOW.out]⟩
          first
            | go_ret2
              exact ⟨(((Kept.refl _).alloc _).alloc _).alloc _, fin.2⟩
            | go_ret
              exact ⟨(((Kept.refl _).alloc _).alloc _).alloc _, fin.2⟩
            | exact bodyPost_ret (v := .tuple #[.agg #[.int .u32 (W (resAt (p, q) (p', q') k).1), .int .u32 (W (resAt (p, q) (p', q') k).2)], .bool true]) (by simp [results, Try.results14, go_sem, resAt]) rfl ⟨(((Kept.refl _).alloc _).alloc _).alloc _, fin.2⟩
    · go_wp2_with fail
      have fin : Ending.returned (.tuple #[.agg #[.int .u32 0, .int .u32 0], .bool false]) = .returned (.tuple #[.agg #[.int .u32 (W (resB (p, q) (p', q')).1.1), .int .u32 (W (resB (p, q) (p', q')).1.2)], .bool (resB (p, q) (p', q')).2]) := by
        rw [resB_off (fun i hi => HLOW.out i (by omega))]
        rfl
      first
        | go_ret2
          exact ⟨(((Kept.refl _).alloc _).alloc _).alloc _, fin⟩
        | go_ret
          exact ⟨(((Kept.refl _).alloc _).alloc _).alloc _, fin⟩
        | exact bodyPost_ret (v := .tuple #[.agg #[.int .u32 0, .int .u32 0], .bool false]) (by simp [results, Try.results14, go_sem, r0, r1]) rfl ⟨(((Kept.refl _).alloc _).alloc _).alloc _, fin⟩
set_option maxHeartbeats 1000000 in
theorem clRes_any (a b : Ru) (w : World) : Calls Try.prog 42 #[.agg #[.int .u32 (W a.1), .int .u32 (W a.2)], .agg #[.int .u32 (W b.1), .int .u32 (W b.2)]] w (RetX a b w) := by
  obtain ⟨p, q⟩ := a
  obtain ⟨p', q'⟩ := b
  have hb3 := boxes3 (Kept.refl (((w.alloc (.cells #[.int .u32 (W p), .int .u32 (W q)] 29)).alloc (.cells #[.int .u32 (W p'), .int .u32 (W q')] 29)).alloc (.cells #[.int .u32 0, .int .u32 0] 29)))
  have a0 := hb3.1.at_ 0 rfl
  have a1 := hb3.1.at_ 1 rfl
  have b0 := hb3.2.1.at_ 0 rfl
  have b1 := hb3.2.1.at_ 1 rfl
  have r0 := hb3.2.2.at_ 0 rfl
  have r1 := hb3.2.2.at_ 1 rfl
  by_cases hz : p &&& q' = 0#32
  · have HZ := Lib.hid hz
    have hz0 : (p &&& q' == 0#32) = true := by rw [hz]; rfl
    go_enter Try.func42, Try.ntmps42
    go_wp2_with fail
    have fin : Ending.returned (.tuple #[.agg #[.int .u32 0, .int .u32 0], .bool false]) = .returned (.tuple #[.agg #[.int .u32 (W (resB (p, q) (p', q')).1.1), .int .u32 (W (resB (p, q) (p', q')).1.2)], .bool (resB (p, q) (p', q')).2]) := by
      rw [resB_off (fun i hi => by rw [HZ.out]; simp)]
      rfl
    first
      | go_ret2
        exact ⟨(((Kept.refl _).alloc _).alloc _).alloc _, fin⟩
      | go_ret
        exact ⟨(((Kept.refl _).alloc _).alloc _).alloc _, fin⟩
      | exact bodyPost_ret (v := .tuple #[.agg #[.int .u32 0, .int .u32 0], .bool false]) (by simp [results, Try.results42, go_sem, r0, r1]) rfl ⟨(((Kept.refl _).alloc _).alloc _).alloc _, fin⟩
  · have hz0 : (p &&& q' == 0#32) = false := by simpa using hz
    obtain ⟨k, hk⟩ : ∃ k, lowB (p &&& q') = some k := by
      cases h : lowB (p &&& q') with
      | none => exact absurd (lowB_none.1 h) hz
      | some k => exact ⟨k, rfl⟩
    have hlow := low_bit hk
    have HK := Lib.hid hk
    clear hz hk
    go_enter Try.func42, Try.ntmps42
    go_wp2_with fail
    have fin : Ending.returned (.tuple #[.agg #[.int .u32 (W (resAt (p, q) (p', q') k).1), .int .u32 (W (resAt (p, q) (p', q') k).2)], .bool true]) = .returned (.tuple #[.agg #[.int .u32 (W (resB (p, q) (p', q')).1.1), .int .u32 (W (resB (p, q) (p', q')).1.2)], .bool (resB (p, q) (p', q')).2]) := by
      rw [resB_some (c := resAt (p, q) (p', q') k) (by unfold resO; rw [HK.out]; rfl)]
    first
      | go_ret2
        exact ⟨(((Kept.refl _).alloc _).alloc _).alloc _, fin⟩
      | go_ret
        exact ⟨(((Kept.refl _).alloc _).alloc _).alloc _, fin⟩
      | exact bodyPost_ret (v := .tuple #[.agg #[.int .u32 (W (resAt (p, q) (p', q') k).1), .int .u32 (W (resAt (p, q) (p', q') k).2)], .bool true]) (by simp [results, Try.results42, go_sem, resAt]) rfl ⟨(((Kept.refl _).alloc _).alloc _).alloc _, fin⟩
      | trace_state
end Go.Proofs.Ytekpifobhgjepaa
