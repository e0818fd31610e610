/- slices.Repeat at one -1; math/bits.Mul at one. -/
import Derived.Test.YtgcpomdlajoifaaChecked
import Derived.Test.YtgcpomdlajoifaaSeat
import Derived.Test.YtgcpomdlajoifaaArr
import Derived.Test.YtgcpomdlajoifaaCopy
import Derived.Lib.SliceRun
import Derived.Laws.Externs
import Derived.Laws.IdiomCopy
import Derived.Laws.NewBlocks
import Derived.Deep.RegionLaw
import Derived.BigQuiet
namespace Go.Proofs.Ytgcpomdlajoifaa
open Go Go.RowKit
set_option linter.unusedVariables false

theorem u64_and (a b : Nat) (ha : a < 18446744073709551616) (hb : b < 18446744073709551616) : bits .and .u64 (a : Int) (b : Int) = ((a &&& b : Nat) : Int) := by
  have hx : a &&& b < 2 ^ 64 := Nat.and_lt_two_pow _ (by omega)
  have e : ∀ a : Nat, a < 18446744073709551616 → (BitVec.ofInt 64 (a : Int)).toNat = a := fun a ha => by
    rw [BitVec.ofInt_natCast, BitVec.toNat_ofNat]
    exact Nat.mod_eq_of_lt (by omega)
  show IntKind.u64.wrap ((BitVec.ofInt 64 (a : Int) &&& BitVec.ofInt 64 (b : Int)).toNat : Int) = _
  rw [BitVec.toNat_and, e a ha, e b hb, IntKind.wrap_u64]
  omega
theorem mask_low (c : Nat) (hc : c ≤ 1000) : bits .and .u64 (c : Int) 4294967295 = (c : Int) := by
  have h := u64_and c 4294967295 (by omega) (by omega)
  have h2 : c &&& 4294967295 = c := by
    have := Nat.and_two_pow_sub_one_eq_mod c 32
    rw [show 2 ^ 32 - 1 = 4294967295 from rfl] at this
    rw [this]
    exact Nat.mod_eq_of_lt (by omega)
  rw [h2] at h
  exact h
theorem mul64_one (c : Nat) (hc : c ≤ 1000) (w : World) : Calls Try.prog 67 #[.int .u64 1, .int .u64 c] w fun e w' => e = .returned (.tuple #[.int .u64 0, .int .u64 c]) ∧ w = w' := by
  have h1 := mask_low 1 (by omega)
  have h1' : bits .and .u64 1 4294967295 = 1 := h1
  have h0 := mask_low 0 (by omega)
  have h0' : bits .and .u64 0 4294967295 = 0 := h0
  have h2 := mask_low c hc
  have h3 : (c : Int) / 4294967296 = 0 := by omega
  have h4 : IntKind.u64.wrap (c : Int) = (c : Int) := by rw [IntKind.wrap_u64]; omega
  clear h1 h0
  go_enter Try.func67, Try.ntmps67
  go_wp2
  go_ret2
  exact ⟨rfl, rfl⟩
theorem mul_one_ (c : Nat) (hc : c ≤ 1000) (w : World) : Calls Try.prog 62 #[.int .u64 1, .int .u64 c] w fun e w' => e = .returned (.tuple #[.int .u64 0, .int .u64 c]) ∧ w = w' := by
  go_enter Try.func62, Try.ntmps62
  go_wp2_with fail
  refine (mul64_one c hc _).mono ?_
  rintro e w' ⟨rfl, rfl⟩
  go_wp2_with fail
  go_ret2
  exact ⟨rfl, rfl⟩
set_option maxRecDepth 100000 in
set_option maxHeartbeats 4000000 in
theorem repeat_any (A : Option Addr) (cx c : Nat) (w : World) (hs : SlI w A 1 [-1]) (h1 : 1 ≤ c) (hc : c ≤ 1000) :
    Calls Try.prog 46 #[.slice A 1 cx, .int .i64 c] w fun e w' => ∃ v, e = .returned v ∧ Own w w' 3 1 v c (List.replicate c (iv (-1))) := by
  obtain ⟨b, off, hk, rfl, hb, c0⟩ := hs.get 0 (by omega)
  have hc0 : w.cell? ⟨b, off, none⟩ = some (iv (-1)) := c0
  clear c0 hs
  have hmk := run_make1 (P := Try.prog) 32 3 Try.underlying32 info_i64 rfl (by decide) c (by omega)
  have d0 : decide ((c : Int) < 0) = false := by simp
  have d1 : decide (9223372036854775807 < (c : Int)) = false := by simp; omega
  have e1 : IntKind.u64.wrap (c : Int) = (c : Int) := by rw [IntKind.wrap_u64]; omega
  have e2 : IntKind.i64.wrap (c : Int) = (c : Int) := by rw [IntKind.wrap_i64]; omega
  have hsz1 : (Try.prog.info? 3).map (·.size) = some 1 := by kernel_rfl
  have hO : Own w (w.alloc (.cells (rep c (.int .i64 0)) 3)) 3 1 (.slice (some ⟨w.heap.size, 0, none⟩) c c) c (fillTo (fun _ => iv (-1)) (iv 0) c 0) := by
    have := Own.made (w0 := w) (w := w) (Kept.refl w) 3 (rep c (.int .i64 0)) 1 c _ rfl (by simp [rep]) (by unfold maxLen; omega)
    rw [fillTo_zero]
    simpa [rep, iv] using this
  obtain ⟨W0, hW0⟩ : ∃ W0, w.alloc (.cells (rep c (.int .i64 0)) 3) = W0 := ⟨_, rfl⟩
  obtain ⟨B, hB⟩ : ∃ B : Nat, w.heap.size = B := ⟨_, rfl⟩
  rw [hW0, hB] at hO
  have hbB : b < B := by omega
  have hmin : Nat.min 1 c = 1 := by simp only [Nat.min_def]; split <;> omega
  have hcp0 : ∀ ty, (Builtin.copy_ #[32, 32] ty #[.slice (some ⟨B, 0, none⟩) c c, .slice (some ⟨b, off, none⟩) 1 cx]).run Try.prog W0 = .ok (goInt (Nat.min 1 c)) (W0.setCells B 0 (List.replicate 1 (iv (-1)))) := fun ty =>
    run_copyK W0 _ _ ty 3 B 0 c c ⟨b, off, none⟩ 1 cx 1 (List.replicate 1 (iv (-1))) Try.underlying32 hsz1 (by rw [hmin]; rfl)
      (fun j v hj => by
        obtain rfl : j = 0 := by
          rcases Nat.eq_zero_or_pos j with h | h
          · exact h
          · rw [List.getElem?_eq_none (by simp; omega)] at hj; cases hj
        simp at hj
        subst hj
        exact (hO.2.cell (p := ⟨b, off, none⟩) hb).trans hc0)
      (fun j hj => by rw [Nat.zero_add, hO.cell j (fillTo_at _ _ c 0 j (by simp at hj; omega))]; rfl) (fun j hj => hO.free _) (fun v hv => by simp at hv; subst hv; rfl)
  have hO1 := Own.fill 1 0 W0 hO
  obtain ⟨W1, hW1⟩ : ∃ W1, W0.setCells B 0 (List.replicate 1 (iv (-1))) = W1 := ⟨_, rfl⟩
  rw [hW1] at hcp0 hO1
  rw [hmin] at hcp0
  have HO1 := Lib.hid hO1
  have HCP := Lib.hid (fun (wr : World) (k : Nat) (hk1 : 1 ≤ k) (hkc : k < c) (ho : Own w wr 3 1 (.slice (some ⟨B, 0, none⟩) c c) c (fillTo (fun _ => iv (-1)) (iv 0) c k)) ty dc sc =>
    run_copyK wr 32 32 ty 3 B k (c - k) dc ⟨B, 0, none⟩ k sc 1 (List.replicate (Nat.min k (c - k)) (iv (-1))) Try.underlying32 hsz1 (by simp)
      (fun j v hj => by
        have hjk : j < Nat.min k (c - k) := by
          rcases Nat.lt_or_ge j (Nat.min k (c - k)) with h | h
          · exact h
          · rw [List.getElem?_eq_none (by simpa using h)] at hj; cases hj
        have hmk : Nat.min k (c - k) ≤ k := Nat.min_le_left _ _
        rw [List.getElem?_replicate, if_pos hjk] at hj
        injection hj with hj
        subst hj
        rw [Addr.add_lit, Nat.zero_add]
        refine ho.cell j ?_
        rw [fillTo_at _ _ c k j (by omega), if_pos (by omega)])
      (fun j hj => by
        have hmk : Nat.min k (c - k) ≤ c - k := Nat.min_le_right _ _
        have hj2 : j < Nat.min k (c - k) := by simpa using hj
        rw [ho.cell (k + j) (fillTo_at _ _ c k (k + j) (by omega))]; rfl)
      (fun j hj => ho.free _) (fun v hv => by rw [List.mem_replicate] at hv; rw [hv.2]; rfl))
  have hDone : fillTo (fun _ => iv (-1)) (iv 0) c c = List.replicate c (iv (-1)) := by
    rw [fillTo_done]
    apply List.ext_getElem
    · simp
    · intro i h1 h2; simp
  have HDONE := Lib.hid hDone
  clear hO hO1 hbB hmin hc0 hDone hsz1 hb hk
  go_enter Try.func46, Try.ntmps46
  go_wp2_with fail
  refine (mul_one_ c hc _).mono ?_
  rintro e w' ⟨rfl, rfl⟩
  go_wp2_with (at_builtin; refine wpL_copy_run _ rfl _ _ 32 32 rfl _ _ rfl rfl (hcp0 _) ?_)
  go_loopw [8] (fun t wr => ∃ k : Nat, 1 ≤ k ∧ k ≤ c ∧ t = .int .i64 k ∧ Own w wr 3 1 (.slice (some ⟨B, 0, none⟩) c c) c (fillTo (fun _ => iv (-1)) (iv 0) c k)) (fun t _ => c - (intOf t).toNat)
  case atStart => exact ⟨1, Nat.le_refl _, h1, rfl, HO1.out⟩
  case round =>
    obtain ⟨k, hk1, hkc, rfl, hown⟩ := hrel
    by_cases hlt : k < c
    · have hcp := HCP.out _ k hk1 hlt hown.drew
      have hfill := Own.fill (Nat.min k (c - k)) k _ hown.drew
      have hm1 : Nat.min k (c - k) ≤ c - k := Nat.min_le_right _ _
      have hm2 : 1 ≤ Nat.min k (c - k) := by simp only [Nat.min_def]; split <;> omega
      generalize Nat.min k (c - k) = m at hcp hfill hm1 hm2
      have HF := Lib.hid hfill
      have i1 : (0 : Int) ≤ (k : Int) := by omega
      have i2 : (k : Int) ≤ (c : Int) := by omega
      have hq : ¬ (c = k) := by omega
      clear hfill
      go_wp2_with fail
      have hw1 : IntKind.i64.wrap ((k : Int) + (m : Int)) = (k : Int) + (m : Int) := by rw [IntKind.wrap_i64]; omega
      go_region_law ((refine stepL_copy_run rfl _ _ 32 32 rfl _ _ (by simp [Act.eval, Act.put]) (by simp [Act.eval, Act.put]) (hcp _ _ _) ?_))
      clear hcp hw1
      simp only [List.getElem_toArray, List.getElem_cons_succ, List.getElem_cons_zero, Act.put, List.setIfInBounds_toArray, List.set_cons_succ, List.set_cons_zero]
      go_wp2_with fail
      go_roundw
      case rel => exact ⟨k + m, by omega, by omega, by go_num, HF.out⟩
      case measure => simp [intOf]; omega
    · obtain rfl : k = c := by omega
      rw [HDONE.out] at hown
      have FIN := Lib.hid hown
      clear hown
      go_wp2_with fail
      go_ret
      exact ⟨_, rfl, FIN.out⟩
end Go.Proofs.Ytgcpomdlajoifaa
