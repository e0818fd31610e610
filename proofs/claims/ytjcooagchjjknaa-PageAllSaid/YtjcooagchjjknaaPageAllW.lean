/- PageAll: the walk of the statement. -/
import Derived.Test.YtjcooagchjjknaaTops
namespace Go.Proofs.Ytjcooagchjjknaa.pageAllDone
open Go Go.RowKit
set_option linter.unusedVariables false

theorem seen_all {ls : List Lf} (h : PageOk ls) : ∀ x ∈ ls, seen (3, 31#32) x = true := by
  intro x hx
  obtain ⟨i, hi, rfl⟩ := List.getElem_of_mem hx
  have h1 := (h.2 i hi).1
  rw [lfAt_eq ls i hi] at h1
  obtain ⟨a, b, c⟩ := (show ((ls[i]).2.2.1 : Int) ≥ 0 ∧ (ls[i]).2.2.1 ≤ 3 ∧ fitB 5 (ls[i]).2.2.2 = true from by have := labOk_iff.1 h1; exact this)
  unfold seen leB
  rw [Bool.and_eq_true]
  refine ⟨decide_eq_true b, subB_iff.2 fun j hj => ?_⟩
  have hj5 : j < 5 := fitB_iff.1 c j hj
  have : j = 0 ∨ j = 1 ∨ j = 2 ∨ j = 3 ∨ j = 4 := by omega
  rcases this with rfl | rfl | rfl | rfl | rfl <;> rfl
theorem view_all {ls : List Lf} (h : PageOk ls) : viewL ls (3, 31#32) = ls := by
  have ha := seen_all h
  have hf : ∀ l : List Lf, (∀ x ∈ l, x ∈ ls) → l.filter (seen (3, 31#32)) = l := fun l hl => List.filter_eq_self.2 fun x hx => ha x (hl x hx)
  unfold viewL viewK
  rw [hf ls fun x hx => hx]
  apply List.ext_getElem (by simp)
  intro i h1 h2
  rw [List.getElem_map]
  have hp := (h.2 i h2).2.1
  rw [lfAt_eq ls i h2] at hp
  unfold renK
  split
  · rfl
  · rename_i hn
    have : cntK (seen (3, 31#32)) ls (ls[i]).1.toNat = (ls[i]).1.toNat := by
      unfold cntK
      rw [hf _ fun x hx => List.mem_of_mem_take hx, List.length_take]
      omega
    rw [this]
    refine Prod.ext ?_ rfl
    show (((ls[i]).1.toNat : Nat) : Int) = (ls[i]).1
    omega
set_option maxHeartbeats 4000000 in
theorem pageAll_walk (A : Option Addr) (n c : Nat) (ls : List Lf) (w : World) (hn : n ≤ maxLen) (hs : SlL w A n ls) :
    Calls Try.prog 4 #[.slice A n c] w fun e w' => e = .returned (.bool true) ∧ Below w.heap.size w w' := by
  suffices h : Calls Try.prog 4 #[.slice A n c] w fun e w' => e = .returned (.bool true) ∧ Kept w w' from h.mono fun e w' ⟨h1, h2⟩ => ⟨h1, h2.below⟩
  have HHN := Lib.hid hn
  by_cases hp : pageF ls = 0
  · have hok := pageF_zero.1 hp
    have hn40 : n ≤ 40 := by rw [← hs.2]; exact hok.1
    have HP := Lib.hid hp
    have HLN := Lib.hid hs.2
    have HV := Lib.hid (view_all hok)
    have HPG := Lib.hid (show ∀ i, i < n → (-1 ≤ (lfAt ls i).1 ∧ (lfAt ls i).1 < i) ∧ (0 ≤ topD ls i ∧ topD ls i ≤ i) from fun i hi => ⟨(hok.2 i (by rw [hs.2]; exact hi)).2.1, topD_le hok i (by rw [hs.2]; exact hi)⟩)
    clear hp hok
    go_enter Try.func4, Try.ntmps4
    go_wp2_with fail
    refine (viewX_ok A n c ls 3 31#32 _ hs HP.out (by decide +kernel)).mono ?_
    rintro e w1 ⟨A1, c1, rfl, hv1, k1⟩
    rw [HV.out, HLN.out] at hv1
    rw [HV.out, HLN.out]
    go_wp2_with fail
    refine (topsX_ok A n c ls _ (hs.kept k1) HP.out).mono ?_
    rintro e w2 ⟨A2, c2, rfl, ht2, k2⟩
    have HTL := Lib.hid (topTo_len ls n)
    rw [HTL.out] at ht2 ⊢
    have q2 := k1.trans k2
    go_wp2_with fail
    refine (refPageCheck_any _ _ _ ls _ (hs.kept q2) hn).mono ?_
    rintro e w3 ⟨rfl, k3⟩
    rw [HP.out]
    have q3 := q2.trans k3
    replace ht2 := ht2.kept k3
    replace hv1 := (hv1.kept k2).kept k3
    go_wp2_with fail
    refine (leaves_same _ _ _ _ _ ls _ (hs.kept q3) hv1 (by omega)).mono ?_
    rintro e w4 ⟨rfl, k4⟩
    have q4 := q3.trans k4
    replace ht2 := ht2.kept k4
    have hbn : ((n : Int) != (n : Int)) = false := by simp
    go_wp2_with fail
    clear hbn
    go_loopw [50] (fun t wr => ∃ k : Nat, k ≤ n ∧ t = .int .i64 k ∧ Kept w4 wr) (fun t _ => n - (intOf t).toNat)
    case atStart => exact ⟨0, Nat.zero_le _, rfl, Kept.refl _⟩
    case round =>
      obtain ⟨k, hk, rfl, hkw⟩ := hrel
      by_cases hlt : k < n
      · obtain ⟨b, off, rfl, hb, c0, c1, c2, c3⟩ := (hs.kept (q4.trans hkw)).getN k hlt
        have HPK := Lib.hid (HPG.out k hlt)
        have HST := Lib.hid (show ∀ u : Nat, (lfAt ls k).1 = u → u < k → topD ls k = topD ls u + 1 from fun u => topD_step)
        have HTP := Lib.hid (show (lfAt ls k).1 < 0 → topD ls k = 0 from topD_top)
        generalize lfAt ls k = x at c0 c1 c2 c3 HPK HST HTP
        obtain ⟨up, tx, lx, px⟩ := x
        simp only at c0 c1 c2 c3 HPK HST HTP
        obtain ⟨X, hX⟩ : ∃ X, wr.heap.size = X := ⟨_, rfl⟩
        have bx := Box.new wr #[.int .i64 up, .int .i64 tx, .int .i64 lx, .int .u32 (W px)] 38 X hX
        have hka : Kept wr (wr.alloc (.cells #[.int .i64 up, .int .i64 tx, .int .i64 lx, .int .u32 (W px)] 38)) := (Kept.refl _).alloc _
        have g0 := bx.at_ 0 rfl
        have htr := (ht2.kept hkw).kept hka
        have hi1 : (0 : Int) ≤ (k : Int) := by omega
        have hi2 : (k : Int) < (n : Int) := by omega
        have cells : ∀ u, u < n → ∃ b9 o9, A2 = some ⟨b9, o9, none⟩ ∧ (wr.alloc (.cells #[.int .i64 up, .int .i64 tx, .int .i64 lx, .int .u32 (W px)] 38)).cell? ⟨b9, o9 + u, none⟩ = some (.int .i64 (topD ls u)) := by
          intro u hu
          obtain ⟨b9, o9, hb9, e9, _, h9⟩ := htr.get u hu
          refine ⟨b9, o9, e9, ?_⟩
          have e : (topTo ls n)[u] = topD ls u := Option.some.inj ((List.getElem?_eq_getElem hb9).symm.trans (topTo_at ls hu))
          rw [h9, e]
        obtain ⟨b9, o9, rfl, cK⟩ := cells k hlt
        by_cases h0 : 0 ≤ up
        · obtain ⟨u, rfl⟩ := Int.eq_ofNat_of_zero_le h0
          have huk : u < k := by have := HPK.out.1.2; omega
          have hD := HST.out u rfl huk
          obtain ⟨b8, o8, e8, cU⟩ := cells u (by omega)
          cases e8
          have hD2 := (HPG.out u (by omega)).2
          rw [hD] at cK
          generalize topD ls u = y at cU cK hD hD2
          have hi3 : (0 : Int) ≤ (u : Int) := by omega
          have hi4 : (u : Int) < (n : Int) := by omega
          have hy : y < 100 := by omega
          have hy0 : 0 ≤ y := hD2.1
          have d0 : decide ((u : Int) < 0) = false := by simp
          have hyy : (y + 1 != y + 1) = false := by simp
          clear hD hD2 cells
          go_wp2_with fail
          go_quiet (fail)
          go_wp2_with fail
          go_roundw
          case rel => exact ⟨k + 1, by omega, by go_num, (hkw.trans hka).drewN nq⟩
          case measure => simp [intOf]; omega
        · have d0 : decide (up < 0) = true := by simpa using h0
          have d1 : decide (0 ≤ up) = false := by simpa using h0
          rw [HTP.out (by omega)] at cK
          clear h0 cells
          go_wp2_with fail
          go_quiet (fail)
          go_wp2_with fail
          go_roundw
          case rel => exact ⟨k + 1, by omega, by go_num, (hkw.trans hka).drewN nq⟩
          case measure => simp [intOf]; omega
      · go_wp2_with fail
        go_ret
        exact ⟨rfl, q4.trans hkw⟩
  · have hne : (pageF ls != 0) = true := by simpa using hp
    have hvf : viewF ls (3, 31#32) = pageF ls := by unfold viewF; rw [if_pos hp]
    have HVF := Lib.hid hvf
    have HP := Lib.hid hp
    clear hvf hp
    go_enter Try.func4, Try.ntmps4
    go_wp2_with fail
    refine (viewX_no A n c ls 3 31#32 _ hs hn (by rw [HVF.out]; exact HP.out)).mono ?_
    rintro e w1 ⟨rfl, k1⟩
    rw [HVF.out]
    go_wp2_with fail
    refine (topsX_no A n c ls _ (hs.kept k1) HHN.out HP.out).mono ?_
    rintro e w2 ⟨rfl, k2⟩
    have q2 := k1.trans k2
    go_wp2_with fail
    refine (refPageCheck_any _ _ _ ls _ (hs.kept q2) HHN.out).mono ?_
    rintro e w3 ⟨rfl, k3⟩
    go_wp2_with fail
    go_ret
    exact ⟨rfl, q2.trans k3⟩
end Go.Proofs.Ytjcooagchjjknaa.pageAllDone
