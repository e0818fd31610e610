/- The walk of the statements' Refutes, where the refutation has pairs. -/
import Derived.Test.YtekpifobhgjepaaTwF
namespace Go.Proofs.Ytekpifobhgjepaa
open Go Go.RowKit
set_option linter.unusedVariables false

set_option maxRecDepth 100000 in
set_option maxHeartbeats 16000000 in
theorem refutes_some (rs M : List Ru) (P : List Pr) (A A2 : Option Addr) (len np c c2 : Nat) (w : World) (hs : SlR w A len rs) (hp : SlP w A2 np P) (hn : len ≤ 1000) (hnp : np ≤ 10000) (h0 : 0 < np) (hrun : runF rs P = some M) (hM : 0 < M.length) (hlast : cl0 M (M.length - 1) = (0#32, 0#32)) :
    Calls Try.prog 20 #[.slice A len c, .slice A2 np c2] w fun e w' => e = .returned (.bool true) ∧ Kept w w' := by
  have HRUN := Lib.hid hrun
  have HLAST := Lib.hid hlast
  have HMP := Lib.hid hM
  have hz : ((np : Int) == 0) = false := by simp; omega
  have hz2 : ¬ np = 0 := by omega
  have HPL := Lib.hid hp.2
  have HRL := Lib.hid hs.2
  clear hrun hlast hM
  go_enter Try.func20, Try.ntmps20
  go_wp2_with (at_builtin; refine wpList_pushAll rfl _ _ 22 rfl 29 Try.underlying22 info_ru rfl (by decide) (by decide) _ _ _ _ (Own.empty (Kept.refl w) 29 2 _ rfl) _ _ _ _ (hs.kept ((Kept.refl w).alloc _)).1 rfl rfl (one_ru _) len (by omega) (by omega) ?_; intro v' w3 hown3)
  have hown3' : Own w w3 29 2 v' len (ruCells rs) := by simpa using hown3
  clear hown3 hs
  go_loopw [5, 30] (fun v t wr => ∃ (k : Nat) (L : List Ru), k ≤ np ∧ t = .int .i64 k ∧ L.length = len + k ∧ Own w wr 29 2 v (len + k) (ruCells L) ∧ Hid (runF rs (P.take k) = some L)) (fun _ t _ => np - (intOf t).toNat)
  case atStart => exact ⟨0, rs, Nat.zero_le _, rfl, by rw [HRL.out]; rfl, hown3', Lib.hid (by simpa using runF_nil rs)⟩
  case round =>
    clear hown3'
    obtain ⟨k, L, hk, rfl, hL, hown, HR⟩ := hrel
    by_cases hlt : k < np
    · obtain ⟨b, off, rfl, hb, e1, e2⟩ := (hp.kept hown.kept0).get k hlt
      obtain ⟨d1, d2, cc, d3, d4⟩ := runF_at HRUN.out (by rw [HPL.out]; exact hlt) HR.out
      have HNX := Lib.hid d4
      generalize (pr0 P k).1 = p at e1 d1 d3
      generalize (pr0 P k).2 = q at e2 d2 d3
      clear d4
      have HRES := Lib.hid (fun W => ref_res d3 W)
      obtain ⟨X, hX⟩ : ∃ X, wr.heap.size = X := ⟨_, rfl⟩
      obtain ⟨AL, cL, rfl, _, _⟩ := hown.form
      have ha := (Kept.refl wr).alloc (.cells #[.int .i64 (p : Int), .int .i64 (q : Int)] 85)
      have hown2 := hown.kept ha
      have hX2 : Row w (wr.alloc (.cells #[.int .i64 (p : Int), .int .i64 (q : Int)] 85)) X 85 [.int .i64 (p : Int), .int .i64 (q : Int)] := Row.new hown.kept0 _ _ X hX
      have b0 := hX2.cell 0 rfl
      have b1 := hX2.cell 1 rfl
      obtain ⟨bl, offl, rfl, hbl, p1, p2⟩ := (own_slR hown2 hL).getc p (by omega)
      obtain ⟨bl2, offl2, e8, hbl2, q1, q2⟩ := (own_slR hown2 hL).getc q (by omega)
      cases e8
      generalize cl0 L p = a at p1 p2 HRES d3
      generalize cl0 L q = a2 at q1 q2 HRES d3
      clear d3
      have g1 : (0 : Int) ≤ (k : Int) := by omega
      have g2 : (k : Int) < (np : Int) := by omega
      have g3 : (0 : Int) ≤ (p : Int) := by omega
      have g4 : ¬ (p : Int) < 0 := by omega
      have g5 : (0 : Int) ≤ (q : Int) := by omega
      have g6 : ¬ (q : Int) < 0 := by omega
      have g7 : (p : Int) < (len : Int) + (k : Int) := by omega
      have g8 : (q : Int) < (len : Int) + (k : Int) := by omega
      have g9 : ¬ ((len : Int) + (k : Int)) ≤ (p : Int) := by omega
      have g10 : ¬ ((len : Int) + (k : Int)) ≤ (q : Int) := by omega
      go_wp2_with fail
      have HO2 := Lib.hid hown2
      clear hown hown2 ha e1 e2 hb hp
      generalize wr.alloc (.cells #[.int .i64 (p : Int), .int .i64 (q : Int)] 85) = w2 at HO2 hX2 b0 b1 p1 p2 q1 q2 hbl hbl2
      clear hX2
      have HSW := Lib.hid (fun w' (k : Kept w2 w') => show w'.cell? ⟨X, 0, none⟩ = some (.int .i64 (p : Int)) ∧ w'.cell? ⟨X, 1, none⟩ = some (.int .i64 (q : Int)) ∧ w'.cell? ⟨bl, offl + p * 2, none⟩ = some (.int .u32 (W a.1)) ∧ w'.cell? ⟨bl, offl + p * 2 + 1, none⟩ = some (.int .u32 (W a.2)) ∧ w'.cell? ⟨bl, offl + q * 2, none⟩ = some (.int .u32 (W a2.1)) ∧ w'.cell? ⟨bl, offl + q * 2 + 1, none⟩ = some (.int .u32 (W a2.2)) ∧ Kept w2 w' from
        ⟨(k.cell (cell_lt b0)).trans b0, (k.cell (cell_lt b1)).trans b1, (k.cell (cell_lt p1)).trans p1, (k.cell (cell_lt p2)).trans p2, (k.cell (cell_lt q1)).trans q1, (k.cell (cell_lt q2)).trans q2, k⟩)
      go_region_held3 (fun w' => w'.cell? ⟨X, 0, none⟩ = some (.int .i64 (p : Int)) ∧ w'.cell? ⟨X, 1, none⟩ = some (.int .i64 (q : Int)) ∧ w'.cell? ⟨bl, offl + p * 2, none⟩ = some (.int .u32 (W a.1)) ∧ w'.cell? ⟨bl, offl + p * 2 + 1, none⟩ = some (.int .u32 (W a.2)) ∧ w'.cell? ⟨bl, offl + q * 2, none⟩ = some (.int .u32 (W a2.1)) ∧ w'.cell? ⟨bl, offl + q * 2 + 1, none⟩ = some (.int .u32 (W a2.2)) ∧ Kept w2 w')
        ((refine HSW.out _ ?_; repeat first | exact Kept.refl _ | exact K3.out | refine Kept.alloc ?_ _ | refine Kept.drew ?_ | refine Kept.setCell ?_ (by first | exact Nat.le_refl _ | exact K3.out.size) _))
        ((first
          | (go_at_call 14
             refine (HRES.out _).mono ?_
             rintro e w3 ⟨rfl, k3⟩
             have K3 := Lib.hid (Kept.trans (show Kept w2 _ by repeat first | exact Kept.refl _ | refine Kept.alloc ?_ _ | refine Kept.drew ?_) k3)
             try (have bxs := boxes1 (Kept.trans (Kept.drew (Kept.refl (w2.alloc (.cells #[.int .u32 0, .int .u32 0] 29)))) k3)
                  have bc0 := bxs.at_ 0 rfl
                  have bc1 := bxs.at_ 1 rfl
                  have bf0 := bxs.2.2 0
                  have bf1 := bxs.2.2 1
                  have blt := bxs.1
                  have row3 := Lib.hid ((Row.new (Kept.refl w2) 29 [.int .u32 0, .int .u32 0] _ rfl).kept (Kept.trans (Kept.drew (Kept.refl (w2.alloc (.cells #[.int .u32 0, .int .u32 0] 29)))) k3))
                  clear bxs)
             clear k3)
          | fail))
      all_goals
        first
        | (obtain ⟨w5, hw5⟩ : ∃ w5, w3.alloc (.cells #[.int .u32 (W cc.1), .int .u32 (W cc.2)] 29) = w5 := ⟨_, rfl⟩
           rw [hw5]
           have R5 := Lib.hid (show Row w2 w5 w3.heap.size 29 [.int .u32 (W cc.1), .int .u32 (W cc.2)] from hw5 ▸ Row.new K3.out 29 [.int .u32 (W cc.1), .int .u32 (W cc.2)] _ rfl)
           clear hw5
           generalize w3.heap.size = X5 at R5 ⊢)
        | (obtain ⟨w5, hw5⟩ : ∃ w5, (w3.setCell ⟨w2.heap.size, 0, none⟩ (.int .u32 (W cc.1))).setCell ⟨w2.heap.size, 1, none⟩ (.int .u32 (W cc.2)) = w5 := ⟨_, rfl⟩
           rw [hw5]
           have R5 := Lib.hid (show Row w2 w5 w2.heap.size 29 [.int .u32 (W cc.1), .int .u32 (W cc.2)] from hw5 ▸ (row3.out.set 0 (.int .u32 (W cc.1))).set 1 (.int .u32 (W cc.2)))
           clear hw5 bc0 bc1 bf0 bf1 blt row3
           generalize w2.heap.size = X5 at R5 ⊢)
        have HO5 := Lib.hid (HO2.out.kept R5.out.kept0)
        have c0 := R5.out.cell 0 rfl
        have c1 := R5.out.cell 1 rfl
        go_wp2_with (at_builtin; refine wpList_push rfl _ _ 22 rfl 29 Try.underlying22 info_ru rfl (by decide) (by decide) _ _ _ _ HO5.out #[.int .u32 (W cc.1), .int .u32 (W cc.2)] _ _ 1 1 rfl rfl rfl rfl (by intro x hx; simp at hx; rcases hx with rfl | rfl <;> rfl) (by omega) ?_; intro v7 w7 hown7 hgr7)
        have HO7 := Lib.hid (show Own w w7 29 2 v7 (len + (k + 1)) (ruCells (L ++ [cc])) from by
          have h : ruCells (L ++ [cc]) = ruCells L ++ [.int .u32 (W cc.1), .int .u32 (W cc.2)] := by unfold ruCells; rw [List.flatMap_append]; rfl
          rw [h]
          exact hown7)
        clear hown7 hgr7
        go_roundw
        case rel => exact ⟨k + 1, L ++ [cc], by omega, by go_num, by rw [List.length_append, hL]; rfl, HO7.out, HNX⟩
        case measure => simp [intOf]; omega
    · obtain rfl : k = np := by omega
      have hLM : L = M := by
        have h := HR.out
        rw [List.take_of_length_le (by rw [HPL.out]; exact Nat.le_refl _), HRUN.out] at h
        injection h with h
        exact h.symm
      subst hLM
      obtain ⟨AL, cL, rfl, _, _⟩ := hown.form
      have HK := Lib.hid hown.kept0
      obtain ⟨m, hm⟩ : ∃ m, len + k = m + 1 := ⟨len + k - 1, by have := HMP.out; omega⟩
      obtain ⟨bl, offl, rfl, hbl, p1, p2⟩ := (own_slR hown hL).getc m (by omega)
      have hl0 : cl0 L m = (0#32, 0#32) := by
        have h := HLAST.out
        rwa [hL, hm, Nat.add_sub_cancel] at h
      rw [hl0, W_zero] at p1 p2
      have em : (len : Int) + (k : Int) - 1 = (m : Int) := by omega
      have g1 : (0 : Int) ≤ (m : Int) := by omega
      have g2 : (m : Int) < (len : Int) + (k : Int) := by omega
      clear hown hl0
      go_wp2_with fail
      go_ret
      exact ⟨by simp, HK.out⟩
end Go.Proofs.Ytekpifobhgjepaa
