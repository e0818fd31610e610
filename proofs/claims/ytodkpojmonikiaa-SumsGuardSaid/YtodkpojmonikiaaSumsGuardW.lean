/- SumsGuard: the walk of the statement. -/
import Derived.Test.YtodkpojmonikiaaGuard
import Derived.Test.YtodkpojmonikiaaOpen
namespace Go.Proofs.Ytodkpojmonikiaa.sumsGuardDone
open Go Go.RowKit
set_option linter.unusedVariables false

theorem bad (n : Int) (A : Option Addr) (len c : Nat) (qs : List (BitVec 32)) (w : World) (hs : SlW w A len qs) (h : askF n qs 0#32 ≠ 0) :
    Calls Try.prog 7 #[.int .i64 n, .slice A len c] w fun e w' => e = .returned (.bool true) ∧ Kept w w' := by
  have hk := fun w h => asked_any n A len c qs 0#32 w h
  rw [W_zero] at hk
  have h0 : (askF n qs 0#32 != 0) = true := by simpa using h
  have h1 : (askF n qs 0#32 == 0) = false := by simpa using h
  have HH := Lib.hid h
  clear h
  go_enter Try.func7, Try.ntmps7
  go_wp2_with fail
  refine (guard_any n A len c qs _ hs).mono ?_
  rintro e w1 ⟨k1, ⟨_, rfl⟩ | ⟨hz, _⟩⟩
  case inr => exact absurd hz HH.out
  go_wp2_with fail
  refine (hk _ (hs.kept k1)).mono ?_
  rintro e w2 ⟨rfl, rfl⟩
  go_wp2_with fail
  go_ret
  exact ⟨rfl, k1⟩
set_option maxRecDepth 100000 in
set_option maxHeartbeats 8000000 in
theorem good (nn : Nat) (A : Option Addr) (len c : Nat) (qs : List (BitVec 32)) (w : World) (hs : SlW w A len qs) (h1 : 1 ≤ nn) (h8 : nn ≤ 8) (h : askF nn qs 0#32 = 0) (hok : ∀ q ∈ qs, fitB nn q = true) (hl : len ≤ 12) :
    Calls Try.prog 7 #[.int .i64 nn, .slice A len c] w fun e w' => e = .returned (.bool true) ∧ Kept w w' := by
  have hk := fun w h => asked_any nn A len c qs 0#32 w h
  rw [W_zero, h] at hk
  have HH := Lib.hid h
  have HL := Lib.hid hs.2
  have HOK := Lib.hid hok
  have HG := Lib.hid (fun w h => guard_any nn A len c qs w h)
  have hne : ((len : Int) != (len : Int)) = false := by simp
  clear h hok
  go_enter Try.func7, Try.ntmps7
  go_wp2_with fail
  refine (HG.out _ hs).mono ?_
  rintro e w1 ⟨k1, ⟨hz, _⟩ | ⟨_, A1, c1, rfl, hcodes⟩⟩
  case inl => exact absurd HH.out hz
  rw [HL.out] at hcodes ⊢
  go_wp2_with fail
  refine (hk _ (hs.kept k1)).mono ?_
  rintro e w2 ⟨rfl, rfl⟩
  go_wp2_with fail
  go_loopw [7, 37] (fun vg t wr => ∃ k : Nat, k ≤ len ∧ t = .int .i64 k ∧ Own w1 wr 23 1 vg (givenG qs k).length ((givenG qs k).map wv)) (fun _ t _ => len - (intOf t).toNat)
  case atStart => exact ⟨0, Nat.zero_le _, rfl, Own.start (Kept.refl _)⟩
  case round =>
    obtain ⟨k, hk, rfl, hg⟩ := hrel
    by_cases hlt : k < len
    · obtain ⟨b, off, hkq, rfl, hb, cq⟩ := (hs.kept (k1.trans hg.kept0)).get k hlt
      obtain ⟨b2, off2, hkc, rfl, hb2, cc⟩ := (hcodes.kept hg.kept0).get k hlt
      have HCC := Lib.hid (show (codesG qs len)[k] = codeG qs k by simp [codesG])
      rw [HCC.out] at cc
      have HQ := Lib.hid (nth_eq qs k hkq)
      have hqf := HOK.out _ (List.getElem_mem hkq)
      have hgf := givenG_fit HOK.out k (by omega)
      have hgl := givenG_len qs k
      have HN := Lib.hid (show givenG qs (k + 1) = if gTold (givenG qs k) (nth qs k) == 0#32 then givenG qs k ++ [nth qs k] else givenG qs k from rfl)
      have hcg : codeG qs k = if gTold (givenG qs k) (nth qs k) == 0#32 then 0 else 7 := rfl
      rw [HQ.out] at HN hcg
      generalize givenG qs k = g at hg hgf hgl HN hcg
      generalize qs[k] = q at cq HN hcg hqf
      obtain ⟨Ag, cg, rfl, hslg, hcg2⟩ := hg.form
      have hi1 : (0 : Int) ≤ (k : Int) := by omega
      have hi2 : (k : Int) < (len : Int) := by omega
      have HGI := Lib.hid hg
      have HASK := Lib.hid (askF_ok (nn := nn) (qs := g ++ [q]) h1 h8 (by rw [List.length_append]; simp; omega) (snoc_fit hgf hqf))
      have HTV := Lib.hid (show toldR (rowsQ (g ++ [q]) (g ++ [q]).length) = gTold g q by unfold gTold; rw [List.length_append]; rfl)
      clear hgf hqf
      go_wp2_with (at_builtin; first | (refine wpList_pushAll rfl _ _ 40 rfl 23 Try.underlying40 info_u32 rfl (by decide) (by decide) _ _ _ _ (Own.empty (Kept.refl wr) 23 1 _ rfl) _ _ _ _ ((hslg.kept ((Kept.refl wr).alloc _))) rfl rfl (one_words g) g.length (by omega) (by omega) ?_; intro v5 w5 hown5; obtain ⟨A5, c5, rfl, hsl5⟩ := hown5.form; have O5 := Lib.hid hown5; clear hown5) | (refine wpList_push rfl _ _ 40 rfl 23 Try.underlying40 info_u32 rfl (by decide) (by decide) _ _ _ _ O5.out #[.int .u32 (W q)] 23 _ 1 1 rfl rfl rfl rfl (one_words [q]) (by omega) ?_; intro v7 w7 hown7 hgr7; obtain ⟨A7, c7, rfl, hsl7⟩ := hown7.form; have O7 := Lib.hid hown7; clear hown7))
      have k57 := O7.out.kept0
      refine (sumsTold_any nn A7 (g.length + 1) c7 (g ++ [q]) _ ⟨by simpa [wv] using hsl7.1, by simp⟩).mono ?_
      rintro e w8 ⟨k8, ⟨hz, _⟩ | ⟨_, rfl⟩⟩
      case inl => exact absurd HASK.out hz
      rw [HTV.out]
      have G8 := Lib.hid (HGI.out.kept (k57.trans k8))
      have cc8 := ((k57.trans k8).cell (cell_lt cc)).trans cc
      rw [hcg] at cc8
      generalize gTold g q = x at cc8 HN
      clear hcg cc hsl7 hsl5
      cases hz : (x == 0#32)
      · have HZ := Lib.hid hz
        rw [hz] at cc8
        simp only [Bool.false_eq_true, if_false] at cc8
        go_wp2_with fail
        go_roundw
        case rel => exact ⟨k + 1, by omega, by go_num, by rw [HN.out, HZ.out]; exact G8.out⟩
        case measure => simp [intOf]; omega
      · have HZ := Lib.hid hz
        rw [hz] at cc8
        simp only [if_true] at cc8
        go_wp2_with (at_builtin; refine wpList_push rfl _ _ 40 rfl 23 Try.underlying40 info_u32 rfl (by decide) (by decide) _ _ _ _ G8.out #[.int .u32 (W q)] 23 _ 1 1 rfl rfl rfl rfl (one_words [q]) (by omega) ?_; intro v10 w10 hown10 hgr10; have G10 := Lib.hid hown10; clear hown10 hgr10)
        go_roundw
        case rel => exact ⟨k + 1, by omega, by go_num, by rw [HN.out, HZ.out]; simpa [wv] using G10.out⟩
        case measure => simp [intOf]; omega
    · obtain rfl : k = len := by omega
      have hgf := givenG_fit HOK.out k (by rw [HL.out]; omega)
      have hgl := givenG_len qs k
      have hgt := givenG_told qs k
      have HASK := Lib.hid (askF_ok (nn := nn) (qs := givenG qs k) h1 h8 (by omega) hgf)
      have hlt2 := left_one (rowsQ_ref (n := nn) h8 hgf (givenG qs k).length (Nat.le_refl _)) h8 h1 hgt
      generalize givenG qs k = g at hg hgf hgl hgt HASK hlt2
      obtain ⟨Ag, cg, rfl, hslg, hcg2⟩ := hg.form
      have KW := Lib.hid (k1.trans hg.kept0)
      have HLEFT := Lib.hid (left_any nn Ag g.length cg g wr ⟨hslg, rfl⟩ HASK.out)
      generalize (rowsQ g g.length).length = m at hlt2 HLEFT
      have hm : decide (1 ≤ (nn : Int) - (m : Int)) = true := by simp; omega
      clear hgf hgt hslg hg
      go_wp2_with fail
      refine HLEFT.out.mono ?_
      rintro e w2 ⟨rfl, k2⟩
      go_wp2_with fail
      go_ret
      exact ⟨by simp, KW.out.trans k2⟩
theorem sumsGuard_walk (n : Int) (A : Option Addr) (len c : Nat) (qs : List (BitVec 32)) (w : World) (_wn : (Lit.int .i64 n).wf = true) (hl : len ≤ maxLen) (hs : SlW w A len qs) :
    Calls Try.prog 7 #[.int .i64 n, .slice A len c] w fun e w' => e = .returned (.bool true) ∧ Below w.heap.size w w' := by
  suffices h : Calls Try.prog 7 #[.int .i64 n, .slice A len c] w fun e w' => e = .returned (.bool true) ∧ Kept w w' from h.mono fun e w' ⟨h1, h2⟩ => ⟨h1, h2.below⟩
  by_cases h0 : askF n qs 0#32 = 0
  · obtain ⟨nn, rfl, h1, h8, hl2, hok⟩ := askF_zero h0
    exact good nn A len c qs w hs h1 h8 h0 hok (by rw [← hs.2]; exact hl2)
  · exact bad n A len c qs w hs h0
end Go.Proofs.Ytodkpojmonikiaa.sumsGuardDone
