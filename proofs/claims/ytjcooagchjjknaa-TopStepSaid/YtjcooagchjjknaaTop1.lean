/- The walk of hands.Play. -/
import Derived.Test.YtjcooagchjjknaaTopS
import Derived.OwnWalk
namespace Go.Proofs.Ytjcooagchjjknaa
open Go Go.RowKit Go.Lib
set_option linter.unusedVariables false

theorem info_errno : (Try.prog.info? 26).map (fun i => (i.zero, i.size, i.bytes)) = some (some (.int .i64 0), 1, 8) := by kernel_rfl
def codesL (qs : List SkA) (k : Nat) : List Int := (List.range k).map (plC qs)
theorem codesL_succ (qs : List SkA) (k : Nat) : codesL qs (k + 1) = codesL qs k ++ [plC qs k] := by unfold codesL; rw [List.range_succ, List.map_append]; rfl
theorem codesL_len (qs : List SkA) (k : Nat) : (codesL qs k).length = k := by simp [codesL]
def Played (w : World) (qs : List SkA) (n : Nat) (e : Ending) (w' : World) : Prop :=
  ∃ (AC : Option Addr) (cC : Nat) (AL : Option Addr) (cL : Nat), e = .returned (.tuple #[.slice AC n cC, .slice AL (plL qs n).length cL, .int .i64 0]) ∧ SlI w' AC n (codesL qs n) ∧ n ≤ cC ∧ SlL w' AL (plL qs n).length (plL qs n) ∧ Kept w w'
theorem hands_big (A : Option Addr) (n c : Nat) (w : World) (h30 : 30 < n) :
    Calls Try.prog 26 #[.slice A n c] w fun e w' => e = .returned (.tuple #[.slice none 0 0, .slice none 0 0, .int .i64 1]) ∧ w = w' := by
  have t1 : decide (30 < n) = true := by simpa using h30
  have t2 : decide ((30 : Int) < (n : Int)) = true := by simp; omega
  go_enter Try.func26, Try.ntmps26
  go_wp2_with fail
  go_ret3
  exact ⟨rfl, rfl⟩
set_option maxHeartbeats 4000000 in
theorem hands_any (A : Option Addr) (n c : Nat) (qs : List SkA) (w : World) (hs : SlSk w A n qs) (h30 : n ≤ 30) :
    Calls Try.prog 26 #[.slice A n c] w (Played w qs n) := by
  have t1 : decide (30 < n) = false := by simp; omega
  have t2 : decide ((30 : Int) < (n : Int)) = false := by simp; omega
  have HLN := Lib.hid hs.1.2
  go_enter Try.func26, Try.ntmps26
  go_wp2_with fail
  go_loopw [5, 6, 16] (fun cv pv t wr => ∃ k : Nat, k ≤ n ∧ t = .int .i64 k ∧ Own w wr 26 1 cv k ((codesL qs k).map iv) ∧ ∃ AL cL, pv = .slice AL (plL qs k).length cL ∧ Own w wr 38 4 (.slice AL (plL qs k).length cL) (plL qs k).length (lfCells (plL qs k))) (fun _ _ t _ => n - (intOf t).toNat)
  case atStart => exact ⟨0, Nat.zero_le _, rfl, Own.start (Kept.refl _), none, 0, rfl, Own.start (Kept.refl _)⟩
  case round =>
    obtain ⟨k, hk, rfl, hown, AL, cL, rfl, hpl⟩ := hrel
    by_cases hlt : k < n
    · obtain ⟨b, off, hkl, rfl, hb, c0, c1, c2, c3, c4, hpath⟩ := (hs.kept hown.kept0).get k hlt
      have HSK := Lib.hid (skN_eq hkl)
      have HCS := Lib.hid (codesL_succ qs k)
      have HST := Lib.hid (show plL qs (k + 1) = if (penF (plL qs k) (skN qs k)).1 = 0 then (penF (plL qs k) (skN qs k)).2 else plL qs k from rfl)
      have HCK := Lib.hid (show plC qs k = (penF (plL qs k) (skN qs k)).1 from rfl)
      have hl40 : (plL qs k).length ≤ maxLen := by have := (plL_ok qs k).1; unfold maxLen; omega
      rw [HSK.out] at HST HCK
      generalize qs[k] = q at c0 c1 c2 c3 c4 hpath HST HCK
      obtain ⟨⟨kind, ⟨lv, pt⟩, ps, tx⟩, A2, m, c2x⟩ := q
      obtain ⟨hm, hmc, hp⟩ := hpath
      simp only at c0 c1 c2 c3 c4 hm hmc hp HST HCK
      have hka : Kept wr (wr.alloc (.cells #[.int .i64 kind, .int .i64 lv, .int .u32 (W pt), .slice A2 m c2x, .int .i64 tx] 48)) := (Kept.refl _).alloc _
      have hpl1 := hpl.kept hka
      have hq1 := hown.kept0.trans hka
      have HDO := Lib.hid (doO_any AL (plL qs k).length cL (plL qs k) kind lv pt A2 m c2x ps tx _ ⟨Sl.of_own hpl1.1, rfl⟩ (hp.kept hka) hl40 hm hmc)
      have ho1 := hown.kept hka
      obtain ⟨A9, c9, rfl, _, _⟩ := hown.form
      have hi1 : (0 : Int) ≤ (k : Int) := by omega
      have hi2 : (k : Int) < (n : Int) := by omega
      clear hown hpl hp
      generalize plL qs k = ll at HDO HST HCK hpl1 ⊢
      obtain ⟨R, hR⟩ : ∃ R, penF ll ⟨kind, (lv, pt), ps, tx⟩ = R := ⟨_, rfl⟩
      rw [hR] at HDO HST HCK
      clear hR
      obtain ⟨code, rs⟩ := R
      simp only at HST HCK
      go_wp2_with fail
      refine HDO.out.mono ?_
      rintro e w4 ⟨A4, c4x, rfl, h4⟩
      have k4 := h4.2
      have h4o := Own.baseP h4 hq1
      simp only at h4o ⊢
      clear h4
      have ho4 := ho1.kept k4
      have hpl4 := hpl1.kept k4
      clear ho1 hpl1 HDO
      by_cases hc0 : code = 0
      · subst hc0
        have HST2 := Lib.hid (show plL qs (k + 1) = rs by rw [HST.out, if_pos rfl])
        go_wp2_with (at_builtin; refine wpList_push rfl _ _ 54 rfl 26 Try.underlying54 info_errno rfl (by decide) (by decide) _ _ _ _ ho4 #[.int .i64 0] _ _ 1 1 rfl rfl rfl rfl (one_i64 _) (by omega) ?_; intro v' w7 hown7 hgr7)
        go_roundw
        case rel => exact ⟨k + 1, by omega, by go_num, by rw [HCS.out, HCK.out]; simpa [iv] using hown7, A4, c4x, by rw [HST2.out], by rw [HST2.out]; exact (h4o.alloc _).grown hgr7 ((h4o.far2 ho4 (by decide))) ho4.since⟩
        case measure => simp [intOf]; omega
      · have hne : (code == 0) = false := by simpa using hc0
        have HST2 := Lib.hid (show plL qs (k + 1) = ll by rw [HST.out, if_neg hc0])
        clear hc0
        go_wp2_with (at_builtin; refine wpList_push rfl _ _ 54 rfl 26 Try.underlying54 info_errno rfl (by decide) (by decide) _ _ _ _ ho4 #[.int .i64 code] _ _ 1 1 rfl rfl rfl rfl (one_i64 _) (by omega) ?_; intro v' w7 hown7 hgr7)
        go_roundw
        case rel => exact ⟨k + 1, by omega, by go_num, by rw [HCS.out, HCK.out]; simpa [iv] using hown7, AL, cL, by rw [HST2.out], by rw [HST2.out]; exact (hpl4.alloc _).grown hgr7 ((hpl4.far2 ho4 (by decide))) ho4.since⟩
        case measure => simp [intOf]; omega
    · have hkn : k = n := by omega
      subst hkn
      obtain ⟨A2, c2, rfl, hsl, hcap⟩ := hown.form
      have FIN := Lib.hid (show Played w qs k (.returned (.tuple #[.slice A2 k c2, .slice AL (plL qs k).length cL, .int .i64 0])) wr from ⟨A2, c2, AL, cL, rfl, ⟨hsl, codesL_len qs k⟩, hcap, ⟨Sl.of_own hpl.1, rfl⟩, hown.kept0⟩)
      go_wp2_with fail
      go_ret3
      exact FIN.out
end Go.Proofs.Ytjcooagchjjknaa
