/- The walk of place.Path. -/
import Derived.Test.YtjcooagchjjknaaPath1
import Derived.Test.YtjcooagchjjknaaPushAll
import Derived.Deep.RegionHeld3
namespace Go.Proofs.Ytjcooagchjjknaa
open Go Go.RowKit
set_option linter.unusedVariables false

/-- what Path says where it gives no path -/
def pathE (ls : List Lf) (who : Lab) (k : Int) : Int := if viewF ls who ≠ 0 then viewF ls who else if k < 0 ∨ (ls.length : Int) ≤ k then 5 else if seen who (lfAt ls k.toNat) = false then 7 else 0
set_option maxHeartbeats 4000000 in
theorem path_no (A : Option Addr) (n c : Nat) (ls : List Lf) (lv : Int) (pt : BitVec 32) (k : Int) (w : World) (hs : SlL w A n ls) (hn : n ≤ maxLen) (hE : pathE ls (lv, pt) k ≠ 0) :
    Calls Try.prog 21 #[.slice A n c, .agg #[.int .i64 lv, .int .u32 (W pt)], .int .i64 k] w fun e w' => e = .returned (.tuple #[.slice none 0 0, .int .i64 (pathE ls (lv, pt) k)]) ∧ Kept w w' := by
  have hka : Kept w (w.alloc (.cells #[.int .i64 lv, .int .u32 (W pt)] 25)) := (Kept.refl _).alloc _
  have bx := Box.new w #[.int .i64 lv, .int .u32 (W pt)] 25 w.heap.size rfl
  by_cases hv : viewF ls (lv, pt) = 0
  · have HV := Lib.hid hv
    by_cases hr : k < 0 ∨ (ls.length : Int) ≤ k
    · have HE := Lib.hid (show pathE ls (lv, pt) k = 5 by unfold pathE; rw [if_neg (by simp [hv]), if_pos hr])
      rw [hs.2] at hr
      clear hv hE
      by_cases hk : k < 0
      · have d0 : decide (k < 0) = true := by simpa using hk
        clear hr
        go_enter Try.func21, Try.ntmps21
        go_wp2_with fail
        refine (wrong_any A n c ls lv pt _ (hs.kept hka) hn).mono ?_
        rintro e w1 ⟨rfl, k1⟩
        rw [HV.out]
        go_wp2_with fail
        go_ret2
        exact ⟨by rw [HE.out]; rfl, hka.trans k1⟩
      · have d0 : decide (k < 0) = false := by simpa using hk
        have d1 : decide ((n : Int) ≤ k) = true := by simp; omega
        clear hr
        go_enter Try.func21, Try.ntmps21
        go_wp2_with fail
        refine (wrong_any A n c ls lv pt _ (hs.kept hka) hn).mono ?_
        rintro e w1 ⟨rfl, k1⟩
        rw [HV.out]
        go_wp2_with fail
        go_ret2
        exact ⟨by rw [HE.out]; rfl, hka.trans k1⟩
    · obtain ⟨kn, rfl⟩ := Int.eq_ofNat_of_zero_le (show 0 ≤ k by omega)
      have hkn : kn < n := by have := hs.2; omega
      cases hse : seen (lv, pt) (lfAt ls kn)
      · have HE := Lib.hid (show pathE ls (lv, pt) (kn : Int) = 7 by unfold pathE; rw [if_neg (by simp [hv]), if_neg hr, Int.toNat_natCast, if_pos hse])
        have HSE := Lib.hid (show leB (lfAt ls kn).2.2 (lv, pt) = false from hse)
        have hi1 : (0 : Int) ≤ (kn : Int) := by omega
        have hi2 : (kn : Int) < (n : Int) := by omega
        have d1 : decide (n ≤ kn) = false := by simp; omega
        clear hv hr hE hse
        go_enter Try.func21, Try.ntmps21
        go_wp2_with fail
        refine (wrong_any A n c ls lv pt _ (hs.kept hka) hn).mono ?_
        rintro e w1 ⟨rfl, k1⟩
        rw [HV.out]
        have q1 := hka.trans k1
        have b1 := bx.kept k1
        have e0 := b1.at_ 0 rfl
        have e1 := b1.at_ 1 rfl
        have z0 := kw_cell e0
        have z1 := kw_cell e1
        obtain ⟨b, off, rfl, hb, c0, c1, c2, c3⟩ := (hs.kept q1).getN kn hkn
        generalize lfAt ls kn = x at c0 c1 c2 c3 HSE
        obtain ⟨up, tx, lx, px⟩ := x
        simp only at c0 c1 c2 c3 HSE
        have z2 := kw_cell c2
        have z3 := kw_cell c3
        go_wp2_with fail
        refine wp_region_kept (by kernel_rfl) (by kernel_rfl) ?_
        repeat (go_big_quiet_step ((go_at_call 35; exact kept_of (least_is lx lv px pt false HSE.out _))))
        refine wpQuiet_nil ?_
        intro w2 k2
        go_wp2_with fail
        go_ret2
        exact ⟨by rw [HE.out]; rfl, q1.trans k2⟩
      · exact absurd (show pathE ls (lv, pt) (kn : Int) = 0 by unfold pathE; rw [if_neg (by simp [hv]), if_neg hr, Int.toNat_natCast, if_neg (by simp [hse])]) hE
  · have HE := Lib.hid (show pathE ls (lv, pt) k = viewF ls (lv, pt) by unfold pathE; rw [if_pos hv])
    have hne : (viewF ls (lv, pt) != 0) = true := by simpa using hv
    clear hv hE
    go_enter Try.func21, Try.ntmps21
    go_wp2_with fail
    refine (wrong_any A n c ls lv pt _ (hs.kept hka) hn).mono ?_
    rintro e w1 ⟨rfl, k1⟩
    go_wp2_with fail
    go_ret2
    exact ⟨by rw [HE.out]; rfl, hka.trans k1⟩
theorem place_idx {ls : List Lf} {who : Lab} {i : Nat} (hi : i < ls.length) (hs : seenI ls who i = true) {w : World} {A : Option Addr} {c : Nat} (h4 : SlI w A (belowL ls who (lfAt ls i).1).length (belowL ls who (lfAt ls i).1)) (h1000 : ls.length ≤ 1000) :
    Calls Try.prog 39 #[.slice A (belowL ls who (lfAt ls i).1).length c, .int .i64 (i : Int)] w fun e w' => e = .returned (.int .i64 ((cntI (belowP ls who (lfAt ls i).1) i : Nat) : Int)) ∧ w = w' := by
  obtain ⟨hq, h1, h2⟩ := place_at hi hs
  exact index_any A _ c _ (i : Int) _ w h4 (Nat.le_trans (belowTo_le ls who _ ls.length) h1000) hq (fun _ => h1) (fun j hj hj2 => h2 j hj hj2)
set_option maxHeartbeats 8000000 in
theorem path_yes (A : Option Addr) (n c : Nat) (ls : List Lf) (lv : Int) (pt : BitVec 32) (k0 : Nat) (w : World) (hs : SlL w A n ls) (hn : n ≤ maxLen) (hE : pathE ls (lv, pt) (k0 : Int) = 0) :
    Calls Try.prog 21 #[.slice A n c, .agg #[.int .i64 lv, .int .u32 (W pt)], .int .i64 (k0 : Int)] w fun e w' => ∃ (A' : Option Addr) (c' : Nat) (ps : List Int), e = .returned (.tuple #[.slice A' ps.length c', .int .i64 0]) ∧ SlI w' A' ps.length ps ∧ ps.length ≤ 1000 ∧ goF ls (lv, pt) (-1) ps = some (k0 : Int) ∧ Kept w w' := by
  have hv : viewF ls (lv, pt) = 0 := by
    unfold pathE at hE
    by_cases h : viewF ls (lv, pt) = 0
    · exact h
    · rw [if_pos h] at hE; exact absurd hE h
  have hr : ¬ ((k0 : Int) < 0 ∨ (ls.length : Int) ≤ (k0 : Int)) := fun h => by
    unfold pathE at hE
    rw [if_neg (by simp [hv]), if_pos h] at hE
    cases hE
  have hse : seenI ls (lv, pt) k0 = true := by
    unfold pathE at hE
    rw [if_neg (by simp [hv]), if_neg hr, Int.toNat_natCast] at hE
    cases h : seen (lv, pt) (lfAt ls k0)
    · rw [if_pos h] at hE; cases hE
    · exact h
  have hok := pageF_zero.1 (pagedB_iff.1 (viewF_iff.1 hv)).1
  have hn40 : n ≤ 40 := by rw [← hs.2]; exact hok.1
  have hk0 : k0 < n := by have := hs.2; omega
  have HV := Lib.hid hv
  have HLN := Lib.hid hs.2
  have HSE := Lib.hid (show leB (lfAt ls k0).2.2 (lv, pt) = true from hse)
  have HSE0 := Lib.hid hse
  have HOK := Lib.hid hok
  have hka : Kept w (w.alloc (.cells #[.int .i64 lv, .int .u32 (W pt)] 25)) := (Kept.refl _).alloc _
  have bx := Box.new w #[.int .i64 lv, .int .u32 (W pt)] 25 w.heap.size rfl
  have hi1 : (0 : Int) ≤ (k0 : Int) := by omega
  have hi2 : (k0 : Int) < (n : Int) := by omega
  have d1 : decide (n ≤ k0) = false := by simp; omega
  clear hv hr hE hse hok
  go_enter Try.func21, Try.ntmps21
  go_wp2_with fail
  refine (wrong_any A n c ls lv pt _ (hs.kept hka) hn).mono ?_
  rintro e w1 ⟨rfl, k1⟩
  rw [HV.out]
  have q1 := hka.trans k1
  have b1 := bx.kept k1
  have e0 := b1.at_ 0 rfl
  have e1 := b1.at_ 1 rfl
  have z0 := kw_cell e0
  have z1 := kw_cell e1
  obtain ⟨b, off, rfl, hb, c0, c1, c2, c3⟩ := (hs.kept q1).getN k0 hk0
  have hsx : ∃ x, lfAt ls k0 = x := ⟨_, rfl⟩
  obtain ⟨x, hx⟩ := hsx
  rw [hx] at c0 c1 c2 c3 HSE
  clear hx
  obtain ⟨up, tx, lx, px⟩ := x
  simp only at c0 c1 c2 c3 HSE
  have z2 := kw_cell c2
  have z3 := kw_cell c3
  generalize w.heap.size = B at b1 e0 e1 z0 z1 ⊢
  go_wp2_with fail
  refine wp_region_kept (by kernel_rfl) (by kernel_rfl) ?_
  repeat (go_big_quiet_step ((go_at_call 35; exact kept_of (least_is lx lv px pt true HSE.out _))))
  refine wpQuiet_nil ?_
  intro w2 k2
  have q2 := q1.trans k2
  have b2 := b1.kept k2
  have hs2 := hs.kept q2
  clear z0 z1 z2 z3 e0 e1 c0 c1 c2 c3 b1 bx hka k1 q1 k2 hi1 hi2 d1 hs
  go_wp2_with fail
  go_loopw [2, 9] (fun kv pv wr => ∃ (acc : List Int) (k : Int), kv = .int .i64 k ∧ -1 ≤ k ∧ k < n ∧ (0 ≤ k → seenI ls (lv, pt) k.toNat = true) ∧ Own w2 wr 3 1 pv acc.length (acc.map iv) ∧ goF ls (lv, pt) k acc.reverse = some (k0 : Int) ∧ (acc.length : Int) + k ≤ n) (fun kv _ _ => (intOf kv + 1).toNat)
  case atStart => exact ⟨[], (k0 : Int), rfl, by omega, by omega, fun _ => by rw [Int.toNat_natCast]; exact HSE0.out, Own.start (Kept.refl _), rfl, by simp; omega⟩
  case round =>
    obtain ⟨acc, k, rfl, hk1, hk2, hsk, hown, hgo, hlen⟩ := hrel
    by_cases hkz : 0 ≤ k
    · obtain ⟨kn, rfl⟩ := Int.eq_ofNat_of_zero_le hkz
      have hknl : kn < ls.length := by rw [HLN.out]; omega
      have hskn := hsk hkz
      rw [Int.toNat_natCast] at hskn
      have HSK := Lib.hid hskn
      have HGO := Lib.hid (go_up hknl hskn hgo)
      have HUA := Lib.hid (up_at HOK.out hknl hskn)
      have HIX := Lib.hid (fun (w9 : World) (A9 : Option Addr) (c9 : Nat) (h9 : SlI w9 A9 (belowL ls (lv, pt) (lfAt ls kn).1).length (belowL ls (lv, pt) (lfAt ls kn).1)) => place_idx (c := c9) hknl hskn h9 (by rw [HLN.out]; omega))
      obtain ⟨b9, o9, e9, hb9, c0, _, _, _⟩ := hs2.getN kn (by omega)
      injection e9 with e9
      injection e9 with e9 e10
      subst e9 e10
      have f0 := b2.at_ 0 rfl
      have f1 := b2.at_ 1 rfl
      have hf0 : (#[Value.int .i64 lv, .int .u32 (W pt)] : Array Value)[0] = .int .i64 lv := rfl
      have hf1 : (#[Value.int .i64 lv, .int .u32 (W pt)] : Array Value)[1] = .int .u32 (W pt) := rfl
      rw [hf0] at f0
      rw [hf1] at f1
      clear hf0 hf1 hgo hsk hskn
      generalize hup : (lfAt ls kn).1 = up at c0 HGO HUA HIX
      generalize cntI (belowP ls (lv, pt) up) kn = ix at HGO HIX
      obtain ⟨A9, c9, rfl, _, _⟩ := hown.form
      have HSW := Lib.hid (fun w' (k : Kept w2 w') => show w'.cell? ⟨B, 0, none⟩ = some (.int .i64 lv) ∧ w'.cell? ⟨B, 1, none⟩ = some (.int .u32 (W pt)) ∧ w'.cell? ⟨b, off + kn * 4, none⟩ = some (.int .i64 up) ∧ Kept w2 w' from
        ⟨(k.cell (cell_lt f0)).trans f0, (k.cell (cell_lt f1)).trans f1, (k.cell (cell_lt c0)).trans c0, k⟩)
      have HSL := Lib.hid (hs2.kept hown.kept0)
      have HOWN := Lib.hid hown
      have HKW := Lib.hid hown.kept0
      have hi1 : (0 : Int) ≤ (kn : Int) := by omega
      have hi2 : (kn : Int) < (n : Int) := by omega
      have hacc : acc.length + 1 ≤ 1000 := by omega
      go_wp2_with fail
      go_region_held3 (fun w' => w'.cell? ⟨B, 0, none⟩ = some (.int .i64 lv) ∧ w'.cell? ⟨B, 1, none⟩ = some (.int .u32 (W pt)) ∧ w'.cell? ⟨b, off + kn * 4, none⟩ = some (.int .i64 up) ∧ Kept w2 w')
        ((refine HSW.out _ ?_; repeat first | exact HKW.out | exact K24.out | exact H8.out.kept0 | refine Kept.alloc ?_ _ | refine Kept.drew ?_))
        ((first
          | (go_at_call 40
             refine (below_any (some ⟨b, off, none⟩) n c ls lv pt up _ (HSL.out.kept (by repeat first | exact Kept.refl _ | refine Kept.alloc ?_ _ | refine Kept.drew ?_)) (by omega)).mono ?_
             rintro e w4 ⟨A4, c4, rfl, h4, k4⟩
             have K4 := Lib.hid (Kept.trans (show Kept wr _ by repeat first | exact Kept.refl _ | refine Kept.alloc ?_ _ | refine Kept.drew ?_) k4)
             have K24 := Lib.hid (HKW.out.trans K4.out)
             have H4 := Lib.hid h4
             clear h4 k4)
          | (go_at_call 39
             refine (HIX.out _ A4 c4 H4.out).mono ?_
             rintro e w5 ⟨rfl, rfl⟩)
          | (refine step_pushAll (by rfl) _ _ 34 (by rfl) (.slice A9 acc.length c9) (by rfl) _ 1 1 (by rfl) 3 Try.underlying34 info_i64 rfl (by decide) (by decide) _ acc.length (acc.map iv) (by first | exact (HOWN.out.kept K4.out).alloc _ | exact (HOWN.out.kept K4.out).drew.alloc _ | exact ((HOWN.out.kept K4.out).alloc _).drew) [.int .i64 (ix : Int)] (by first | exact Sl.new _ #[.int .i64 (ix : Int)] 3 1 1 rfl) (one_i64 _) (acc.length + 1) (by omega) (by omega) ?_
             intro v8 w8 hown8 hgr8
             have H8 := Lib.hid hown8
             clear hown8)))
      all_goals
        rename_i hHeld
        obtain ⟨_, _, hc8, _⟩ := hHeld
        have hua := HUA.out
        obtain ⟨hat, hult⟩ := hua
        obtain ⟨hb1, hb2⟩ := up_bounds hat
        have HSK2 := Lib.hid (show 0 ≤ up → seenI ls (lv, pt) up.toNat = true from fun h9 => by
          rcases hat with h | ⟨i9, _, h8, h7⟩
          · omega
          · rw [h8, Int.toNat_natCast]; exact h7)
        have H9 := Lib.hid (show Own w2 w8 3 1 v8 (acc ++ [(ix : Int)]).length ((acc ++ [(ix : Int)]).map iv) by
          rw [List.length_append, List.map_append]
          exact H8.out)
        clear hat f0 f1 c0 hown
        go_wp2_with fail
        go_roundw
        case rel => exact ⟨acc ++ [(ix : Int)], up, rfl, by omega, by omega, HSK2.out, H9.out, by rw [List.reverse_append]; exact HGO.out, by rw [List.length_append]; show ((acc.length + 1 : Nat) : Int) + up ≤ n; omega⟩
        case measure => simp [intOf]; omega
    · have hkm : k = -1 := by omega
      subst hkm
      obtain ⟨A9, c9, rfl, _, _⟩ := hown.form
      have hal : acc.length ≤ 1000 := by omega
      have HGO := Lib.hid hgo
      have HREV := Lib.hid (reverse_any A9 acc.length c9 acc wr hown rfl hal)
      clear hgo hown
      go_wp2_with fail
      refine HREV.out.mono ?_
      rintro e w5 ⟨rfl, h5⟩
      have hsl := Sl.of_own h5.1
      have q5 := q2.trans h5.2
      have FIN := Lib.hid (show ∃ (A' : Option Addr) (c' : Nat) (ps : List Int), Ending.returned (.tuple #[.slice A9 acc.length c9, .int .i64 0]) = .returned (.tuple #[.slice A' ps.length c', .int .i64 0]) ∧ SlI w5 A' ps.length ps ∧ ps.length ≤ 1000 ∧ goF ls (lv, pt) (-1) ps = some (k0 : Int) ∧ Kept w w5 from
        ⟨A9, c9, acc.reverse, by rw [List.length_reverse], by rw [List.length_reverse]; exact ⟨hsl, List.length_reverse⟩, by rw [List.length_reverse]; exact hal, HGO.out, q5⟩)
      clear h5 hsl HREV
      go_wp2_with fail
      go_ret2
      exact FIN.out
end Go.Proofs.Ytjcooagchjjknaa
