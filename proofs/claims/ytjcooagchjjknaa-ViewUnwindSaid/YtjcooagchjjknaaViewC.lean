/- slices.Grow on nil and slices.Concat of many, at []int and at int. (Printed by genviewc.py.) -/
import Derived.Test.YtjcooagchjjknaaPushAll
import Derived.Test.YtjcooagchjjknaaSeat
import Derived.Test.YtjcooagchjjknaaQuiet
import Derived.Lib.AppendZeros
import Derived.WalkLawsBesides
import Derived.WalkSpells
namespace Go.Proofs.Ytjcooagchjjknaa
open Go Go.RowKit
set_option linter.unusedVariables false

/-- a row of one-cell values: its place, its length, its room, its values -/
abbrev Rx := Option Addr × Nat × Nat × List Value
def rxv (r : Rx) : Value := .slice r.1 r.2.1 r.2.2.1
def RxOk (w : World) (r : Rx) : Prop := Sl w 1 r.1 r.2.1 r.2.2.2 ∧ ∀ u ∈ r.2.2.2, u.oneCell' = true
theorem RxOk.kept {w w' : World} {r : Rx} (h : RxOk w r) (k : Kept w w') : RxOk w' r := ⟨h.1.kept k, h.2⟩
def totR (rs : List Rx) : Nat := (rs.map fun r => r.2.1).sum
def catR (rs : List Rx) : List Value := rs.flatMap fun r => r.2.2.2
theorem totR_take (rs : List Rx) (k : Nat) (hk : k < rs.length) : totR (rs.take (k + 1)) = totR (rs.take k) + rs[k].2.1 := by
  unfold totR
  rw [List.take_succ_eq_append_getElem hk, List.map_append, List.sum_append]
  simp
theorem catR_take (rs : List Rx) (k : Nat) (hk : k < rs.length) : catR (rs.take (k + 1)) = catR (rs.take k) ++ rs[k].2.2.2 := by
  unfold catR
  rw [List.take_succ_eq_append_getElem hk, List.flatMap_append]
  simp
theorem totR_le (rs : List Rx) (k : Nat) : totR (rs.take k) ≤ totR rs := by
  have h : totR rs = totR (rs.take k) + totR (rs.drop k) := by
    unfold totR
    rw [← List.sum_append, ← List.map_append, List.take_append_drop]
  omega
theorem own_sl1 {w0 w : World} {E : TypeId} {s n c : Nat} {A : Option Addr} {xs : List Value} (h : Own w0 w E s (.slice A n c) n xs) : Sl w s A n xs := by
  obtain ⟨A2, c2, e, hsl, _⟩ := h.form
  injection e with e
  subst e
  exact hsl
/-- a row of zeros that was just made, read as an empty one with room -/
theorem own_roomV (w : World) (e : TypeId) (z : Array Value) (s n cap : Nat) (hz : z.size = s) (hn : n ≤ cap) (hc : cap ≤ maxLen) :
    Own w (w.drew.alloc (.cells (Builtin.zeroCells z n ++ Builtin.zeroCells z (cap - n)) e)) e s (.slice (some ⟨w.heap.size, 0, none⟩) 0 cap) 0 [] := by
  refine ⟨⟨by simp, .inr ⟨w.heap.size, cap, Builtin.zeroCells z n ++ Builtin.zeroCells z (cap - n), rfl, Nat.le_refl _, heap_alloc_new w.drew _, Nat.zero_le _, hc, ?_, by simp⟩⟩, ((Kept.refl w).drew).alloc _⟩
  rw [Array.size_append, size_zeroCells, size_zeroCells, hz, ← Nat.add_mul]
  congr 1
  omega

theorem info_rows : (Try.prog.info? 34).map (fun i => (i.zero, i.size, i.bytes)) = some (some (.slice none 0 0), 1, 24) := by kernel_rfl
set_option maxHeartbeats 800000 in
theorem grow_rows (n : Nat) (w : World) (h0 : 0 < n) (hn : n ≤ 1000) :
    Calls Try.prog 64 #[.slice none 0 0, .int .i64 n] w fun e w' => ∃ A c, e = .returned (.slice A 0 c) ∧ Own w w' 34 1 (.slice A 0 c) 0 [] := by
  obtain ⟨i, hi0, hz, hsize, hby⟩ := info_parts (info_rows)
  have hrun := Lib.run_append_nil_zeros (P := Try.prog) w 61 3 61 34 i (.slice none 0 0) .i64 .i64 Try.underlying61 Try.underlying3 hi0 hz n h0 (by omega) (by omega) (by rw [hby]; omega)
  have d0 : decide ((n : Int) < 0) = false := by simp
  have d1 : decide (0 < (n : Int)) = true := by simp; omega
  have d2 : decide (0 < n) = true := by simp; omega
  have hcap := grownCap_ge w n 0 34
  have hcap2 := grownCap_le_maxLen w n 0 34 (by unfold maxLen; omega)
  have HO := Lib.hid (own_roomV w 34 #[.slice none 0 0] 1 n (grownCap w n 0 34) rfl hcap hcap2)
  generalize grownCap w n 0 34 = cap at hrun hcap hcap2 HO
  have hc0 : (0 : Int) ≤ (cap : Int) := by omega
  go_enter Try.func64, Try.ntmps64
  go_wp2_with (at_builtin; refine Lib.wpList_append_run _ rfl _ _ _ _ rfl _ _ rfl rfl _ _ hrun ?_)
  go_ret
  exact ⟨_, cap, rfl, HO.out⟩
set_option maxHeartbeats 2000000 in
theorem concat_rows (B off N c0 : Nat) (rs : List Rx) (w : World) (hB : B < w.heap.size) (hl : rs.length = N) (hc : ∀ k (hk : k < rs.length), w.cell? ⟨B, off + k, none⟩ = some (rxv rs[k])) (hr : ∀ r ∈ rs, RxOk w r) (hN : N ≤ 1000) (hpos : 0 < totR rs) (hle : totR rs ≤ 1000) :
    Calls Try.prog 57 #[.slice (some ⟨B, off, none⟩) N c0] w fun e w' => ∃ A c, e = .returned (.slice A (totR rs) c) ∧ Own w w' 34 1 (.slice A (totR rs) c) (totR rs) (catR rs) := by
  have HG := Lib.hid (grow_rows (totR rs) w hpos hle)
  have HT := Lib.hid (totR_le rs)
  have HS := Lib.hid (totR_take rs)
  have HC := Lib.hid (catR_take rs)
  have HX := Lib.hid hc
  have HR := Lib.hid hr
  have HL := Lib.hid hle
  obtain ⟨T, hT⟩ : ∃ T, totR rs = T := ⟨_, rfl⟩
  have HTT := Lib.hid hT
  have hT1 : T ≤ 1000 := by omega
  rw [hT] at HG
  clear hc hr hpos hle hT
  go_enter Try.func57, Try.ntmps57
  go_wp2_with fail
  go_loop [3, 11] (fun s t => ∃ k : Nat, k ≤ N ∧ t = .int .i64 (k : Nat) ∧ s = .int .i64 ((totR (rs.take k) : Nat) : Int)) (fun _ t => N - (intOf t).toNat)
  case atStart => exact ⟨0, Nat.zero_le _, rfl, rfl⟩
  case round =>
    obtain ⟨k, hk, rfl, rfl⟩ := hrel
    by_cases hlt : k < N
    · have hkl : k < rs.length := by omega
      have cq := HX.out k hkl
      unfold rxv at cq
      have e1 := HS.out k hkl
      have e2 := HT.out (k + 1)
      have HE := Lib.hid e1
      have e3 := HL.out
      generalize rs[k].1 = ra at cq
      generalize rs[k].2.2.1 = rc at cq
      generalize rs[k].2.1 = rl at cq e1 HE
      generalize hq : totR (rs.take (k + 1)) = t1 at e1 e2 HE
      have HQ := Lib.hid hq
      have ht1 : t1 ≤ 1000 := by omega
      clear hq
      generalize totR (rs.take k) = t0 at e1 HE ⊢
      have z1 : (t0 : Int) + (rl : Int) = (t1 : Int) := by omega
      have z2 : decide ((t1 : Int) < 0) = false := by simp
      clear e1 e2 e3
      go_wp2_with fail
      go_round
      case rel => exact ⟨k + 1, by omega, by go_num, by rw [HQ.out]⟩
      case measure => simp [intOf]; omega
    · have he : totR (rs.take k) = T := by rw [List.take_of_length_le (by omega)]; exact HTT.out
      rw [he]
      clear he
      go_wp2_with fail
      refine HG.out.mono ?_
      rintro e w2 ⟨A, c, rfl, hown⟩
      go_wp2_with fail
      go_loopw [6, 27] (fun v t wr => ∃ k : Nat, k ≤ N ∧ t = .int .i64 (k : Nat) ∧ Own w wr 34 1 v (totR (rs.take k)) (catR (rs.take k))) (fun _ t _ => N - (intOf t).toNat)
      case atStart => exact ⟨0, Nat.zero_le _, rfl, hown⟩
      case round =>
        clear hown
        obtain ⟨k, hk, rfl, hown⟩ := hrel
        by_cases hlt : k < N
        · have hkl : k < rs.length := by omega
          have cq := (hown.kept0.cell (p := ⟨B, off + k, none⟩) hB).trans (HX.out k hkl)
          unfold rxv at cq
          have HO := Lib.hid hown
          have hro := HR.out _ (List.getElem_mem hkl)
          have HRX := Lib.hid (hro.kept hown.kept0)
          have HE := Lib.hid (HS.out k hkl)
          have HE2 := Lib.hid (HC.out k hkl)
          have HE3 := Lib.hid (HT.out (k + 1))
          have HSL := Lib.hid HRX.out.1
          have HON := Lib.hid HRX.out.2
          obtain ⟨A3, c3, rfl, _, _⟩ := hown.form
          clear hown hro HRX
          generalize rs[k].2.2.2 = rx at HSL HE2 HON
          generalize rs[k].1 = ra at cq HSL
          generalize rs[k].2.2.1 = rc at cq
          generalize rs[k].2.1 = rl at cq HE HSL
          go_wp2_with (at_builtin; refine wpList_pushAll rfl _ _ 61 rfl 34 Try.underlying61 info_rows rfl (by decide) (by decide) _ _ _ _ HO.out _ _ _ _ HSL.out rfl rfl HON.out (totR (rs.take (k + 1))) (by rw [HE.out]) (by have := HE3.out; have := HL.out; omega) ?_; intro v7 w7 hown7)
          go_roundw
          case rel => exact ⟨k + 1, by omega, by go_num, by rw [HE2.out]; exact hown7⟩
          case measure => simp [intOf]; omega
        · have he : rs.take k = rs := List.take_of_length_le (by omega)
          rw [he, HTT.out] at hown
          obtain ⟨A3, c3, rfl, _, _⟩ := hown.form
          have HO := Lib.hid hown
          clear hown he
          go_wp2_with fail
          go_ret
          exact ⟨A3, c3, by rw [HTT.out]; rfl, by rw [HTT.out]; exact HO.out⟩

theorem info_ints : (Try.prog.info? 3).map (fun i => (i.zero, i.size, i.bytes)) = some (some (.int .i64 0), 1, 8) := by kernel_rfl
set_option maxHeartbeats 800000 in
theorem grow_ints (n : Nat) (w : World) (h0 : 0 < n) (hn : n ≤ 1000) :
    Calls Try.prog 63 #[.slice none 0 0, .int .i64 n] w fun e w' => ∃ A c, e = .returned (.slice A 0 c) ∧ Own w w' 3 1 (.slice A 0 c) 0 [] := by
  obtain ⟨i, hi0, hz, hsize, hby⟩ := info_parts (info_ints)
  have hrun := Lib.run_append_nil_zeros (P := Try.prog) w 34 3 34 3 i (.int .i64 0) .i64 .i64 Try.underlying34 Try.underlying3 hi0 hz n h0 (by omega) (by omega) (by rw [hby]; omega)
  have d0 : decide ((n : Int) < 0) = false := by simp
  have d1 : decide (0 < (n : Int)) = true := by simp; omega
  have d2 : decide (0 < n) = true := by simp; omega
  have hcap := grownCap_ge w n 0 3
  have hcap2 := grownCap_le_maxLen w n 0 3 (by unfold maxLen; omega)
  have HO := Lib.hid (own_roomV w 3 #[.int .i64 0] 1 n (grownCap w n 0 3) rfl hcap hcap2)
  generalize grownCap w n 0 3 = cap at hrun hcap hcap2 HO
  have hc0 : (0 : Int) ≤ (cap : Int) := by omega
  go_enter Try.func63, Try.ntmps63
  go_wp2_with (at_builtin; refine Lib.wpList_append_run _ rfl _ _ _ _ rfl _ _ rfl rfl _ _ hrun ?_)
  go_ret
  exact ⟨_, cap, rfl, HO.out⟩
set_option maxHeartbeats 2000000 in
theorem concat_ints (B off N c0 : Nat) (rs : List Rx) (w : World) (hB : B < w.heap.size) (hl : rs.length = N) (hc : ∀ k (hk : k < rs.length), w.cell? ⟨B, off + k, none⟩ = some (rxv rs[k])) (hr : ∀ r ∈ rs, RxOk w r) (hN : N ≤ 1000) (hpos : 0 < totR rs) (hle : totR rs ≤ 1000) :
    Calls Try.prog 56 #[.slice (some ⟨B, off, none⟩) N c0] w fun e w' => ∃ A c, e = .returned (.slice A (totR rs) c) ∧ Own w w' 3 1 (.slice A (totR rs) c) (totR rs) (catR rs) := by
  have HG := Lib.hid (grow_ints (totR rs) w hpos hle)
  have HT := Lib.hid (totR_le rs)
  have HS := Lib.hid (totR_take rs)
  have HC := Lib.hid (catR_take rs)
  have HX := Lib.hid hc
  have HR := Lib.hid hr
  have HL := Lib.hid hle
  obtain ⟨T, hT⟩ : ∃ T, totR rs = T := ⟨_, rfl⟩
  have HTT := Lib.hid hT
  have hT1 : T ≤ 1000 := by omega
  rw [hT] at HG
  clear hc hr hpos hle hT
  go_enter Try.func56, Try.ntmps56
  go_wp2_with fail
  go_loop [3, 11] (fun s t => ∃ k : Nat, k ≤ N ∧ t = .int .i64 (k : Nat) ∧ s = .int .i64 ((totR (rs.take k) : Nat) : Int)) (fun _ t => N - (intOf t).toNat)
  case atStart => exact ⟨0, Nat.zero_le _, rfl, rfl⟩
  case round =>
    obtain ⟨k, hk, rfl, rfl⟩ := hrel
    by_cases hlt : k < N
    · have hkl : k < rs.length := by omega
      have cq := HX.out k hkl
      unfold rxv at cq
      have e1 := HS.out k hkl
      have e2 := HT.out (k + 1)
      have HE := Lib.hid e1
      have e3 := HL.out
      generalize rs[k].1 = ra at cq
      generalize rs[k].2.2.1 = rc at cq
      generalize rs[k].2.1 = rl at cq e1 HE
      generalize hq : totR (rs.take (k + 1)) = t1 at e1 e2 HE
      have HQ := Lib.hid hq
      have ht1 : t1 ≤ 1000 := by omega
      clear hq
      generalize totR (rs.take k) = t0 at e1 HE ⊢
      have z1 : (t0 : Int) + (rl : Int) = (t1 : Int) := by omega
      have z2 : decide ((t1 : Int) < 0) = false := by simp
      clear e1 e2 e3
      go_wp2_with fail
      go_round
      case rel => exact ⟨k + 1, by omega, by go_num, by rw [HQ.out]⟩
      case measure => simp [intOf]; omega
    · have he : totR (rs.take k) = T := by rw [List.take_of_length_le (by omega)]; exact HTT.out
      rw [he]
      clear he
      go_wp2_with fail
      refine HG.out.mono ?_
      rintro e w2 ⟨A, c, rfl, hown⟩
      go_wp2_with fail
      go_loopw [6, 27] (fun v t wr => ∃ k : Nat, k ≤ N ∧ t = .int .i64 (k : Nat) ∧ Own w wr 3 1 v (totR (rs.take k)) (catR (rs.take k))) (fun _ t _ => N - (intOf t).toNat)
      case atStart => exact ⟨0, Nat.zero_le _, rfl, hown⟩
      case round =>
        clear hown
        obtain ⟨k, hk, rfl, hown⟩ := hrel
        by_cases hlt : k < N
        · have hkl : k < rs.length := by omega
          have cq := (hown.kept0.cell (p := ⟨B, off + k, none⟩) hB).trans (HX.out k hkl)
          unfold rxv at cq
          have HO := Lib.hid hown
          have hro := HR.out _ (List.getElem_mem hkl)
          have HRX := Lib.hid (hro.kept hown.kept0)
          have HE := Lib.hid (HS.out k hkl)
          have HE2 := Lib.hid (HC.out k hkl)
          have HE3 := Lib.hid (HT.out (k + 1))
          have HSL := Lib.hid HRX.out.1
          have HON := Lib.hid HRX.out.2
          obtain ⟨A3, c3, rfl, _, _⟩ := hown.form
          clear hown hro HRX
          generalize rs[k].2.2.2 = rx at HSL HE2 HON
          generalize rs[k].1 = ra at cq HSL
          generalize rs[k].2.2.1 = rc at cq
          generalize rs[k].2.1 = rl at cq HE HSL
          go_wp2_with (at_builtin; refine wpList_pushAll rfl _ _ 34 rfl 3 Try.underlying34 info_ints rfl (by decide) (by decide) _ _ _ _ HO.out _ _ _ _ HSL.out rfl rfl HON.out (totR (rs.take (k + 1))) (by rw [HE.out]) (by have := HE3.out; have := HL.out; omega) ?_; intro v7 w7 hown7)
          go_roundw
          case rel => exact ⟨k + 1, by omega, by go_num, by rw [HE2.out]; exact hown7⟩
          case measure => simp [intOf]; omega
        · have he : rs.take k = rs := List.take_of_length_le (by omega)
          rw [he, HTT.out] at hown
          obtain ⟨A3, c3, rfl, _, _⟩ := hown.form
          have HO := Lib.hid hown
          clear hown he
          go_wp2_with fail
          go_ret
          exact ⟨A3, c3, by rw [HTT.out]; rfl, by rw [HTT.out]; exact HO.out⟩
end Go.Proofs.Ytjcooagchjjknaa
