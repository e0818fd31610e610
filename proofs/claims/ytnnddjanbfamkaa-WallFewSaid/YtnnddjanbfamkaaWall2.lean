/- The walks of package wall: the two tests of a deed, and any with each. -/
import Derived.Test.YtnnddjanbfamkaaWall1
namespace Go.Proofs.Ytnnddjanbfamkaa
open Go Go.RowKit
set_option linter.unusedVariables false

theorem anyF_hit {firm : List Int} {r : BitVec 32} {so : Int → Bool} {q k : Nat} (hq : q < k) (h1 : r.getLsbD q = true) (h2 : 0 ≤ frm firm q) (h3 : so (frm firm q) = true) : anyF firm r so k = true := by
  unfold anyF
  rw [List.any_eq_true]
  exact ⟨q, List.mem_range.2 hq, by simp [h1, h2, h3]⟩
theorem frm_eq {firm : List Int} {k : Nat} (h : k < firm.length) : frm firm k = firm[k] := by
  unfold frm
  rw [List.getD_eq_getElem?_getD, List.getElem?_eq_getElem h]
  rfl
theorem cls_eq {clss : List Int} {k : Nat} (h : k < clss.length) : cls clss (k : Int) = clss[k] := by
  unfold cls
  rw [Int.toNat_natCast, List.getD_eq_getElem?_getD, List.getElem?_eq_getElem h]
  rfl
theorem other_any (p : Addr) (own f : Int) (w : World) (hp : w.cell? p = some (.int .i64 own)) :
    Calls Try.prog 70 #[.int .i64 f, .pointer (some p)] w fun e w' => e = .returned (.bool (otherF own f)) ∧ Kept w w' := by
  go_enter Try.func70, Try.ntmps70
  go_wp2
  go_ret
  exact ⟨rfl, Kept.refl _⟩
set_option maxHeartbeats 800000 in
theorem odds_any (p p2 : Addr) (S : Nat) (A2 : Option Addr) (m c2 : Nat) (clss : List Int) (own f : Nat) (w : World) (hp : w.cell? p = some (.int .i64 own)) (hp2 : w.cell? p2 = some (.pointer (some ⟨S, 0, none⟩))) (h1 : w.cell? ⟨S, 1, none⟩ = some (.slice A2 m c2)) (hc : SlI w A2 m clss) (ho : own < m) (hf : f < m) :
    Calls Try.prog 69 #[.int .i64 f, .pointer (some p), .pointer (some p2)] w fun e w' => e = .returned (.bool (oddsF clss own f)) ∧ Kept w w' := by
  obtain ⟨b, off, hk, rfl, _, c1⟩ := hc.get f hf
  obtain ⟨b', off', hk2, e, _, c2'⟩ := hc.get own ho
  cases e
  have HO := Lib.hid (show oddsF clss own f = (((f : Int) != (own : Int)) && (clss[f] == clss[own])) by unfold oddsF; rw [cls_eq hk, cls_eq hk2])
  generalize clss[f] = x at c1 HO
  generalize clss[own] = y at c2' HO
  have hi1 : (0 : Int) ≤ (f : Int) := by omega
  have hi2 : (f : Int) < (m : Int) := by omega
  have hi3 : (0 : Int) ≤ (own : Int) := by omega
  have hi4 : (own : Int) < (m : Int) := by omega
  cases hne : ((f : Int) != (own : Int))
  · have HN := Lib.hid hne
    go_enter Try.func69, Try.ntmps69
    go_wp2_with fail
    go_quiet (fail)
    go_wp2_with fail
    go_ret
    exact ⟨by rw [HO.out, HN.out]; rfl, (Kept.refl _).drewN nq⟩
  · have HN := Lib.hid hne
    go_enter Try.func69, Try.ntmps69
    go_wp2_with fail
    go_quiet (fail)
    go_wp2_with fail
    go_ret
    exact ⟨by rw [HO.out, HN.out]; rfl, (Kept.refl _).drewN nq⟩
set_option maxHeartbeats 800000 in
theorem anyOdds_any (p p2 : Addr) (so : Int → Bool) (S R : Nat) (A : Option Addr) (len c who cw : Nat) (firm : List Int) (i : Nat) (x : BitVec 32) (w : World) (h0 : w.cell? ⟨S, 0, none⟩ = some (.slice A len c)) (h2 : w.cell? ⟨S, 2, none⟩ = some (.slice (some ⟨R, 0, none⟩) who cw)) (hx : w.cell? ⟨R, i, none⟩ = some (.int .u32 (W x))) (hi : i < who) (hs : SlI w A len firm) (hl : len ≤ 8)
    (HC : ∀ (f : Int) (w' : World), Kept w w' → 0 ≤ f → f ∈ firm → Calls Try.prog 69 #[.int .i64 f, .pointer (some p), .pointer (some p2)] w' fun e w'' => e = .returned (.bool (so f)) ∧ Kept w' w'') :
    Calls Try.prog 68 #[.pointer (some ⟨S, 0, none⟩), .int .i64 i, .func (.func 69) #[] #[.pointer (some p), .pointer (some p2)]] w fun e w' => e = .returned (.bool (anyF firm x so len)) ∧ Kept w w' := by
  have HCC := Lib.hid HC
  have HL := Lib.hid hs.2
  have hS : S < w.heap.size := cell_lt h0
  have hR : R < w.heap.size := cell_lt hx
  have hi1 : (0 : Int) ≤ (i : Int) := by omega
  have hi2 : (i : Int) < (who : Int) := by omega
  clear HC
  go_enter Try.func68, Try.ntmps68
  go_wp2_with fail
  go_loopw [14] (fun t wr => ∃ q : Nat, q ≤ len ∧ t = .int .i64 q ∧ Kept w wr ∧ Hid (anyF firm x so q = false)) (fun t _ => len - (intOf t).toNat)
  case atStart => exact ⟨0, Nat.zero_le _, rfl, Kept.refl _, Lib.hid rfl⟩
  case round =>
    obtain ⟨q, hq, rfl, kw, HNO⟩ := hrel
    by_cases hlt : q < len
    · obtain ⟨b, off, hk, rfl, hb, cq⟩ := (hs.kept kw).get q hlt
      have HFE := Lib.hid (frm_eq hk)
      have HSU := Lib.hid (anyF_succ firm x so q)
      have HHIT := Lib.hid (fun h1 h2 h3 => anyF_hit (firm := firm) (r := x) (so := so) hlt h1 h2 h3)
      rw [HFE.out] at HSU HHIT
      have HCF := Lib.hid (fun (w' : World) (kk : Kept w w') (hf : 0 ≤ firm[q]'hk) => HCC.out (firm[q]'hk) w' kk hf (List.getElem_mem hk))
      generalize firm[q] = f at cq HSU HHIT HCF
      have g2 := (kw.cell (p := ⟨S, 2, none⟩) hS).trans h2
      have gx := (kw.cell (p := ⟨R, i, none⟩) hR).trans hx
      have hq1 : (0 : Int) ≤ (q : Int) := by omega
      have hq2 : (q : Int) < (len : Int) := by omega
      cases hb1 : x.getLsbD q
      · have HB := Lib.hid hb1
        go_wp2_with fail
        go_roundw
        case rel => exact ⟨q + 1, by omega, by go_num, kw, Lib.hid (by rw [HSU.out, HNO.out, HB.out]; rfl)⟩
        case measure => simp [intOf]; omega
      · have HB := Lib.hid hb1
        cases hb2 : decide (0 ≤ f)
        · have HB2 := Lib.hid hb2
          go_wp2_with fail
          go_roundw
          case rel => exact ⟨q + 1, by omega, by go_num, kw, Lib.hid (by rw [HSU.out, HNO.out, HB.out, HB2.out]; rfl)⟩
          case measure => simp [intOf]; omega
        · have HB2 := Lib.hid hb2
          have HF0 := Lib.hid (show 0 ≤ f by simpa using hb2)
          cases hb3 : so f
          · have HB3 := Lib.hid hb3
            go_wp2_with fail
            refine (HCF.out _ kw HF0.out).mono ?_
            rintro e w2 ⟨rfl, k2⟩
            rw [HB3.out]
            go_wp2_with fail
            go_roundw
            case rel => exact ⟨q + 1, by omega, by go_num, kw.trans k2, Lib.hid (by rw [HSU.out, HNO.out, HB.out, HB2.out, HB3.out]; rfl)⟩
            case measure => simp [intOf]; omega
          · have HB3 := Lib.hid hb3
            go_wp2_with fail
            refine (HCF.out _ kw HF0.out).mono ?_
            rintro e w2 ⟨rfl, k2⟩
            rw [HB3.out]
            go_wp2_with fail
            go_ret
            exact ⟨by rw [HHIT.out HB.out HF0.out HB3.out]; rfl, kw.trans k2⟩
    · obtain rfl : q = len := by omega
      go_wp2_with fail
      go_ret
      exact ⟨by rw [HNO.out]; rfl, kw⟩
set_option maxHeartbeats 800000 in
theorem anyOther_any (p : Addr) (so : Int → Bool) (S R : Nat) (A : Option Addr) (len c who cw : Nat) (firm : List Int) (i : Nat) (x : BitVec 32) (w : World) (h0 : w.cell? ⟨S, 0, none⟩ = some (.slice A len c)) (h2 : w.cell? ⟨S, 2, none⟩ = some (.slice (some ⟨R, 0, none⟩) who cw)) (hx : w.cell? ⟨R, i, none⟩ = some (.int .u32 (W x))) (hi : i < who) (hs : SlI w A len firm) (hl : len ≤ 8)
    (HC : ∀ (f : Int) (w' : World), Kept w w' → 0 ≤ f → f ∈ firm → Calls Try.prog 70 #[.int .i64 f, .pointer (some p)] w' fun e w'' => e = .returned (.bool (so f)) ∧ Kept w' w'') :
    Calls Try.prog 68 #[.pointer (some ⟨S, 0, none⟩), .int .i64 i, .func (.func 70) #[] #[.pointer (some p)]] w fun e w' => e = .returned (.bool (anyF firm x so len)) ∧ Kept w w' := by
  have HCC := Lib.hid HC
  have HL := Lib.hid hs.2
  have hS : S < w.heap.size := cell_lt h0
  have hR : R < w.heap.size := cell_lt hx
  have hi1 : (0 : Int) ≤ (i : Int) := by omega
  have hi2 : (i : Int) < (who : Int) := by omega
  clear HC
  go_enter Try.func68, Try.ntmps68
  go_wp2_with fail
  go_loopw [14] (fun t wr => ∃ q : Nat, q ≤ len ∧ t = .int .i64 q ∧ Kept w wr ∧ Hid (anyF firm x so q = false)) (fun t _ => len - (intOf t).toNat)
  case atStart => exact ⟨0, Nat.zero_le _, rfl, Kept.refl _, Lib.hid rfl⟩
  case round =>
    obtain ⟨q, hq, rfl, kw, HNO⟩ := hrel
    by_cases hlt : q < len
    · obtain ⟨b, off, hk, rfl, hb, cq⟩ := (hs.kept kw).get q hlt
      have HFE := Lib.hid (frm_eq hk)
      have HSU := Lib.hid (anyF_succ firm x so q)
      have HHIT := Lib.hid (fun h1 h2 h3 => anyF_hit (firm := firm) (r := x) (so := so) hlt h1 h2 h3)
      rw [HFE.out] at HSU HHIT
      have HCF := Lib.hid (fun (w' : World) (kk : Kept w w') (hf : 0 ≤ firm[q]'hk) => HCC.out (firm[q]'hk) w' kk hf (List.getElem_mem hk))
      generalize firm[q] = f at cq HSU HHIT HCF
      have g2 := (kw.cell (p := ⟨S, 2, none⟩) hS).trans h2
      have gx := (kw.cell (p := ⟨R, i, none⟩) hR).trans hx
      have hq1 : (0 : Int) ≤ (q : Int) := by omega
      have hq2 : (q : Int) < (len : Int) := by omega
      cases hb1 : x.getLsbD q
      · have HB := Lib.hid hb1
        go_wp2_with fail
        go_roundw
        case rel => exact ⟨q + 1, by omega, by go_num, kw, Lib.hid (by rw [HSU.out, HNO.out, HB.out]; rfl)⟩
        case measure => simp [intOf]; omega
      · have HB := Lib.hid hb1
        cases hb2 : decide (0 ≤ f)
        · have HB2 := Lib.hid hb2
          go_wp2_with fail
          go_roundw
          case rel => exact ⟨q + 1, by omega, by go_num, kw, Lib.hid (by rw [HSU.out, HNO.out, HB.out, HB2.out]; rfl)⟩
          case measure => simp [intOf]; omega
        · have HB2 := Lib.hid hb2
          have HF0 := Lib.hid (show 0 ≤ f by simpa using hb2)
          cases hb3 : so f
          · have HB3 := Lib.hid hb3
            go_wp2_with fail
            refine (HCF.out _ kw HF0.out).mono ?_
            rintro e w2 ⟨rfl, k2⟩
            rw [HB3.out]
            go_wp2_with fail
            go_roundw
            case rel => exact ⟨q + 1, by omega, by go_num, kw.trans k2, Lib.hid (by rw [HSU.out, HNO.out, HB.out, HB2.out, HB3.out]; rfl)⟩
            case measure => simp [intOf]; omega
          · have HB3 := Lib.hid hb3
            go_wp2_with fail
            refine (HCF.out _ kw HF0.out).mono ?_
            rintro e w2 ⟨rfl, k2⟩
            rw [HB3.out]
            go_wp2_with fail
            go_ret
            exact ⟨by rw [HHIT.out HB.out HF0.out HB3.out]; rfl, kw.trans k2⟩
    · obtain rfl : q = len := by omega
      go_wp2_with fail
      go_ret
      exact ⟨by rw [HNO.out]; rfl, kw⟩
end Go.Proofs.Ytnnddjanbfamkaa
