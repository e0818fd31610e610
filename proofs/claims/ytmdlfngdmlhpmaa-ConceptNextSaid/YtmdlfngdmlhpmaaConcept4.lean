/- The walks of package concept: Says. -/
import Derived.Test.YtmdlfngdmlhpmaaConcept3
namespace Go.Proofs.Ytmdlfngdmlhpmaa
open Go Go.RowKit
set_option linter.unusedVariables false

def badB (r1 r2 m : BitVec 32) : Bool := subB r1 m && !subB r2 m
def saysF (rows : List (BitVec 32)) (r1 r2 : BitVec 32) : Bool := !rows.any (badB r1 r2)
theorem says1_any (m r1 r2 : BitVec 32) (B : Nat) (w : World) (h0 : w.cell? ⟨B, 0, none⟩ = some (.int .u32 (W r1))) (h1 : w.cell? ⟨B, 1, none⟩ = some (.int .u32 (W r2))) :
    Calls Try.prog 45 #[.int .u32 (W m), .pointer (some ⟨B, 0, none⟩)] w fun e w' => e = .returned (.bool (badB r1 r2 m)) ∧ w = w' := by
  cases hb : subB r1 m
  · have HB := Lib.hid hb
    go_enter Try.func45, Try.ntmps45
    go_wp2
    go_ret
    exact ⟨by unfold badB; rw [HB.out]; rfl, rfl⟩
  · have HB := Lib.hid hb
    go_enter Try.func45, Try.ntmps45
    go_wp2
    go_ret
    exact ⟨by unfold badB; rw [HB.out]; rfl, rfl⟩

/-- the first at which a test says yes, as an integer; -1: none -/
def firstC {α : Type} (p : α → Bool) (xs : List α) : Int := match xs.findIdx? p with
  | some k => k
  | none => -1
theorem firstC_ge {α : Type} (p : α → Bool) (xs : List α) : decide (0 ≤ firstC p xs) = xs.any p := by
  unfold firstC
  cases h : xs.findIdx? p with
  | none =>
    have := List.findIdx?_eq_none_iff.1 h
    rw [Bool.eq_iff_iff]
    simp
    intro x hx
    simpa using this x hx
  | some k =>
    rw [List.findIdx?_eq_some_iff_getElem] at h
    obtain ⟨hk, h1, _⟩ := h
    have : xs.any p = true := List.any_eq_true.2 ⟨xs[k], List.getElem_mem hk, h1⟩
    rw [this]
    simp
theorem firstC_hit {α : Type} (p : α → Bool) (xs : List α) (k : Nat) (hk : k < xs.length) (h0 : (xs.take k).any p = false) (h1 : p xs[k] = true) : firstC p xs = k := by
  unfold firstC
  have : xs.findIdx? p = some k := by
    rw [List.findIdx?_eq_some_iff_getElem]
    refine ⟨hk, h1, fun j hj => ?_⟩
    rw [List.any_eq_false] at h0
    exact h0 _ (List.mem_take_iff_getElem.2 ⟨j, by omega, rfl⟩)
  rw [this]
theorem firstC_none {α : Type} (p : α → Bool) (xs : List α) (h0 : xs.any p = false) : firstC p xs = -1 := by
  unfold firstC
  have : xs.findIdx? p = none := by
    rw [List.findIdx?_eq_none_iff]
    intro x hx
    rw [List.any_eq_false] at h0
    simpa using h0 x hx
  rw [this]
theorem saysIndex_any (A : Option Addr) (n c : Nat) (xs : List (BitVec 32)) (r1 r2 : BitVec 32) (B : Nat) (w : World) (hs : SlW w A n xs) (hn : n ≤ 1000) (c0 : w.cell? ⟨B, 0, none⟩ = some (.int .u32 (W r1))) (c1 : w.cell? ⟨B, 1, none⟩ = some (.int .u32 (W r2))) :
    Calls Try.prog 49 #[.slice A n c, .func (.func 45) #[] #[.pointer (some ⟨B, 0, none⟩)]] w fun e w' => e = .returned (.int .i64 (firstC (badB r1 r2) xs)) ∧ w = w' := by
  go_enter Try.func49, Try.ntmps49
  go_wp2_with fail
  go_loop [8] (fun t => ∃ q : Nat, q ≤ n ∧ t = .int .i64 q ∧ (xs.take q).any (badB r1 r2) = false) (fun t => n - (intOf t).toNat)
  case atStart => exact ⟨0, Nat.zero_le _, rfl, rfl⟩
  case round =>
    obtain ⟨q, hq, rfl, hnot⟩ := hrel
    have HN := Lib.hid hnot
    clear hnot
    by_cases hlt : q < n
    · obtain ⟨b, off, hk, rfl, hb, cq⟩ := hs.get q hlt
      have hsn := Lib.hid (any_snoc (badB r1 r2) xs q hk)
      have hhit := Lib.hid (firstC_hit (badB r1 r2) xs q hk HN.out)
      cases hb1 : badB r1 r2 xs[q]
      · have HB := Lib.hid hb1
        go_wp2_with fail
        refine (says1_any _ r1 r2 B _ c0 c1).mono ?_
        rintro e w' ⟨rfl, rfl⟩
        rw [HB.out]
        go_wp2_with fail
        go_round
        case rel => exact ⟨q + 1, by omega, by go_num, by rw [hsn.out, HN.out, HB.out]; rfl⟩
        case measure => simp [intOf]; omega
      · have HB := Lib.hid hb1
        go_wp2_with fail
        refine (says1_any _ r1 r2 B _ c0 c1).mono ?_
        rintro e w' ⟨rfl, rfl⟩
        rw [HB.out]
        go_wp2_with fail
        go_ret
        exact ⟨by rw [hhit.out HB.out]; rfl, rfl⟩
    · have HK := Lib.hid (take_all xs q (by rw [hs.2]; omega))
      go_wp2_with fail
      go_ret
      exact ⟨by rw [firstC_none _ _ (by rw [← HK.out]; exact HN.out)]; rfl, rfl⟩
theorem saysContains_any (A : Option Addr) (n c : Nat) (xs : List (BitVec 32)) (r1 r2 : BitVec 32) (B : Nat) (w : World) (hs : SlW w A n xs) (hn : n ≤ 1000) (c0 : w.cell? ⟨B, 0, none⟩ = some (.int .u32 (W r1))) (c1 : w.cell? ⟨B, 1, none⟩ = some (.int .u32 (W r2))) :
    Calls Try.prog 36 #[.slice A n c, .func (.func 45) #[] #[.pointer (some ⟨B, 0, none⟩)]] w fun e w' => e = .returned (.bool (xs.any (badB r1 r2))) ∧ w = w' := by
  have H := Lib.hid (firstC_ge (badB r1 r2) xs)
  go_enter Try.func36, Try.ntmps36
  go_wp2_with fail
  refine (saysIndex_any _ _ _ xs r1 r2 _ _ hs hn c0 c1).mono ?_
  rintro e w' ⟨rfl, rfl⟩
  go_wp2_with fail
  go_ret
  exact ⟨by rw [← H.out]; rfl, rfl⟩

theorem says_ok (n : Int) (A : Option Addr) (len c : Nat) (rows : List (BitVec 32)) (r1 r2 : BitVec 32) (w : World) (hr : SlW w A len rows) (hc : tabF n rows 0#32 [r1, r2] = 0) :
    Calls Try.prog 28 #[.int .i64 n, .slice A len c, .agg #[.int .u32 (W r1), .int .u32 (W r2)]] w fun e w' => e = .returned (.tuple #[.bool (saysF rows r1 r2), .int .i64 0]) ∧ Kept w w' := by
  have hz := tabF_zero hc
  have hlen : len ≤ 8 := by rw [← hr.2]; exact hz.2.2.1
  have HC := Lib.hid hc
  clear hc hz
  go_enter Try.func28, Try.ntmps28
  go_wp2_with fail
  refine (conWrong_any _ _ _ _ rows 0#32 _ _ _ [r1, r2] _ (hr.kept (((Kept.refl _).alloc _).alloc _)) (SlW.new2' _ _ _ _ _ (by simp)) (by omega)).mono ?_
  rintro e w1 ⟨rfl, hk⟩
  rw [HC.out]
  have hk1 : Kept w w1 := (((Kept.refl _).alloc _).alloc _).trans hk
  have c0 : w1.cell? ⟨w.heap.size, 0, none⟩ = some (.int .u32 (W r1)) := (hk.cell (p := ⟨w.heap.size, 0, none⟩) (by simp; omega)).trans (by simp)
  have c1 : w1.cell? ⟨w.heap.size, 1, none⟩ = some (.int .u32 (W r2)) := (hk.cell (p := ⟨w.heap.size, 1, none⟩) (by simp; omega)).trans (by simp)
  clear hk
  go_wp2_with fail
  refine (saysContains_any _ _ _ rows r1 r2 _ _ (hr.kept hk1) (by omega) c0 c1).mono ?_
  rintro e w2 ⟨rfl, rfl⟩
  generalize hg : rows.any (badB r1 r2) = bb
  have HG := Lib.hid hg
  clear hg
  go_wp2_with fail
  go_ret2
  exact ⟨by unfold saysF; rw [HG.out]; rfl, hk1⟩
theorem says_no (n : Int) (A : Option Addr) (len c : Nat) (rows : List (BitVec 32)) (r1 r2 : BitVec 32) (w : World) (hr : SlW w A len rows) (hc : (tabF n rows 0#32 [r1, r2] != 0) = true) :
    Calls Try.prog 28 #[.int .i64 n, .slice A len c, .agg #[.int .u32 (W r1), .int .u32 (W r2)]] w fun e w' => e = .returned (.tuple #[.bool false, .int .i64 (tabF n rows 0#32 [r1, r2])]) ∧ Kept w w' := by
  go_enter Try.func28, Try.ntmps28
  go_wp2_with fail
  refine (conWrong_any _ _ _ _ rows 0#32 _ _ _ [r1, r2] _ (hr.kept (((Kept.refl _).alloc _).alloc _)) (SlW.new2' _ _ _ _ _ (by simp)) (by omega)).mono ?_
  rintro e w1 ⟨rfl, hk⟩
  have hk1 : Kept w w1 := (((Kept.refl _).alloc _).alloc _).trans hk
  clear hk
  go_wp2_with fail
  go_ret2
  exact ⟨rfl, hk1⟩

theorem saysF_eq {n : Nat} (hn : n < 32) {rows : List (BitVec 32)} (hl : rows.length ≤ 32) {r1 r2 : BitVec 32} (h2 : fitB n r2 = true) : saysF rows r1 r2 = subB r2 (upG n rows (downG rows r1)) := by
  unfold saysF
  rw [Bool.eq_iff_iff, Bool.not_eq_true', List.any_eq_false, subB_iff]
  constructor
  · intro h i hi
    rw [upG_bit n hn]
    refine ⟨fitB_iff.1 h2 i hi, fun j hj hoj => ?_⟩
    rw [downG_bit rows hl] at hoj
    rw [nth_eq _ _ hj] at hoj ⊢
    have h3 := h _ (List.getElem_mem hj)
    unfold badB at h3
    rw [hoj.2] at h3
    have h4 : subB r2 rows[j] = true := by simpa using h3
    exact subB_iff.1 h4 i hi
  · intro h m hm
    obtain ⟨j, hj, rfl⟩ := List.mem_iff_getElem.1 hm
    unfold badB
    cases h1 : subB r1 rows[j]
    · simp
    · have h3 : subB r2 rows[j] = true := subB_iff.2 fun i hi => by
        have h4 := h i hi
        rw [upG_bit n hn] at h4
        have h5 := h4.2 j hj ((downG_bit rows hl r1 j).2 ⟨hj, by rw [nth_eq _ _ hj]; exact h1⟩)
        rw [nth_eq _ _ hj] at h5
        exact h5
      rw [h3]
      simp
end Go.Proofs.Ytmdlfngdmlhpmaa
