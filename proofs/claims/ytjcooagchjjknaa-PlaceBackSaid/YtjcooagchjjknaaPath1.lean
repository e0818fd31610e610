/- slices.Index, slices.Reverse, Ints. -/
import Derived.Test.YtjcooagchjjknaaPlace
import Derived.Test.YtjcooagchjjknaaPathP
import Derived.Test.YtjcooagchjjknaaHold
import Derived.Test.YtjcooagchjjknaaQuiet
import Derived.OwnWalk
namespace Go.Proofs.Ytjcooagchjjknaa
open Go Go.RowKit
set_option linter.unusedVariables false

theorem index_any (A : Option Addr) (n c : Nat) (xs : List Int) (v : Int) (j : Nat) (w : World) (hs : SlI w A n xs) (hn : n ≤ 1000) (hj : j < n) (hv : ∀ h : j < xs.length, xs[j] = v) (hno : ∀ i, i < j → ∀ h : i < xs.length, xs[i] ≠ v) :
    Calls Try.prog 39 #[.slice A n c, .int .i64 v] w fun e w' => e = .returned (.int .i64 j) ∧ w = w' := by
  have HV := Lib.hid hv
  have HNO := Lib.hid hno
  go_enter Try.func39, Try.ntmps39
  go_wp2_with fail
  go_loop [8] (fun t => ∃ q : Nat, q ≤ j ∧ t = .int .i64 q) (fun t => n - (intOf t).toNat)
  case atStart => exact ⟨0, Nat.zero_le _, rfl⟩
  case round =>
    obtain ⟨q, hq, rfl⟩ := hrel
    obtain ⟨b, off, hk, rfl, hb, cq⟩ := hs.get q (by omega)
    have hi1 : (0 : Int) ≤ (q : Int) := by omega
    have hi2 : (q : Int) < (n : Int) := by omega
    by_cases he : q = j
    · subst he
      have e := HV.out hk
      rw [e] at cq
      go_wp2_with fail
      go_ret
      exact ⟨rfl, rfl⟩
    · have e := HNO.out q (by omega) hk
      generalize xs[q] = y at cq e
      have d : (v == y) = false := by simp; exact fun h => e h.symm
      clear e
      go_wp2_with fail
      go_round
      case rel => exact ⟨q + 1, by omega, by go_num⟩
      case measure => simp [intOf]; omega
/-! ### Reverse -/
def revTo (xs : List Int) (i : Nat) : List Int := (List.range xs.length).map fun k => if k < i ∨ xs.length - i ≤ k then xs.getD (xs.length - 1 - k) 0 else xs.getD k 0
theorem revTo_len (xs : List Int) (i : Nat) : (revTo xs i).length = xs.length := by simp [revTo]
theorem revTo_at {xs : List Int} {i k : Nat} (hk : k < xs.length) : (revTo xs i)[k]? = some (if k < i ∨ xs.length - i ≤ k then xs.getD (xs.length - 1 - k) 0 else xs.getD k 0) := by
  unfold revTo
  rw [List.getElem?_map, List.getElem?_range hk]
  rfl
theorem getD_get {xs : List Int} {k : Nat} (h : k < xs.length) : xs.getD k 0 = xs[k] := by rw [List.getD_eq_getElem?_getD, List.getElem?_eq_getElem h]; rfl
theorem revTo_zero (xs : List Int) : revTo xs 0 = xs := by
  apply List.ext_getElem?
  intro k
  by_cases hk : k < xs.length
  · rw [revTo_at hk, if_neg (by omega), getD_get hk, List.getElem?_eq_getElem hk]
  · rw [List.getElem?_eq_none (by rw [revTo_len]; omega), List.getElem?_eq_none (by omega)]
theorem revTo_done {xs : List Int} {i : Nat} (h : xs.length ≤ i + i + 1) : revTo xs i = xs.reverse := by
  apply List.ext_getElem?
  intro k
  by_cases hk : k < xs.length
  · rw [revTo_at hk, List.getElem?_reverse hk, List.getElem?_eq_getElem (by omega)]
    by_cases h2 : k < i ∨ xs.length - i ≤ k
    · rw [if_pos h2, getD_get (by omega)]
    · rw [if_neg h2, getD_get hk]
      congr 2
      omega
  · rw [List.getElem?_eq_none (by rw [revTo_len]; omega), List.getElem?_eq_none (by rw [List.length_reverse]; omega)]
theorem revTo_step {xs : List Int} {i j : Nat} (hij : i < j) (hj : i + j + 1 = xs.length) : ((revTo xs i).set i (xs.getD j 0)).set j (xs.getD i 0) = revTo xs (i + 1) := by
  apply List.ext_getElem?
  intro k
  rw [List.getElem?_set, List.getElem?_set]
  by_cases hk : k < xs.length
  · rw [List.length_set, revTo_len, revTo_at hk, revTo_at hk]
    by_cases e1 : j = k
    · subst e1
      rw [if_pos rfl, if_pos (by omega), if_pos (by omega), show xs.length - 1 - j = i by omega]
    · rw [if_neg e1]
      by_cases e2 : i = k
      · subst e2
        rw [if_pos rfl, if_pos (by omega), if_pos (by omega), show xs.length - 1 - i = j by omega]
      · rw [if_neg e2]
        by_cases h : k < i ∨ xs.length - i ≤ k
        · rw [if_pos h, if_pos (by omega)]
        · rw [if_neg h, if_neg (by omega)]
  · rw [if_neg (by omega), if_neg (by omega), List.getElem?_eq_none (by rw [revTo_len]; omega), List.getElem?_eq_none (by rw [revTo_len]; omega)]
theorem ivMap_set (l : List Int) (k : Nat) (u : Int) : (l.map iv).set k (.int .i64 u) = (l.set k u).map iv := by rw [List.map_set]; rfl
set_option maxHeartbeats 4000000 in
theorem reverse_any {w0 : World} (A : Option Addr) (n c : Nat) (xs : List Int) (w : World) (ho : Own w0 w 3 1 (.slice A n c) n (xs.map iv)) (hl : xs.length = n) (hn : n ≤ 1000) :
    Calls Try.prog 41 #[.slice A n c] w fun e w' => e = .returned (.tuple #[]) ∧ Own w0 w' 3 1 (.slice A n c) n (xs.reverse.map iv) := by
  by_cases h0 : n = 0
  · subst h0
    obtain rfl : xs = [] := List.eq_nil_of_length_eq_zero hl
    go_enter Try.func41, Try.ntmps41
    go_wp2_with fail
    go_loopw [2, 3] (fun u v wr => u = .int .i64 0 ∧ v = .int .i64 (-1) ∧ w = wr) (fun _ _ _ => 0)
    case atStart => exact ⟨rfl, by go_num, rfl⟩
    case round =>
      obtain ⟨rfl, rfl, rfl⟩ := hrel
      go_wp2_with fail
      go_end0
      exact ⟨rfl, ho⟩
  · obtain ⟨g, rfl, hg1, hg2⟩ := ho.block (by omega)
    have HL := Lib.hid hl
    have hw0 : IntKind.i64.wrap ((n : Int) - 1) = (n : Int) - 1 := by rw [IntKind.wrap_i64]; omega
    go_enter Try.func41, Try.ntmps41
    go_wp2_with fail
    go_loopw [2, 3] (fun u v wr => ∃ i : Nat, ∃ j : Int, u = .int .i64 i ∧ v = .int .i64 j ∧ (i : Int) + j + 1 = n ∧ (i : Int) ≤ j + 1 ∧ Own w0 wr 3 1 (.slice (some ⟨g, 0, none⟩) n c) n ((revTo xs i).map iv)) (fun _ v _ => (intOf v + 1).toNat)
    case atStart => exact ⟨0, (n : Int) - 1, rfl, by go_num, by omega, by omega, by rw [revTo_zero]; exact ho⟩
    case round =>
      clear ho
      obtain ⟨i, j, rfl, rfl, hij, hle, hown⟩ := hrel
      by_cases hlt : (i : Int) < j
      · obtain ⟨jn, rfl⟩ := Int.eq_ofNat_of_zero_le (show 0 ≤ j by omega)
        have hijn : i < jn := by omega
        have hsum : i + jn + 1 = xs.length := by rw [HL.out]; omega
        have hci : ((revTo xs i).map iv)[i]? = some (.int .i64 (xs.getD i 0)) := by rw [List.getElem?_map, revTo_at (by omega), if_neg (by omega)]; rfl
        have hcj : ((revTo xs i).map iv)[jn]? = some (.int .i64 (xs.getD jn 0)) := by rw [List.getElem?_map, revTo_at (by omega), if_neg (by omega)]; rfl
        have ci := hown.cell i hci
        have cj := hown.cell jn hcj
        have fi := hown.free i
        have fj := hown.free jn
        have HST := Lib.hid (revTo_step hijn hsum)
        have hi1 : (0 : Int) ≤ (i : Int) := by omega
        have hi2 : (i : Int) < (n : Int) := by omega
        have hj1 : (0 : Int) ≤ (jn : Int) := by omega
        have hj2 : (jn : Int) < (n : Int) := by omega
        have hw1 : IntKind.i64.wrap ((i : Int) + 1) = (i : Int) + 1 := by rw [IntKind.wrap_i64]; omega
        have hw2 : IntKind.i64.wrap ((jn : Int) - 1) = (jn : Int) - 1 := by rw [IntKind.wrap_i64]; omega
        have hne : i ≠ jn := by omega
        have hne2 : jn ≠ i := by omega
        have O1 := hown.put i (.int .i64 (xs.getD jn 0))
        have O2 := O1.put jn (.int .i64 (xs.getD i 0))
        rw [ivMap_set, ivMap_set, HST.out] at O2
        have cj1 := O1.cell jn (u := .int .i64 (xs.getD jn 0)) (by rw [List.getElem?_set, if_neg hne, hcj])
        have fj1 := O1.free jn
        have HO2 := Lib.hid O2
        clear hci hcj O1 O2 hown HST
        generalize xs.getD jn 0 = yj at cj cj1 fj1 HO2
        generalize xs.getD i 0 = yi at ci HO2
        go_wp2_with fail
        go_region
        all_goals
          go_wp2_with fail
          go_roundw
          case rel => exact ⟨i + 1, (jn : Int) - 1, by go_num, rfl, by omega, by omega, HO2.out.drew⟩
          case measure => first | (simp [intOf]; done) | (simp [intOf]; omega)
      · have hdn : revTo xs i = xs.reverse := revTo_done (by rw [HL.out]; omega)
        rw [hdn] at hown
        have hlt' : decide ((i : Int) < j) = false := by simpa using hlt
        clear hlt
        go_wp2_with fail
        go_end0
        exact ⟨rfl, hown⟩
theorem ints_same (A : Option Addr) (n c : Nat) (A2 : Option Addr) (c2 : Nat) (xs : List Int) (w : World) (hx : SlI w A n xs) (hy : SlI w A2 n xs) (hn : n ≤ maxLen) :
    Calls Try.prog 23 #[.slice A n c, .slice A2 n c2] w fun e w' => e = .returned (.bool true) ∧ Kept w w' := by
  unfold maxLen at hn
  have hb : ((n : Int) != (n : Int)) = false := by simp
  go_enter Try.func23, Try.ntmps23
  go_wp2_with fail
  go_loopw [5] (fun t wr => ∃ k : Nat, k ≤ n ∧ t = .int .i64 k ∧ Kept w wr) (fun t _ => n - (intOf t).toNat)
  case atStart => exact ⟨0, Nat.zero_le _, rfl, Kept.refl _⟩
  case round =>
    obtain ⟨k, hk, rfl, hkw⟩ := hrel
    by_cases hlt : k < n
    · obtain ⟨b1, o1, hl1, rfl, _, c1'⟩ := (hx.kept hkw).get k hlt
      obtain ⟨b2, o2, hl2, rfl, _, c2'⟩ := (hy.kept hkw).get k hlt
      have hi1 : (0 : Int) ≤ (k : Int) := by omega
      have hi2 : (k : Int) < (n : Int) := by omega
      generalize xs[k] = x at c1' c2'
      have hbb : (x != x) = false := by simp
      go_wp2_with fail
      go_quiet (fail)
      go_wp2_with fail
      go_roundw
      case rel => exact ⟨k + 1, by omega, by go_num, hkw.drewN nq⟩
      case measure => simp [intOf]; omega
    · go_wp2_with fail
      go_ret
      exact ⟨rfl, hkw⟩
end Go.Proofs.Ytjcooagchjjknaa
