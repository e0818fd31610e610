/- The walk of know.Meet. -/
import Derived.Test.YtodkpojmonikiaaKnow2
import Derived.Test.YtodkpojmonikiaaMeetP
import Derived.Test.YtodkpojmonikiaaArr
import Derived.BigRegion
namespace Go.Proofs.Ytodkpojmonikiaa
open Go Go.RowKit
set_option linter.unusedVariables false

def nv (k : Nat) : Value := .int .i64 ((k : Nat) : Int)
def rowsI (n : Nat) (p : Nat → Nat) : List Value := (List.range n).map fun i => nv (p i)
def labL (n : Nat) (p : Nat → Nat) : List Int := (List.range n).map fun i => ((p i : Nat) : Int)
theorem rowsI_length (n : Nat) (p : Nat → Nat) : (rowsI n p).length = n := by simp [rowsI]
theorem rowsI_at {n k : Nat} (p : Nat → Nat) (h : k < n) : (rowsI n p)[k]? = some (.int .i64 ((p k : Nat) : Int)) := by
  unfold rowsI nv
  simp [h]
theorem rowsI_set (n : Nat) (p : Nat → Nat) (k x : Nat) : (rowsI n p).set k (.int .i64 ((x : Nat) : Int)) = rowsI n (setN p k x) := by
  unfold rowsI setN nv
  apply List.ext_getElem
  · simp
  · intro i h1 h2
    rw [List.getElem_set]
    simp only [List.getElem_map, List.getElem_range]
    by_cases e : k = i
    · subst e
      simp
    · rw [if_neg e, if_neg (fun h => e h.symm)]
theorem rowsI_sl {w0 w : World} {B n : Nat} {e : TypeId} {p : Nat → Nat} (h : Row w0 w B e (rowsI n p)) : SlI w (some ⟨B, 0, none⟩) n (labL n p) := by
  refine ⟨?_, by simp [labL]⟩
  have := h.sl n (rowsI_length n p)
  unfold rowsI nv at this
  unfold labL
  rw [List.map_map]
  exact this
theorem iat_labL {n k : Nat} (p : Nat → Nat) (h : k < n) : iat (labL n p) k = ((p k : Nat) : Int) := by
  rw [iat_eq _ _ (by simpa [labL] using h)]
  simp [labL]
/-- the rows' numbers -/
def numsL (rs : List Rv) : List (List Int) := rs.map (·.2.2.2)
theorem numsL_at (rs : List Rv) (k : Nat) (h : k < rs.length) : (numsL rs).getD k [] = rs[k].2.2.2 := by
  unfold numsL
  rw [List.getD_eq_getElem?_getD, List.getElem?_map, List.getElem?_eq_getElem h]
  rfl
/-- what Meet hands back -/
def RetMeet (w : World) (n : Nat) (rs : List Rv) (e : Ending) (w' : World) : Prop :=
  ∃ A c p, e = .returned (.tuple #[.slice A n c, .int .i64 0]) ∧ SlI w' A n (labL n p) ∧ (∀ a b, a < n → b < n → (p a = p b ↔ Conn n (numsL rs) a b)) ∧ Kept w w'
theorem meet_no (n : Int) (A : Option Addr) (len c : Nat) (rs : List Rv) (w : World) (hs : SlM w A len rs) (hc : (knowF n rs 0#32 != 0) = true) :
    Calls Try.prog 15 #[.int .i64 n, .slice A len c] w fun e w' => e = .returned (.tuple #[.slice none 0 0, .int .i64 (knowF n rs 0#32)]) ∧ Kept w w' := by
  have hz : (0 : Int) = W 0#32 := rfl
  have HZ := Lib.hid hz
  clear hz
  go_enter Try.func15, Try.ntmps15
  go_wp2_with fail
  rw [HZ.out]
  refine (wrong_any n _ _ _ rs 0#32 _ hs).mono ?_
  rintro e w1 ⟨rfl, k1⟩
  go_wp2_with fail
  go_ret2
  exact ⟨rfl, k1⟩
set_option maxHeartbeats 2000000 in
theorem meet_ok (n : Nat) (A : Option Addr) (len c : Nat) (rs : List Rv) (w : World) (hs : SlM w A len rs) (hc : knowF n rs 0#32 = 0) :
    Calls Try.prog 15 #[.int .i64 n, .slice A len c] w (RetMeet w n rs) := by
  have hz := knowF_zero hc
  have hn6 := hz.1.2.1
  have hn1 := hz.1.1
  have hl5 : len ≤ 5 := by have := hz.1.2.2.2; rw [hs.len] at this; exact this
  have HRL := Lib.hid (show ∀ r ∈ rs, r.2.1 = n from fun r hr => by have := hz.2.1 r hr; omega)
  have HC := Lib.hid hc
  have HNL := Lib.hid (show (numsL rs).length = len by unfold numsL; rw [List.length_map, hs.len])
  have HZ := Lib.hid (show (0 : Int) = W 0#32 from rfl)
  clear hc hz
  go_enter Try.func15, Try.ntmps15
  go_wp2_with fail
  rw [HZ.out]
  refine (wrong_any n _ _ _ rs 0#32 _ hs).mono ?_
  rintro e w1 ⟨rfl, k1⟩
  rw [HC.out]
  go_wp2_with fail
  go_loopw [7, 20] (fun v t wr => ∃ k : Nat, k ≤ n ∧ t = .int .i64 k ∧ Own w1 wr 3 1 v k (rowsI k fun w => w)) (fun _ t _ => n - (intOf t).toNat)
  case atStart => exact ⟨0, Nat.zero_le _, rfl, Own.start (Kept.refl _)⟩
  case round =>
    obtain ⟨k, hk, rfl, hown⟩ := hrel
    by_cases hlt : k < n
    · have HS := Lib.hid (show rowsI (k + 1) (fun w => w) = rowsI k (fun w => w) ++ [nv k] by unfold rowsI; rw [List.range_succ, List.map_append]; rfl)
      go_wp2_with (at_builtin; refine wpList_push rfl _ _ 22 rfl 3 Try.underlying22 info_i64 rfl (by decide) (by decide) _ _ _ _ hown #[.int .i64 k] _ _ 1 1 rfl rfl rfl rfl (one_i64 _) (by omega) ?_; intro v' w7 hown7 _)
      go_roundw
      case rel => exact ⟨k + 1, by omega, by go_num, by rw [HS.out]; simpa [nv] using hown7⟩
      case measure => simp [intOf]; omega
    · have HK := Lib.hid (show k = n by omega)
      rw [HK.out] at hown
      obtain ⟨A2, c2, rfl, _, _⟩ := hown.form
      obtain ⟨B, rfl, hrow⟩ := Row.of_own hown (by omega)
      clear hown
      go_wp2_with fail
      go_loopw [29] (fun t wr => ∃ (k : Nat) (p : Nat → Nat), k ≤ n ∧ t = .int .i64 k ∧ Row w1 wr B 3 (rowsI n p) ∧ Hid (Rnd n (numsL rs) k p)) (fun t _ => n - (intOf t).toNat)
      case atStart => exact ⟨0, _, Nat.zero_le _, rfl, hrow, Lib.hid (Rnd.start n _)⟩
      case round =>
        obtain ⟨k, p0, hk, rfl, hrow, hrnd⟩ := hrel
        by_cases hlt1 : k < n
        · go_wp2_with fail
          go_loopw [33] (fun t wr => ∃ (q : Nat) (p : Nat → Nat), q ≤ len ∧ t = .int .i64 q ∧ Row w1 wr B 3 (rowsI n p) ∧ Hid (Mid n (numsL rs) p0 p q 0 0)) (fun t _ => len - (intOf t).toNat)
          case atStart => exact ⟨0, p0, Nat.zero_le _, rfl, hrow, Lib.hid (Mid.start hrnd.out)⟩
          case round =>
            obtain ⟨q, p, hq, rfl, hrow, hmid⟩ := hrel
            by_cases hlt2 : q < len
            · obtain ⟨bq, oq, hqr, rfl, hbq, cq0, hr0, _⟩ := (hs.kept k1).get q hlt2
              have HNA := Lib.hid (numsL_at rs q hqr)
              have HN := Lib.hid (HRL.out _ (List.getElem_mem hqr))
              have HQN := Lib.hid (show q < (numsL rs).length by rw [HNL.out]; exact hlt2)
              generalize rs[q] = r at cq0 hr0 HNA HN
              obtain ⟨Ar, lr, cr, xs⟩ := r
              simp only at cq0 hr0 HNA HN
              have cq := (hrow.kept0.cell (p := ⟨bq, oq + q, none⟩) hbq).trans cq0
              obtain ⟨br, orr, rfl, hbr, hcell⟩ := hr0.open_ (by have := HN.out; omega)
              have HCELL := Lib.hid hcell
              have hnl : n ≤ lr := by have := HN.out; omega
              clear hcell hr0 cq0
              go_wp2_with fail
              clear cq
              go_loopw [38] (fun t wr => ∃ (i : Nat) (p : Nat → Nat), i ≤ n ∧ t = .int .i64 i ∧ Row w1 wr B 3 (rowsI n p) ∧ Hid (Mid n (numsL rs) p0 p q i 0)) (fun t _ => n - (intOf t).toNat)
              case atStart => exact ⟨0, p, Nat.zero_le _, rfl, hrow, hmid⟩
              case round =>
                obtain ⟨i, p, hi, rfl, hrow, hmid⟩ := hrel
                by_cases hlt3 : i < n
                · go_wp2_with fail
                  go_loopw [42] (fun t wr => ∃ (j : Nat) (p : Nat → Nat), j ≤ n ∧ t = .int .i64 j ∧ Row w1 wr B 3 (rowsI n p) ∧ Hid (Mid n (numsL rs) p0 p q i j)) (fun t _ => n - (intOf t).toNat)
                  case atStart => exact ⟨0, p, Nat.zero_le _, rfl, hrow, hmid⟩
                  case round =>
                    obtain ⟨j, p, hj, rfl, hrow, hmid⟩ := hrel
                    by_cases hlt4 : j < n
                    · have ci := (hrow.kept0.cell (p := ⟨br, orr + i, none⟩) hbr).trans (HCELL.out i (by omega))
                      have cj := (hrow.kept0.cell (p := ⟨br, orr + j, none⟩) hbr).trans (HCELL.out j (by omega))
                      have hskip := Lib.hid (hmid.out.skip (i := i) (j := j))
                      have htake := Lib.hid (hmid.out.take HQN.out hlt3 hlt4)
                      rw [HNA.out] at hskip htake
                      generalize iat xs i = x at ci hskip htake
                      generalize iat xs j = y at cj hskip htake
                      have hi1 : (0 : Int) ≤ (i : Int) := by omega
                      have hi2 : (i : Int) < (lr : Int) := by omega
                      have hi3 : (i : Int) < (n : Int) := by omega
                      have hj1 : (0 : Int) ≤ (j : Int) := by omega
                      have hj2 : (j : Int) < (lr : Int) := by omega
                      have hj3 : (j : Int) < (n : Int) := by omega
                      go_wp2_with fail
                      go_quiet (fail)
                      have hrow := hrow.kept ((Kept.refl wr).drewN nq)
                      generalize wr.drewN nq = wq at hrow
                      cases hxy : x == y
                      · have HXY := Lib.hid (show ¬ x = y by simpa using hxy)
                        clear ci cj
                        go_wp2_with fail
                        go_roundw
                        case rel => exact ⟨j + 1, p, by omega, by go_num, hrow, Lib.hid (hskip.out HXY.out)⟩
                        case measure => simp [intOf]; omega
                      · have HXY := Lib.hid (show x = y by simpa using hxy)
                        have HT := Lib.hid (htake.out HXY.out)
                        have c0 := hrow.cell i (rowsI_at p hlt3)
                        have c1 := hrow.cell j (rowsI_at p hlt4)
                        have f0 := hrow.free i
                        clear hskip htake ci cj
                        by_cases hpp : p j < p i
                        · have HNEW := Lib.hid (show Row w1 (wq.setCell ⟨B, i, none⟩ (.int .i64 ((p j : Nat) : Int))) B 3 (rowsI n (setN p i (min (p i) (p j)))) by
                            rw [Nat.min_eq_right (by omega), ← rowsI_set]
                            exact hrow.set i _)
                          generalize setN p i (min (p i) (p j)) = pn at HT HNEW
                          generalize p i = a at c0 hpp
                          generalize p j = d at c1 hpp HNEW
                          have d1 : decide ((d : Int) < (a : Int)) = true := by simp; omega
                          go_wp2_with fail
                          go_region
                          go_wp2_with fail
                          go_roundw
                          case rel => exact ⟨j + 1, _, by omega, by go_num, HNEW.out.drew, HT⟩
                          case measure => simp [intOf]; omega
                        · have HNEW := Lib.hid (show Row w1 (wq.setCell ⟨B, i, none⟩ (.int .i64 ((p i : Nat) : Int))) B 3 (rowsI n (setN p i (min (p i) (p j)))) by
                            rw [Nat.min_eq_left (by omega), ← rowsI_set]
                            exact hrow.set i _)
                          generalize setN p i (min (p i) (p j)) = pn at HT HNEW
                          generalize p i = a at c0 hpp HNEW
                          generalize p j = d at c1 hpp
                          have d1 : decide ((d : Int) < (a : Int)) = false := by simp; omega
                          go_wp2_with fail
                          go_region
                          go_wp2_with fail
                          go_roundw
                          case rel => exact ⟨j + 1, _, by omega, by go_num, HNEW.out.drew, HT⟩
                          case measure => simp [intOf]; omega
                    · have HJ := Lib.hid (show j = n by omega)
                      go_wp2_with fail
                      go_roundw
                      case rel => exact ⟨i + 1, p, by omega, by go_num, hrow, Lib.hid (by have h := hmid.out; rw [HJ.out] at h; exact h.nextI)⟩
                      case measure => simp [intOf]; omega
                · have HI := Lib.hid (show i = n by omega)
                  go_wp2_with fail
                  go_roundw
                  case rel => exact ⟨q + 1, p, by omega, by go_num, hrow, Lib.hid (by have h := hmid.out; rw [HI.out] at h; exact h.nextQ)⟩
                  case measure => simp [intOf]; omega
            · have HQ := Lib.hid (show q = (numsL rs).length by rw [HNL.out]; omega)
              go_wp2_with fail
              go_roundw
              case rel => exact ⟨k + 1, p, by omega, by go_num, hrow, Lib.hid (by have h := hmid.out; rw [HQ.out] at h; exact h.round hrnd.out)⟩
              case measure => simp [intOf]; omega
        · have HK2 := Lib.hid (show k = n by omega)
          have FIN := Lib.hid (show RetMeet w n rs (.returned (.tuple #[.slice (some ⟨B, 0, none⟩) n c2, .int .i64 0])) wr from ⟨_, c2, p0, rfl, rowsI_sl hrow, fun a b ha hb => by have h := hrnd.out; rw [HK2.out] at h; exact h.done ha hb, k1.trans hrow.kept0⟩)
          go_wp2_with fail
          go_ret2
          exact FIN.out
end Go.Proofs.Ytodkpojmonikiaa
