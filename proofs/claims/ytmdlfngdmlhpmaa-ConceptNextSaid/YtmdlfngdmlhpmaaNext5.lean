/- The walk of concept.All. -/
import Derived.Test.YtmdlfngdmlhpmaaNext4
namespace Go.Proofs.Ytmdlfngdmlhpmaa
open Go Go.RowKit
set_option linter.unusedVariables false

def slLen : Value → Nat
  | .slice _ n _ => n
  | _ => 0
def tr1 : Value → Nat
  | .bool true => 1
  | _ => 0
set_option maxRecDepth 100000 in
set_option maxHeartbeats 4000000 in
theorem all_ok (n : Nat) (A : Option Addr) (len c : Nat) (rows : List (BitVec 32)) (w : World) (hr : SlW w A len rows) (hc : tabF n rows 0#32 [] = 0) :
    Calls Try.prog 29 #[.int .i64 n, .slice A len c] w (RetAllC w (allG n rows).length (allG n rows)) := by
  have hz := tabF_zero hc
  have hlen : len ≤ 8 := by rw [← hr.2]; exact hz.2.2.1
  have hn6 : n ≤ 6 := by omega
  have HRL := Lib.hid hr.2
  have HL32 := Lib.hid (show rows.length ≤ 32 by rw [hr.2]; omega)
  have HC := Lib.hid hc
  have HALL := Lib.hid (show allG n rows = runG n rows 63 (clG n rows 0#32) from rfl)
  have HFU := Lib.hid (allG_fuel hn6 (clG n rows 0#32))
  have HRG := Lib.hid (runG_len n rows 63 (clG n rows 0#32))
  have HCL := Lib.hid (fun m => show clG n rows m = upF (1#32 <<< n - 1#32) (downF m rows len) rows len by unfold clG upG downG; rw [hr.2])
  obtain ⟨R, hR⟩ : ∃ R, allG n rows = R := ⟨_, rfl⟩
  rw [hR]
  rw [hR] at HALL
  rw [← HALL.out] at HRG
  have HFIN : Hid (∀ l : List Cn, l.map Prod.snd = R → l.length = R.length ∧ 0 < R.length ∧ R.length ≤ 64) := Lib.hid (fun l hl => by
    have := congrArg List.length hl
    rw [List.length_map] at this
    have := HRG.out
    exact ⟨by omega, by omega, by omega⟩)
  clear hc hz hR
  go_enter Try.func29, Try.ntmps29
  go_wp2_with fail
  refine (conWrong_any _ _ _ _ rows 0#32 _ _ _ [] _ hr (SlW.nil_ _ _) (by omega)).mono ?_
  rintro e w1 ⟨rfl, hk1⟩
  rw [HC.out]
  have hr1 := hr.kept hk1
  go_wp2_with fail
  refine (down_any A len c rows 0#32 _ hr1 hlen).mono ?_
  rintro e w2 ⟨rfl, rfl⟩
  go_wp2_with fail
  refine (up_any n hn6 A len c rows _ _ hr1 hlen).mono ?_
  rintro e w2 ⟨rfl, rfl⟩
  rw [← HCL.out]
  have HRC := Lib.hid hr1
  have HK1 := Lib.hid hk1
  clear hk1 hr1
  go_wp2_with fail
  go_loopw [7, 8, 9] (fun v t b wr => ∃ l : List Cn, Own w1 wr 58 2 v l.length (cnCells l) ∧ ((∃ cur q, t = .int .u32 (W cur) ∧ b = .bool true ∧ Hid (Fuel n q cur ∧ R = l.map Prod.snd ++ runG n rows q cur)) ∨ (b = .bool false ∧ Hid (R = l.map Prod.snd)))) (fun v _ b _ => (66 - slLen v) * tr1 b)
  case atStart => exact ⟨[], Own.start (Kept.refl _), .inl ⟨_, 63, rfl, rfl, Lib.hid ⟨HFU.out, by rw [HALL.out]; rfl⟩⟩⟩
  case round =>
    obtain ⟨l, hown, hcase⟩ := hrel
    obtain ⟨Al, cl, rfl, _, _⟩ := hown.form
    rcases hcase with ⟨cur, q, rfl, rfl, HQ⟩ | ⟨rfl, HQ⟩
    · have hll : l.length ≤ 63 := by
        have h1 := congrArg List.length HQ.out.2
        rw [List.length_append, List.length_map] at h1
        have h2 := (runG_len n rows q cur).2
        have h3 := HRG.out.1
        omega
      have HEQ := Lib.hid (runG_eq (by omega) HL32.out q cur HQ.out.1)
      have HRW := Lib.hid (HRC.out.kept hown.2)
      have HD := Lib.hid (cnCells_snoc l (downF cur rows len, cur))
      obtain ⟨o, ho⟩ : ∃ o, downF cur rows len = o := ⟨_, rfl⟩
      have HOO := Lib.hid ho
      rw [ho] at HD
      clear ho
      go_wp2_with fail
      refine (down_any A len c rows cur _ HRW.out hlen).mono ?_
      rintro e w4 ⟨rfl, rfl⟩
      rw [HOO.out]
      go_wp2_with (at_builtin; refine wpList_push rfl _ _ 54 rfl 58 Try.underlying54 info_con rfl (by decide) (by decide) _ _ _ _ hown #[.int .u32 (W o), .int .u32 (W cur)] _ _ 1 1 rfl rfl rfl rfl (one_con _ _) (by omega) ?_; intro v' w5 hown5 _)
      obtain ⟨A5, c5, rfl, _, _⟩ := hown5.form
      have HO5 : Hid (Own w1 w5 58 2 (.slice A5 (l.length + 1) c5) (l ++ [(o, cur)]).length (cnCells (l ++ [(o, cur)]))) := Lib.hid (by rw [HD.out, List.length_append]; exact hown5)
      clear hown5 hown HRW
      refine (next_any n hn6 A len c rows cur _ (HRC.out.kept HO5.out.2) hlen).mono ?_
      rintro e w6 ⟨rfl, rfl⟩
      obtain ⟨r, hrr⟩ : ∃ r, nextG n rows cur n = r := ⟨_, rfl⟩
      rw [hrr]
      cases r with
      | none =>
        have HN := Lib.hid (show R = (l ++ [(o, cur)]).map Prod.snd by rw [HQ.out.2, HEQ.out, hrr]; simp)
        clear hrr
        unfold nextV
        go_wp2_with fail
        go_roundw
        case rel => exact ⟨l ++ [(o, cur)], HO5.out, .inr ⟨rfl, HN⟩⟩
        case measure => simp [slLen, tr1]; omega
      | some d =>
        have HN := Lib.hid (show Fuel n (q - 1) d ∧ R = (l ++ [(o, cur)]).map Prod.snd ++ runG n rows (q - 1) d from ⟨(HQ.out.1.next (by omega) HL32.out hrr).1, by rw [HQ.out.2, HEQ.out, hrr]; simp⟩)
        clear hrr
        unfold nextV
        go_wp2_with fail
        go_roundw
        case rel => exact ⟨l ++ [(o, cur)], HO5.out, .inl ⟨d, q - 1, rfl, rfl, HN⟩⟩
        case measure => simp [slLen, tr1]; omega
    · have HF := Lib.hid (HFIN.out l HQ.out.symm)
      go_wp2_with fail
      refine (sortSays w1 _ _ l.length l hown rfl (by have := HF.out; omega) (by have := HF.out; omega)).mono ?_
      rintro e w4 ⟨rfl, ys, A4, c4, hv, hp, hs, hsl, hk4⟩
      injection hv with hv1 _ hv3
      subst hv1 hv3
      have FIN := Lib.hid (show RetAllC w R.length R (.returned (.tuple #[.slice Al l.length cl, .int .i64 0])) w4 from ⟨Al, cl, ys, by rw [← HF.out.1], by rw [HQ.out]; exact hp.map _, hs, by rw [← HF.out.1]; exact hsl, HK1.out.trans hk4⟩)
      clear hp hs hsl hk4 hown
      go_wp2_with fail
      go_ret2
      exact FIN.out
end Go.Proofs.Ytmdlfngdmlhpmaa
