/- The walks of view.shaped and of what it asks of rows. -/
import Derived.Test.YtjcooagchjjknaaViewM
import Derived.Test.YtjcooagchjjknaaFirst
import Derived.Test.YtjcooagchjjknaaSeat
import Derived.Test.YtjcooagchjjknaaQuiet
import Derived.BigQuiet
namespace Go.Proofs.Ytjcooagchjjknaa
open Go Go.RowKit
set_option linter.unusedVariables false
set_option linter.unusedSimpArgs false

def notActs (m : Mc) (r : Rv) : Bool := (r.2.1 : Int) != m.as
def notGoes (m : Mc) (t : Int) : Bool := decide (t < 0) || decide (m.n ≤ t)
theorem vsh1_any (m : Mc) (B : Nat) (r : Rv) (w : World) (hp : w.cell? ⟨B, 2, none⟩ = some (.int .i64 m.as)) :
    Calls Try.prog 61 #[.slice r.1 r.2.1 r.2.2.1, .pointer (some ⟨B, 0, none⟩)] w fun e w' => e = .returned (.bool (notActs m r)) ∧ w = w' := by
  go_enter Try.func61, Try.ntmps61
  go_wp2
  go_ret
  exact ⟨rfl, rfl⟩
theorem vck1_any (m : Mc) (B : Nat) (t : Int) (w : World) (hp : w.cell? ⟨B, 0, none⟩ = some (.int .i64 m.n)) :
    Calls Try.prog 58 #[.int .i64 t, .pointer (some ⟨B, 0, none⟩)] w fun e w' => e = .returned (.bool (notGoes m t)) ∧ w = w' := by
  have H := Lib.hid (show notGoes m t = (decide (t < 0) || decide (m.n ≤ t)) from rfl)
  generalize notGoes m t = r at H ⊢
  cases h : decide (t < 0)
  · have HR := Lib.hid (show r = decide (m.n ≤ t) by rw [H.out, h]; rfl)
    clear H
    go_enter Try.func58, Try.ntmps58
    go_wp2
    go_ret
    exact ⟨by rw [HR.out]; rfl, rfl⟩
  · have HR := Lib.hid (show r = true by rw [H.out, h]; rfl)
    clear H
    go_enter Try.func58, Try.ntmps58
    go_wp2
    go_ret
    exact ⟨by rw [HR.out]; rfl, rfl⟩
theorem vshIndex_any (m : Mc) (B : Nat) (A : Option Addr) (n c : Nat) (xs : List Rv) (w : World) (hs : SlM w A n xs) (hn : n ≤ 1000) (hp : w.cell? ⟨B, 2, none⟩ = some (.int .i64 m.as)) :
    Calls Try.prog 66 #[.slice A n c, .func (.func 61) #[] #[.pointer (some ⟨B, 0, none⟩)]] w fun e w' => e = .returned (.int .i64 (firstI (notActs m) xs)) ∧ w = w' := by
  go_enter Try.func66, Try.ntmps66
  go_wp2_with fail
  go_loop [8] (fun t => ∃ q : Nat, q ≤ n ∧ t = .int .i64 q ∧ Hid ((xs.take q).any (notActs m) = false)) (fun t => n - (intOf t).toNat)
  case atStart => exact ⟨0, Nat.zero_le _, rfl, Lib.hid rfl⟩
  case round =>
    obtain ⟨q, hq, rfl, HN⟩ := hrel
    by_cases hlt : q < n
    · obtain ⟨b, off, hk, rfl, hb, cq, hrow⟩ := hs.get q hlt
      have hsn := Lib.hid (any_snoc (notActs m) xs q hk)
      have hhit := Lib.hid (firstI_hit (notActs m) xs q hk HN.out)
      cases hb1 : (notActs m) xs[q]
      · have HB := Lib.hid hb1
        clear hb1
        go_wp2_with fail
        refine (vsh1_any m B _ _ hp).mono ?_
        rintro e w' ⟨rfl, rfl⟩
        rw [HB.out]
        go_wp2_with fail
        go_round
        case rel => exact ⟨q + 1, by omega, by go_num, Lib.hid (by rw [hsn.out, HN.out, HB.out]; rfl)⟩
        case measure => simp [intOf]; omega
      · have HB := Lib.hid hb1
        clear hb1
        go_wp2_with fail
        refine (vsh1_any m B _ _ hp).mono ?_
        rintro e w' ⟨rfl, rfl⟩
        rw [HB.out]
        go_wp2_with fail
        go_ret
        exact ⟨by rw [hhit.out HB.out]; rfl, rfl⟩
    · have HK := Lib.hid (take_all xs q (by rw [hs.2.1]; omega))
      go_wp2_with fail
      go_ret
      exact ⟨by rw [firstI_none _ _ (by rw [← HK.out]; exact HN.out)]; rfl, rfl⟩
theorem vshContains_any (m : Mc) (B : Nat) (A : Option Addr) (n c : Nat) (xs : List Rv) (w : World) (hs : SlM w A n xs) (hn : n ≤ 1000) (hp : w.cell? ⟨B, 2, none⟩ = some (.int .i64 m.as)) :
    Calls Try.prog 60 #[.slice A n c, .func (.func 61) #[] #[.pointer (some ⟨B, 0, none⟩)]] w fun e w' => e = .returned (.bool (xs.any (notActs m))) ∧ w = w' := by
  have H := Lib.hid (firstI_ge (notActs m) xs)
  go_enter Try.func60, Try.ntmps60
  go_wp2_with fail
  refine (vshIndex_any m B _ _ _ xs _ hs hn hp).mono ?_
  rintro e w' ⟨rfl, rfl⟩
  go_wp2_with fail
  go_ret
  exact ⟨by rw [← H.out]; rfl, rfl⟩

theorem vckIndex_any (m : Mc) (B : Nat) (A : Option Addr) (n c : Nat) (xs : List Int) (w : World) (hs : SlI w A n xs) (hn : n ≤ 1000) (hp : w.cell? ⟨B, 0, none⟩ = some (.int .i64 m.n)) :
    Calls Try.prog 62 #[.slice A n c, .func (.func 58) #[] #[.pointer (some ⟨B, 0, none⟩)]] w fun e w' => e = .returned (.int .i64 (firstI (notGoes m) xs)) ∧ w = w' := by
  go_enter Try.func62, Try.ntmps62
  go_wp2_with fail
  go_loop [8] (fun t => ∃ q : Nat, q ≤ n ∧ t = .int .i64 q ∧ Hid ((xs.take q).any (notGoes m) = false)) (fun t => n - (intOf t).toNat)
  case atStart => exact ⟨0, Nat.zero_le _, rfl, Lib.hid rfl⟩
  case round =>
    obtain ⟨q, hq, rfl, HN⟩ := hrel
    by_cases hlt : q < n
    · obtain ⟨b, off, hk, rfl, hb, cq⟩ := hs.get q hlt
      have hsn := Lib.hid (any_snoc (notGoes m) xs q hk)
      have hhit := Lib.hid (firstI_hit (notGoes m) xs q hk HN.out)
      cases hb1 : (notGoes m) xs[q]
      · have HB := Lib.hid hb1
        clear hb1
        go_wp2_with fail
        refine (vck1_any m B _ _ hp).mono ?_
        rintro e w' ⟨rfl, rfl⟩
        rw [HB.out]
        go_wp2_with fail
        go_round
        case rel => exact ⟨q + 1, by omega, by go_num, Lib.hid (by rw [hsn.out, HN.out, HB.out]; rfl)⟩
        case measure => simp [intOf]; omega
      · have HB := Lib.hid hb1
        clear hb1
        go_wp2_with fail
        refine (vck1_any m B _ _ hp).mono ?_
        rintro e w' ⟨rfl, rfl⟩
        rw [HB.out]
        go_wp2_with fail
        go_ret
        exact ⟨by rw [hhit.out HB.out]; rfl, rfl⟩
    · have HK := Lib.hid (take_all xs q (by rw [hs.2]; omega))
      go_wp2_with fail
      go_ret
      exact ⟨by rw [firstI_none _ _ (by rw [← HK.out]; exact HN.out)]; rfl, rfl⟩
theorem vckContains_any (m : Mc) (B : Nat) (A : Option Addr) (n c : Nat) (xs : List Int) (w : World) (hs : SlI w A n xs) (hn : n ≤ 1000) (hp : w.cell? ⟨B, 0, none⟩ = some (.int .i64 m.n)) :
    Calls Try.prog 55 #[.slice A n c, .func (.func 58) #[] #[.pointer (some ⟨B, 0, none⟩)]] w fun e w' => e = .returned (.bool (xs.any (notGoes m))) ∧ w = w' := by
  have H := Lib.hid (firstI_ge (notGoes m) xs)
  go_enter Try.func55, Try.ntmps55
  go_wp2_with fail
  refine (vckIndex_any m B _ _ _ xs _ hs hn hp).mono ?_
  rintro e w' ⟨rfl, rfl⟩
  go_wp2_with fail
  go_ret
  exact ⟨by rw [← H.out]; rfl, rfl⟩

end Go.Proofs.Ytjcooagchjjknaa
