/- ClauseTwo: the walk of the statement. -/
import Derived.Test.YtekpifobhgjepaaTwR4
import Derived.Test.YtekpifobhgjepaaTwF2
import Derived.Test.YtekpifobhgjepaaHorn2
namespace Go.Proofs.Ytekpifobhgjepaa.clauseTwoDone
open Go Go.RowKit
set_option linter.unusedVariables false

theorem solveA {n : Int} {A : Option Addr} {len c : Nat} {rs : List Ru} (w : World) (hs : SlR w A len rs) (h : satF n rs ≠ 0) :
    Calls Try.prog 12 #[.int .i64 n, .slice A len c] w fun e w' => e = .returned (.tuple #[.int .u32 0, .int .i64 (satF n rs)]) ∧ Kept w w' := by
  refine (solve_any n A len c rs w hs).mono ?_
  rintro e w' (⟨h0, he, k⟩ | ⟨v, ok, h0, he, _, k⟩)
  · exact ⟨he, k⟩
  · exact absurd h0 h
theorem bad (n : Int) (A : Option Addr) (len c : Nat) (rs : List Ru) (w : World) (hs : SlR w A len rs) (h : satF n rs ≠ 0) :
    Calls Try.prog 5 #[.int .i64 n, .slice A len c] w fun e w' => e = .returned (.bool true) ∧ Kept w w' := by
  have HS := Lib.hid (solveA (c := c) w hs h)
  have HR := Lib.hid (fun w' (k : Kept w w') => refute_bad n A len c rs w' (hs.kept k) h)
  have HT := Lib.hid (fun w' (k : Kept w w') => sat_any n A len c rs w' (hs.kept k))
  generalize satF n rs = F at h HS HR HT
  have hb : (F != 0) = true := by simpa using h
  have hb2 : (F == 0) = false := by simpa using h
  rw [hb2] at HT
  go_enter Try.func5, Try.ntmps5
  go_wp2_with fail
  refine HS.out.mono ?_
  rintro e w1 ⟨rfl, k1⟩
  go_wp2_with fail
  refine (HR.out _ k1).mono ?_
  rintro e w2 ⟨rfl, k2⟩
  have q2 := k1.trans k2
  go_wp2_with fail
  refine (HT.out _ q2).mono ?_
  rintro e w3 ⟨rfl, k3⟩
  have q3 := q2.trans k3
  go_wp2_with fail
  go_ret
  exact ⟨rfl, q3⟩
theorem good (n : Int) (A : Option Addr) (len c : Nat) (rs : List Ru) (w : World) (hs : SlR w A len rs) (h : satF n rs = 0) :
    Calls Try.prog 5 #[.int .i64 n, .slice A len c] w fun e w' => e = .returned (.bool true) ∧ Kept w w' := by
  obtain ⟨nn, rfl, h1, h6, hl, hok⟩ := satF_zero h
  rw [hs.2] at hl
  have hlen : len ≤ 1000 := by omega
  have HS := Lib.hid (solve_any nn A len c rs w hs)
  have HR := Lib.hid (fun w' (k : Kept w w') => refute_any nn A len c rs w' (hs.kept k) h)
  have HT := Lib.hid (fun w' (k : Kept w w') => sat_any nn A len c rs w' (hs.kept k))
  rw [h] at HT
  have HSAT := Lib.hid h
  have e0 : ((0 : Int) == 0) = true := rfl
  rw [e0] at HT
  clear h hok e0
  go_enter Try.func5, Try.ntmps5
  go_wp2_with fail
  refine HS.out.mono ?_
  rintro e w1 (⟨hz, _⟩ | ⟨v, ok, _, rfl, hr, k1⟩)
  · exact absurd HSAT.out hz
  rw [Int.toNat_natCast] at hr
  have HRES := Lib.hid hr
  clear hr
  cases ok
  · simp only [Bool.false_eq_true, if_false]
    have HNO := Lib.hid (show ∀ s, ¬ Sol nn rs 0#32 0#32 s from by
      rcases HRES.out with ⟨h2, _⟩ | ⟨_, _, h2⟩
      · cases h2
      · exact h2)
    go_wp2_with fail
    refine (HR.out _ k1).mono ?_
    rintro e w2 ⟨k2, ⟨rfl, s, hf, ht⟩ | ⟨A2, c2, out, rfl, hsl, href, hlo⟩⟩
    · exact absurd ⟨hf, by simp, by simp, fun r hr => trueB_iff.1 ht r hr⟩ (HNO.out s)
    have q2 := k1.trans k2
    have HREF : Hid (∀ w' : World, Kept w2 w' → Calls Try.prog 20 #[.slice A len c, .slice A2 out.length c2] w' fun e w'' => e = .returned (.bool true) ∧ Kept w' w'') := Lib.hid (fun w' k => by
      rcases href with ⟨rfl, hz⟩ | ⟨hne, L, hrun, hL, hlast⟩
      · exact refutes_nil rs A A2 len c c2 w' ((hs.kept q2).kept k) hlen hz
      · exact refutes_some rs L out A A2 len out.length c c2 w' ((hs.kept q2).kept k) (hsl.kept k) hlen hlo (List.length_pos_iff.2 hne) hrun hL hlast)
    clear href hlo hsl
    go_wp2_with fail
    refine (HT.out _ q2).mono ?_
    rintro e w3 ⟨rfl, k3⟩
    go_wp2_with fail
    refine (HREF.out _ k3).mono ?_
    rintro e w4 ⟨rfl, k4⟩
    go_wp2_with fail
    go_ret
    exact ⟨rfl, (q2.trans k3).trans k4⟩
  · simp only [if_true]
    have HV := Lib.hid (show fitB nn v = true ∧ trueB rs v = true from by
      rcases HRES.out with ⟨_, h2, _⟩ | ⟨h2, _⟩
      · exact ⟨h2.1, trueB_iff.2 h2.2.2.2⟩
      · cases h2)
    go_wp2_with fail
    refine (HR.out _ k1).mono ?_
    rintro e w2 ⟨k2, ⟨rfl, s, hf, ht⟩ | ⟨A2, c2, out, rfl, hsl, href, hlo⟩⟩
    case inr =>
      have h3 := HV.out.2
      rw [refB_no href] at h3
      cases h3
    have q2 := k1.trans k2
    have HTR := Lib.hid (fun w' (k : Kept w w') => true_any A len c rs v w' (hs.kept k) hlen)
    rw [HV.out.2] at HTR
    clear hf ht
    go_wp2_with fail
    refine (HT.out _ q2).mono ?_
    rintro e w3 ⟨rfl, k3⟩
    have q3 := q2.trans k3
    go_wp2_with fail
    refine (HTR.out _ q3).mono ?_
    rintro e w4 ⟨rfl, k4⟩
    have q4 := q3.trans k4
    have HB : (decide (v < 1#32 <<< nn)) = true := by rw [← fitB_lt (by omega)]; exact HV.out.1
    go_wp2_with fail
    go_ret
    exact ⟨by simp, q4⟩
theorem clauseTwo_walk (n : Int) (A : Option Addr) (len c : Nat) (rs : List Ru) (w : World) (_wn : (Lit.int .i64 n).wf = true) (hl : len ≤ maxLen) (hs : SlR w A len rs) :
    Calls Try.prog 5 #[.int .i64 n, .slice A len c] w fun e w' => e = .returned (.bool true) ∧ Below w.heap.size w w' := by
  suffices h : Calls Try.prog 5 #[.int .i64 n, .slice A len c] w fun e w' => e = .returned (.bool true) ∧ Kept w w' from h.mono fun e w' ⟨h1, h2⟩ => ⟨h1, h2.below⟩
  by_cases h0 : satF n rs = 0
  · exact good n A len c rs w hs h0
  · exact bad n A len c rs w hs h0
end Go.Proofs.Ytekpifobhgjepaa.clauseTwoDone
