/- The walk of flow.Run. -/
import Derived.Test.YtnnddjanbfamkaaFlowA
import Derived.Test.YtnnddjanbfamkaaFirst
namespace Go.Proofs.Ytnnddjanbfamkaa
open Go Go.RowKit
set_option linter.unusedVariables false

def badV (x : Int) : Bool := decide (x < 0) || decide (7 < x)
theorem run1_any (x : Int) (w : World) : Calls Try.prog 55 #[.int .i64 x] w fun e w' => e = .returned (.bool (badV x)) ∧ w = w' := by
  unfold badV
  cases h1 : decide (x < 0)
  · go_enter Try.func55, Try.ntmps55
    go_wp2
    go_ret
    exact ⟨by simp, rfl⟩
  · go_enter Try.func55, Try.ntmps55
    go_wp2
    go_ret
    exact ⟨by simp, rfl⟩
theorem runIndex_any (A : Option Addr) (n c : Nat) (xs : List Int) (w : World) (hs : SlI w A n xs) (hn : n ≤ 1000) :
    Calls Try.prog 65 #[.slice A n c, .func (.func 55) #[] #[]] w fun e w' => e = .returned (.int .i64 (firstI badV xs)) ∧ w = w' := by
  go_enter Try.func65, Try.ntmps65
  go_wp2_with fail
  go_loop [8] (fun t => ∃ q : Nat, q ≤ n ∧ t = .int .i64 q ∧ Hid ((xs.take q).any badV = false)) (fun t => n - (intOf t).toNat)
  case atStart => exact ⟨0, Nat.zero_le _, rfl, Lib.hid rfl⟩
  case round =>
    obtain ⟨q, hq, rfl, HN⟩ := hrel
    by_cases hlt : q < n
    · obtain ⟨b, off, hk, rfl, hb, cq⟩ := hs.get q hlt
      have hsn := Lib.hid (any_snoc badV xs q hk)
      have hhit := Lib.hid (firstI_hit badV xs q hk HN.out)
      cases hb1 : badV xs[q]
      · have HB := Lib.hid hb1
        clear hb1
        go_wp2_with fail
        refine (run1_any _ _).mono ?_
        rintro e w' ⟨rfl, rfl⟩
        rw [HB.out]
        go_wp2_with fail
        go_round
        case rel => exact ⟨q + 1, by omega, by go_num, Lib.hid (by rw [hsn.out, HN.out, HB.out]; rfl)⟩
        case measure => simp [intOf]; omega
      · have HB := Lib.hid hb1
        clear hb1
        go_wp2_with fail
        refine (run1_any _ _).mono ?_
        rintro e w' ⟨rfl, rfl⟩
        rw [HB.out]
        go_wp2_with fail
        go_ret
        exact ⟨by rw [hhit.out HB.out]; rfl, rfl⟩
    · have HK := Lib.hid (take_all xs q (by rw [hs.2]; omega))
      go_wp2_with fail
      go_ret
      exact ⟨by rw [firstI_none _ _ (by rw [← HK.out]; exact HN.out)]; rfl, rfl⟩
theorem runContains_any (A : Option Addr) (n c : Nat) (xs : List Int) (w : World) (hs : SlI w A n xs) (hn : n ≤ 1000) :
    Calls Try.prog 54 #[.slice A n c, .func (.func 55) #[] #[]] w fun e w' => e = .returned (.bool (xs.any badV)) ∧ w = w' := by
  have H := Lib.hid (firstI_ge badV xs)
  go_enter Try.func54, Try.ntmps54
  go_wp2_with fail
  refine (runIndex_any _ _ _ xs _ hs hn).mono ?_
  rintro e w' ⟨rfl, rfl⟩
  go_wp2_with fail
  go_ret
  exact ⟨by rw [← H.out]; rfl, rfl⟩
theorem cloneI_any (A : Option Addr) (n c : Nat) (xs : List Int) (w : World) (hs : SlI w A n xs) (hn : n ≤ 1000) :
    Calls Try.prog 56 #[.slice A n c] w fun e w' => ∃ v, e = .returned v ∧ Own w w' 3 1 v n (xs.map iv) := by
  have hnil := fun W => Lib.run_eql_slice_nil (P := Try.prog) W 61 3 A n c 0 0 Try.underlying61
  rcases A with _ | ad
  · have h0 : n = 0 := by
      rcases Nat.eq_zero_or_pos n with h | h
      · exact h
      · obtain ⟨b, off, e, _⟩ := hs.1.2 (by omega)
        cases e
    subst h0
    have hx : xs = [] := List.eq_nil_of_length_eq_zero hs.2
    subst hx
    go_enter Try.func56, Try.ntmps56
    go_wp2_with fail
    go_ret
    exact ⟨_, rfl, Own.start (Kept.refl _)⟩
  · have hl := hs.2
    go_enter Try.func56, Try.ntmps56
    go_wp2_with (at_builtin; refine wpList_pushAll rfl _ _ 61 rfl 3 Try.underlying61 info_i64 rfl (by decide) (by decide) _ _ _ _ (Own.empty (Kept.refl w) 3 1 _ rfl) _ _ _ _ (hs.kept ((Kept.refl w).alloc _)).1 rfl rfl (one_ints _) n (by omega) (by omega) ?_; intro v' w3 hown3)
    go_ret
    refine ⟨_, rfl, ?_⟩
    simpa using hown3
/-- the values of a list -/
def varOf (xs : List Int) : Nat → Int := fun i => xs.getD i 0
theorem varOf_at {xs : List Int} {i : Nat} (h : i < xs.length) : varOf xs i = xs[i] := by
  unfold varOf
  rw [List.getD_eq_getElem?_getD, List.getElem?_eq_getElem h]
  rfl
theorem varOf_out {xs : List Int} {i : Nat} (h : xs.length ≤ i) : varOf xs i = 0 := by
  unfold varOf
  rw [List.getD_eq_getElem?_getD, List.getElem?_eq_none h]
  rfl
theorem varOf_vs (xs : List Int) : xs.map iv = vsV xs.length (varOf xs) := by
  unfold vsV
  apply List.ext_getElem
  · simp
  · intro i h1 h2
    have h3 : i < xs.length := by simpa using h1
    simp [varOf_at h3, iv]
theorem varOf_rng {xs : List Int} (h : xs.any badV = false) : Rng (varOf xs) := fun i => by
  by_cases hi : i < xs.length
  · rw [varOf_at hi]
    rw [List.any_eq_false] at h
    have := h _ (List.getElem_mem hi)
    unfold badV at this
    simp at this
    omega
  · rw [varOf_out (by omega)]; omega
def rnF (n : Int) (p : Ln) (xs : List Int) : Int := if wrF n p ≠ 0 then wrF n p else if (xs.length : Int) ≠ n then 3 else if xs.any badV = true then 4 else 0
theorem rnF_ok {n : Int} {p : Ln} {xs : List Int} (h : rnF n p xs = 0) : wrF n p = 0 ∧ (xs.length : Int) = n ∧ xs.any badV = false := by
  unfold rnF at h
  by_cases h1 : wrF n p ≠ 0
  · rw [if_pos h1] at h; exact absurd h h1
  · rw [if_neg h1] at h
    by_cases h2 : (xs.length : Int) ≠ n
    · rw [if_pos h2] at h; cases h
    · rw [if_neg h2] at h
      cases h3 : xs.any badV
      · exact ⟨Decidable.not_not.1 h1, Decidable.not_not.1 h2, rfl⟩
      · rw [if_pos h3] at h; cases h
def RetFRun (w : World) (n : Int) (p : Ln) (xs : List Int) (e : Ending) (w' : World) : Prop :=
  Kept w w' ∧ ((rnF n p xs ≠ 0 ∧ e = .returned (.tuple #[.slice none 0 0, .int .i64 (rnF n p xs)])) ∨
    (rnF n p xs = 0 ∧ ∃ (nn V cv : Nat), (nn : Int) = n ∧ e = .returned (.tuple #[.slice (some ⟨V, 0, none⟩) nn cv, .int .i64 0]) ∧ VarO w w' V nn cv (runL p (varOf xs))))
set_option maxRecDepth 100000 in
set_option maxHeartbeats 4000000 in
theorem flowRun_any (n : Int) (p : Ln) (A : Option Addr) (c : Nat) (xs : List Int) (A2 : Option Addr) (l2 c2 : Nat) (w : World) (hs : SlLn w A p) (hx : SlI w A2 l2 xs) :
    Calls Try.prog 33 #[.int .i64 n, .slice A p.len c, .slice A2 l2 c2] w (RetFRun w n p xs) := by
  have HW := Lib.hid (flowWrong_any n p A c w hs)
  have HRN := Lib.hid (show rnF n p xs = if wrF n p ≠ 0 then wrF n p else if (xs.length : Int) ≠ n then 3 else if xs.any badV = true then 4 else 0 from rfl)
  have HS := Lib.hid hs
  have HX := Lib.hid hx
  have HBAD := Lib.hid (fun (code : Int) (w' : World) (k : Kept w w') (h : rnF n p xs = code) (hc : code ≠ 0) => show RetFRun w n p xs (.returned (.tuple #[.slice none 0 0, .int .i64 code])) w' from ⟨k, .inl ⟨by rw [h]; exact hc, by rw [h]⟩⟩)
  have hx2 := hx.2
  by_cases h1 : wrF n p = 0
  · rw [h1] at HW
    obtain ⟨hn1, hn6, hln⟩ := wrF_ok h1
    have HLN := Lib.hid hln
    by_cases h2 : (l2 : Int) = n
    · obtain ⟨nn, rfl⟩ := Int.eq_ofNat_of_zero_le (show 0 ≤ n by omega)
      have hl2 : nn = l2 := by omega
      subst hl2
      have e2 : ((nn : Int) != (nn : Int)) = false := by simp
      have HR := Lib.hid (show rnF nn p xs = if xs.any badV = true then 4 else 0 by rw [HRN.out, if_neg (fun h => h h1), if_neg (fun h => h (by rw [hx2]))])
      have hp1 : 1 ≤ nn := by omega
      have hp6 : nn ≤ 6 := by omega
      have HX2 := Lib.hid hx2
      clear h1 h2 hn1 hn6 hln hs hx hx2 HRN
      cases hb : xs.any badV with
      | true =>
        have HF := Lib.hid (fun w' (k : Kept w w') => HBAD.out 4 w' k (by rw [HR.out, if_pos hb]) (by decide))
        have HB := Lib.hid hb
        clear hb
        go_enter Try.func33, Try.ntmps33
        go_wp2_with fail
        refine HW.out.mono ?_
        rintro e w1 ⟨rfl, k1⟩
        have HCN := Lib.hid (runContains_any A2 nn c2 xs w1 (HX.out.kept k1) (by omega))
        have HF1 := Lib.hid (HF.out w1 k1)
        clear k1
        go_wp2_with fail
        refine HCN.out.mono ?_
        rintro e w2 ⟨rfl, rfl⟩
        rw [HB.out]
        go_wp2_with fail
        go_ret2
        exact HF1.out
      | false =>
        have HB := Lib.hid hb
        have H0 := Lib.hid (show rnF nn p xs = 0 by rw [HR.out, if_neg (by rw [hb]; simp)])
        have HRG := Lib.hid (varOf_rng hb)
        clear hb
        go_enter Try.func33, Try.ntmps33
        go_wp2_with fail
        refine HW.out.mono ?_
        rintro e w1 ⟨rfl, k1⟩
        have HCN := Lib.hid (runContains_any A2 nn c2 xs w1 (HX.out.kept k1) (by omega))
        have HCL := Lib.hid (cloneI_any A2 nn c2 xs w1 (HX.out.kept k1) (by omega))
        have HK1 := Lib.hid k1
        clear k1
        go_wp2_with fail
        refine HCN.out.mono ?_
        rintro e w2 ⟨rfl, rfl⟩
        rw [HB.out]
        go_wp2_with fail
        refine HCL.out.mono ?_
        rintro e w2 ⟨v, rfl, hown⟩
        obtain ⟨A3, cv, rfl, _, _⟩ := hown.form
        obtain ⟨V, rfl, _, _⟩ := hown.block (by omega)
        have hvo : VarO w1 w2 V nn cv (varOf xs) := by
          have := hown
          rw [varOf_vs, HX2.out] at this
          exact this
        have HRUN := Lib.hid (run_any w1 V nn cv hp1 hp6 (p.wt + 1) p A c (varOf xs) w2 (by omega) (HS.out.kept HK1.out) HLN.out HRG.out hvo)
        clear hown hvo
        go_wp2_with fail
        refine HRUN.out.mono ?_
        rintro e w3 ⟨rfl, hv3, _⟩
        have FIN := Lib.hid (show RetFRun w (nn : Int) p xs (.returned (.tuple #[.slice (some ⟨V, 0, none⟩) nn cv, .int .i64 0])) w3 from ⟨HK1.out.trans hv3.2, .inr ⟨H0.out, nn, V, cv, rfl, rfl, ⟨⟨hv3.1.1, by
          rcases hv3.1.2 with hn | ⟨g, cap, cur, e, hb, rest⟩
          · exact .inl hn
          · exact .inr ⟨g, cap, cur, e, Nat.le_trans HK1.out.size hb, rest⟩⟩, HK1.out.trans hv3.2⟩⟩⟩)
        clear hv3
        go_wp2_with fail
        go_ret2
        exact FIN.out
    · have e2 : ((l2 : Int) != n) = true := by rw [bne_iff_ne]; exact h2
      have HF := Lib.hid (fun w' (k : Kept w w') => HBAD.out 3 w' k (by rw [HRN.out, if_neg (fun h => h h1), if_pos (by rw [hx2]; exact h2)]) (by decide))
      clear h1 h2 hn1 hn6 hln hs hx hx2 HRN
      go_enter Try.func33, Try.ntmps33
      go_wp2_with fail
      refine HW.out.mono ?_
      rintro e w1 ⟨rfl, k1⟩
      have HF1 := Lib.hid (HF.out w1 k1)
      clear k1
      go_wp2_with fail
      go_ret2
      exact HF1.out
  · have e1 : (wrF n p != 0) = true := by rw [bne_iff_ne]; exact h1
    have HF := Lib.hid (fun w' (k : Kept w w') => HBAD.out (wrF n p) w' k (by rw [HRN.out, if_pos h1]) h1)
    clear h1 hs hx hx2 HRN
    generalize wrF n p = ww at HW e1 HF
    go_enter Try.func33, Try.ntmps33
    go_wp2_with fail
    refine HW.out.mono ?_
    rintro e w1 ⟨rfl, k1⟩
    have HF1 := Lib.hid (HF.out w1 k1)
    clear k1
    go_wp2_with fail
    go_ret2
    exact HF1.out
end Go.Proofs.Ytnnddjanbfamkaa
