/- The walks of clause.Horn; and of the statements' side: Size, SatCheck, sat. -/
import Derived.Test.YtekpifobhgjepaaClause
import Derived.Test.YtekpifobhgjepaaHornP
namespace Go.Proofs.Ytekpifobhgjepaa
open Go Go.RowKit
set_option linter.unusedVariables false

theorem horn1_any (x : Ru) (w : World) : Calls Try.prog 39 #[.agg #[.int .u32 (W x.1), .int .u32 (W x.2)]] w fun e w' => e = .returned (.bool (multiB x)) ∧ Kept w w' := by
  have hka : Kept w (w.alloc (.cells #[.int .u32 (W x.1), .int .u32 (W x.2)] 29)) := (Kept.refl _).alloc _
  go_enter Try.func39, Try.ntmps39
  go_wp2
  go_ret
  exact ⟨rfl, hka⟩
theorem hornIndex_any (A : Option Addr) (n c : Nat) (xs : List Ru) (w : World) (hs : SlR w A n xs) (hn : n ≤ 1000) :
    Calls Try.prog 57 #[.slice A n c, .func (.func 39) #[] #[]] w fun e w' => e = .returned (.int .i64 (firstI multiB xs)) ∧ Kept w w' := by
  go_enter Try.func57, Try.ntmps57
  go_wp2_with fail
  go_loopw [8] (fun t wr => ∃ q : Nat, q ≤ n ∧ t = .int .i64 q ∧ Kept w wr ∧ Hid ((xs.take q).any multiB = false)) (fun t _ => n - (intOf t).toNat)
  case atStart => exact ⟨0, Nat.zero_le _, rfl, Kept.refl _, Lib.hid rfl⟩
  case round =>
    obtain ⟨q, hq, rfl, hkw, HN⟩ := hrel
    by_cases hlt : q < n
    · obtain ⟨b, off, hk, rfl, hb, cq, cq2⟩ := (hs.kept hkw).get q hlt
      have hsn := Lib.hid (any_snoc multiB xs q hk)
      have hhit := Lib.hid (firstI_hit multiB xs q hk HN.out)
      have hi1 : (0 : Int) ≤ (q : Int) := by omega
      have hi2 : (q : Int) < (n : Int) := by omega
      generalize xs[q] = x at cq cq2 hsn hhit
      cases hb1 : multiB x
      · have HB := Lib.hid hb1
        clear hb1
        go_wp2_with fail
        refine (horn1_any x _).mono ?_
        rintro e w' ⟨rfl, k1⟩
        rw [HB.out]
        go_wp2_with fail
        go_roundw
        case rel => exact ⟨q + 1, by omega, by go_num, hkw.trans k1, Lib.hid (by rw [hsn.out, HN.out, HB.out]; rfl)⟩
        case measure => simp [intOf]; omega
      · have HB := Lib.hid hb1
        clear hb1
        go_wp2_with fail
        refine (horn1_any x _).mono ?_
        rintro e w' ⟨rfl, k1⟩
        rw [HB.out]
        go_wp2_with fail
        go_ret
        exact ⟨by rw [hhit.out HB.out]; rfl, hkw.trans k1⟩
    · have HK := Lib.hid (take_all xs q (by rw [hs.2]; omega))
      go_wp2_with fail
      go_ret
      exact ⟨by rw [firstI_none _ _ (by rw [← HK.out]; exact HN.out)]; rfl, hkw⟩
theorem hornContains_any (A : Option Addr) (n c : Nat) (xs : List Ru) (w : World) (hs : SlR w A n xs) (hn : n ≤ 1000) :
    Calls Try.prog 38 #[.slice A n c, .func (.func 39) #[] #[]] w fun e w' => e = .returned (.bool (xs.any multiB)) ∧ Kept w w' := by
  have H := Lib.hid (firstI_ge multiB xs)
  go_enter Try.func38, Try.ntmps38
  go_wp2_with fail
  refine (hornIndex_any _ _ _ xs _ hs hn).mono ?_
  rintro e w' ⟨rfl, k1⟩
  go_wp2_with fail
  go_ret
  exact ⟨by rw [← H.out]; rfl, k1⟩
/-- what Horn hands back -/
def RetHorn (n : Int) (rs : List Ru) (w : World) (e : Ending) (w' : World) : Prop :=
  Kept w w' ∧ ((satF n rs ≠ 0 ∧ e = .returned (.tuple #[.int .u32 0, .int .i64 (satF n rs)])) ∨
  (satF n rs = 0 ∧ rs.any multiB = true ∧ e = .returned (.tuple #[.int .u32 0, .int .i64 3])) ∨
  ∃ v ok, satF n rs = 0 ∧ rs.any multiB = false ∧ e = .returned (.tuple #[.int .u32 (W v), .int .i64 (if ok then 0 else 5)]) ∧ Res n.toNat rs 0#32 0#32 v ok ∧ (ok = true → HInv rs v))
set_option maxHeartbeats 1000000 in
theorem horn_any (n : Int) (A : Option Addr) (len c : Nat) (rs : List Ru) (w : World) (hs : SlR w A len rs) :
    Calls Try.prog 16 #[.int .i64 n, .slice A len c] w (RetHorn n rs w) := by
  by_cases h0 : satF n rs = 0
  · obtain ⟨nn, rfl, h1, h6, hl, hok⟩ := satF_zero h0
    rw [hs.2] at hl
    have H0 := Lib.hid h0
    have HOK := Lib.hid hok
    clear h0 hok
    cases hmu : rs.any multiB
    · have HMU := Lib.hid hmu
      have HSG := Lib.hid (show ∀ r ∈ rs, r.1 = 0#32 ∨ ∃ i, i < 6 ∧ r.1 = 1#32 <<< i from fun r hr => single (fit_six h6 (fitB_sub (subB_or_left r.1 r.2) (HOK.out r hr))) (by rw [List.any_eq_false] at hmu; simpa using hmu r hr))
      clear hmu
      go_enter Try.func16, Try.ntmps16
      go_wp2_with fail
      refine (wrong_any nn A len c rs _ hs).mono ?_
      rintro e w1 ⟨rfl, k1⟩
      rw [H0.out]
      go_wp2_with fail
      refine (hornContains_any _ _ _ rs _ (hs.kept k1) (by omega)).mono ?_
      rintro e w2 ⟨rfl, k2⟩
      rw [HMU.out]
      have q2 := k1.trans k2
      go_wp2_with fail
      go_loopw [7, 8] (fun s m wr => ∃ S b, s = .int .u32 (W S) ∧ m = .bool b ∧ Kept w wr ∧ Hid (fitB nn S = true ∧ HInv rs S ∧ (b = false → trueB rs S = true))) (fun s m _ => 2 * (64 - wd s) + if boolOf m then 1 else 0)
      case atStart => exact ⟨0#32, true, rfl, rfl, q2, Lib.hid ⟨fitB_zero nn, HInv.start, fun h => by cases h⟩⟩
      case round =>
        obtain ⟨S, b, rfl, rfl, hkw, HI⟩ := hrel
        cases b
        · have FIN := Lib.hid (show RetHorn nn rs w (.returned (.tuple #[.int .u32 (W S), .int .i64 0])) wr from ⟨hkw, .inr (.inr ⟨S, true, H0.out, HMU.out, rfl, horn_res HI.out.1 HI.out.2.1 (HI.out.2.2 rfl), fun _ => HI.out.2.1⟩)⟩)
          go_wp2_with fail
          go_ret2
          exact FIN.out
        · go_wp2_with fail
          go_loopw [7, 24] (fun s t wr => ∃ (k : Nat) (S' : BitVec 32), k ≤ len ∧ t = .int .i64 k ∧ s = .int .u32 (W S') ∧ Kept w wr ∧ Hid (fitB nn S' = true ∧ HInv rs S' ∧ subB S S' = true ∧ (S' = S → ∀ r ∈ rs.take k, holdB S r = true))) (fun _ t _ => len - (intOf t).toNat)
          case atStart => exact ⟨0, S, Nat.zero_le _, rfl, rfl, hkw, Lib.hid ⟨HI.out.1, HI.out.2.1, subB_refl S, fun _ r hr => by simp at hr⟩⟩
          case round =>
            obtain ⟨k, S', hk, rfl, rfl, hkw2, HJ⟩ := hrel
            by_cases hlt : k < len
            · obtain ⟨bk, off, hkr, rfl, hb, c1, c2⟩ := (hs.kept hkw2).get k hlt
              have HMEM := Lib.hid (show rs[k] ∈ rs from List.getElem_mem hkr)
              have HTK := Lib.hid (show rs.take (k + 1) = rs.take k ++ [rs[k]] from take_snoc rs k hkr)
              generalize rs[k] = r at c1 c2 HMEM HTK
              obtain ⟨p, q⟩ := r
              simp only at c1 c2
              have hi1 : (0 : Int) ≤ (k : Int) := by omega
              have hi2 : (k : Int) < (len : Int) := by omega
              have hka := hkw2.alloc (.cells #[.int .u32 (W p), .int .u32 (W q)] 29)
              have SKIP := Lib.hid (show ¬ (q &&& ~~~S' = 0#32 ∧ p &&& S' = 0#32) → (S' = S → ∀ r ∈ rs.take (k + 1), holdB S r = true) from fun hn hS r hr => by
                rw [HTK.out, List.mem_append, List.mem_singleton] at hr
                rcases hr with hr | rfl
                · exact HJ.out.2.2.2 hS r hr
                · rw [← hS]; exact hold_of hn)
              cases hq : (q &&& ~~~S' == 0#32)
              · have HN := Lib.hid (SKIP.out (fun h => by rw [h.1] at hq; simp at hq))
                go_wp2_with fail
                go_roundw
                case rel => exact ⟨k + 1, S', by omega, by go_num, rfl, hka, Lib.hid ⟨HJ.out.1, HJ.out.2.1, HJ.out.2.2.1, HN.out⟩⟩
                case measure => simp [intOf]; omega
              · cases hp : (p &&& S' == 0#32)
                · have HN := Lib.hid (SKIP.out (fun h => by rw [h.2] at hp; simp at hp))
                  go_wp2_with fail
                  go_roundw
                  case rel => exact ⟨k + 1, S', by omega, by go_num, rfl, hka, Lib.hid ⟨HJ.out.1, HJ.out.2.1, HJ.out.2.2.1, HN.out⟩⟩
                  case measure => simp [intOf]; omega
                · have HQ := Lib.hid (show q &&& ~~~S' = 0#32 by simpa using hq)
                  have HP := Lib.hid (show p &&& S' = 0#32 by simpa using hp)
                  cases hz : (p == 0#32)
                  · have HZ := Lib.hid (show p ≠ 0#32 by simpa using hz)
                    have HB := Lib.hid ((HSG.out _ HMEM.out).resolve_left HZ.out)
                    have HNEW := Lib.hid (HJ.out.2.1.step HMEM.out HQ.out HB.out)
                    have HFIT := Lib.hid (show fitB nn (S' ||| p) = true by rw [fitB_or, HJ.out.1, fitB_sub (subB_or_left p q) (HOK.out _ HMEM.out)]; rfl)
                    have HNE := Lib.hid (show S' ||| p ≠ S from fun h => by
                      obtain ⟨i, _, e⟩ := HB.out
                      have e2 : p = 1#32 <<< i := e
                      have hpi : p.getLsbD i = true := by rw [e2]; exact one_self (by omega)
                      have hS : S.getLsbD i = true := by rw [← h, BitVec.getLsbD_or, hpi]; simp
                      have := subB_iff.1 HJ.out.2.2.1 i hS
                      rw [and_zero HP.out i hpi] at this
                      cases this)
                    go_wp2_with fail
                    go_roundw
                    case rel => exact ⟨k + 1, _, by omega, by go_num, rfl, hka, Lib.hid ⟨HFIT.out, HNEW.out, subB_trans HJ.out.2.2.1 (subB_or_left S' p), fun h => absurd h HNE.out⟩⟩
                    case measure => simp [intOf]; omega
                  · have HZ := Lib.hid (HJ.out.2.1.none HMEM.out HQ.out (show p = 0#32 by simpa using hz))
                    have FIN := Lib.hid (show RetHorn nn rs w (.returned (.tuple #[.int .u32 0, .int .i64 5])) _ from ⟨hka, .inr (.inr ⟨0#32, false, H0.out, HMU.out, rfl, horn_none HZ.out, fun h => by cases h⟩)⟩)
                    go_wp2_with fail
                    go_ret2
                    exact FIN.out
            · have HK := Lib.hid (show rs.take k = rs from List.take_of_length_le (by rw [hs.2]; omega))
              cases hne : (S' != S)
              · have HE := Lib.hid (show S' = S by simpa using hne)
                go_wp2_with fail
                go_roundw
                case rel => exact ⟨S', false, rfl, rfl, hkw2, Lib.hid ⟨HJ.out.1, HJ.out.2.1, fun _ => by rw [HE.out]; exact trueB_iff.2 fun r hr => HJ.out.2.2.2 HE.out r (by rw [HK.out]; exact hr)⟩⟩
                case measure =>
                  rw [wd_W, wd_W, HE.out]
                  show 2 * (64 - S.toNat) + 0 < 2 * (64 - S.toNat) + 1
                  omega
              · have HE := Lib.hid (show S' ≠ S by simpa using hne)
                go_wp2_with fail
                go_roundw
                case rel => exact ⟨S', true, rfl, rfl, hkw2, Lib.hid ⟨HJ.out.1, HJ.out.2.1, fun h => by cases h⟩⟩
                case measure =>
                  rw [wd_W, wd_W]
                  have h1 := subB_lt HJ.out.2.2.1 (fun h => HE.out h.symm)
                  have h2 := lt64 h6 HJ.out.1
                  show 2 * (64 - S'.toNat) + 1 < 2 * (64 - S.toNat) + 1
                  omega
    · have HMU := Lib.hid hmu
      clear hmu
      go_enter Try.func16, Try.ntmps16
      go_wp2_with fail
      refine (wrong_any nn A len c rs _ hs).mono ?_
      rintro e w1 ⟨rfl, k1⟩
      rw [H0.out]
      go_wp2_with fail
      refine (hornContains_any _ _ _ rs _ (hs.kept k1) (by omega)).mono ?_
      rintro e w2 ⟨rfl, k2⟩
      rw [HMU.out]
      go_wp2_with fail
      go_ret2
      exact ⟨k1.trans k2, .inr (.inl ⟨H0.out, HMU.out, rfl⟩)⟩
  · have hne : (satF n rs != 0) = true := by simpa using h0
    have H0 := Lib.hid h0
    clear h0
    go_enter Try.func16, Try.ntmps16
    go_wp2_with fail
    refine (wrong_any n A len c rs _ hs).mono ?_
    rintro e w1 ⟨rfl, k1⟩
    go_wp2_with fail
    go_ret2
    exact ⟨k1, .inl ⟨H0.out, rfl⟩⟩
end Go.Proofs.Ytekpifobhgjepaa
