/- ClauseHorn: the walk of the statement. -/
import Derived.Test.YtekpifobhgjepaaHorn2
namespace Go.Proofs.Ytekpifobhgjepaa.clauseHornDone
open Go Go.RowKit
set_option linter.unusedVariables false

theorem hornA {n : Int} {A : Option Addr} {len c : Nat} {rs : List Ru} (w : World) (hs : SlR w A len rs) (h : satF n rs ≠ 0 ∨ rs.any multiB = true) :
    Calls Try.prog 16 #[.int .i64 n, .slice A len c] w fun e w' => ∃ E : Int, E ≠ 0 ∧ e = .returned (.tuple #[.int .u32 0, .int .i64 E]) ∧ Kept w w' := by
  refine (horn_any n A len c rs w hs).mono ?_
  rintro e w' ⟨k, ⟨h0, he⟩ | ⟨h0, h1, he⟩ | ⟨v, ok, h0, h1, _⟩⟩
  · exact ⟨_, h0, he, k⟩
  · exact ⟨3, by omega, he, k⟩
  · rcases h with h | h
    · exact absurd h0 h
    · rw [h1] at h; cases h
theorem solveA {n : Int} {A : Option Addr} {len c : Nat} {rs : List Ru} (w : World) (hs : SlR w A len rs) :
    Calls Try.prog 12 #[.int .i64 n, .slice A len c] w fun e w' => ∃ (T : BitVec 32) (F : Int), (satF n rs ≠ 0 → F ≠ 0) ∧ e = .returned (.tuple #[.int .u32 (W T), .int .i64 F]) ∧ Kept w w' := by
  refine (solve_any n A len c rs w hs).mono ?_
  rintro e w' (⟨h0, he, k⟩ | ⟨v, ok, h0, he, _, k⟩)
  · exact ⟨0#32, _, fun h => h, he, k⟩
  · exact ⟨v, _, fun h => absurd h0 h, he, k⟩
theorem size_none {n : Int} {rs : List Ru} (h0 : satF n rs = 0) (h : ∀ r ∈ rs, decide (1 < sizeN r.1 32) = false) : rs.any multiB = false := by
  obtain ⟨nn, rfl, h1, h6, hl, hok⟩ := satF_zero h0
  rw [List.any_eq_false]
  intro r hr
  rw [← multi_size (fit_six h6 (fitB_sub (subB_or_left r.1 r.2) (hok r hr))), h r hr]
  simp
set_option maxHeartbeats 1000000 in
theorem bad (n : Int) (A : Option Addr) (len c : Nat) (rs : List Ru) (a b : BitVec 32) (w : World) (hl : len ≤ maxLen) (hs : SlR w A len rs) (h : satF n rs ≠ 0 ∨ rs.any multiB = true) :
    Calls Try.prog 4 #[.int .i64 n, .slice A len c, .int .u32 (W a), .int .u32 (W b)] w fun e w' => e = .returned (.bool true) ∧ Kept w w' := by
  have hl63 : len ≤ 9223372036854775807 := hl
  have HH := Lib.hid h
  clear h hl
  go_enter Try.func4, Try.ntmps4
  go_wp2_with fail
  refine (hornA w hs HH.out).mono ?_
  rintro e w1 ⟨E, hE, rfl, k1⟩
  go_wp2_with fail
  refine (solveA w1 (hs.kept k1)).mono ?_
  rintro e w2 ⟨T, F, hF, rfl, k2⟩
  have q2 := k1.trans k2
  have HF := Lib.hid hF
  have hEb : (E != 0) = true := by simpa using hE
  clear hF
  go_wp2_with fail
  go_loopw [29] (fun t wr => ∃ k : Nat, k ≤ len ∧ t = .int .i64 k ∧ Kept w wr ∧ Hid (∀ r ∈ rs.take k, decide (1 < sizeN r.1 32) = false)) (fun t _ => len - (intOf t).toNat)
  case atStart => exact ⟨0, Nat.zero_le _, rfl, q2, Lib.hid fun r hr => by simp at hr⟩
  case round =>
    obtain ⟨k, hk, rfl, hkw, HA⟩ := hrel
    by_cases hlt : k < len
    · obtain ⟨bk, off, hkr, rfl, hb, c1, c2⟩ := (hs.kept hkw).get k hlt
      have HTK := Lib.hid (show rs.take (k + 1) = rs.take k ++ [rs[k]] from take_snoc rs k hkr)
      generalize rs[k] = r at c1 c2 HTK
      obtain ⟨p, q⟩ := r
      simp only at c1 c2
      have hi1 : (0 : Int) ≤ (k : Int) := by omega
      have hi2 : (k : Int) < (len : Int) := by omega
      have hka := hkw.alloc (.cells #[.int .u32 (W p), .int .u32 (W q)] 29)
      have hSZ := fun w => satSize_any p w
      have HD := Lib.hid (show ∀ r : Ru, r = (p, q) → sizeN r.1 32 = sizeN p 32 from fun r e => by rw [e])
      obtain ⟨z, hz⟩ : ∃ z : Nat, sizeN p 32 = z := ⟨_, rfl⟩
      have HZ := Lib.hid hz
      rw [hz] at hSZ
      clear hz
      by_cases h1 : 1 < z
      · have d1 : decide (1 < (z : Int)) = true := by simp; omega
        go_wp2_with fail
        refine (hSZ _).mono ?_
        rintro e w4 ⟨rfl, rfl⟩
        go_wp2_with fail
        go_ret
        exact ⟨rfl, hka⟩
      · have d1 : decide (1 < (z : Int)) = false := by simp; omega
        have HN := Lib.hid h1
        clear h1
        go_wp2_with fail
        refine (hSZ _).mono ?_
        rintro e w4 ⟨rfl, rfl⟩
        go_wp2_with fail
        go_roundw
        case rel => exact ⟨k + 1, by omega, by go_num, hka, Lib.hid fun r hr => by
          rw [HTK.out, List.mem_append, List.mem_singleton] at hr
          rcases hr with hr | hr
          · exact HA.out r hr
          · rw [HD.out r hr, HZ.out]; simpa using HN.out⟩
        case measure => simp [intOf]; omega
    · have hall : ∀ r ∈ rs, decide (1 < sizeN r.1 32) = false := fun r hr => HA.out r (by rw [List.take_of_length_le (by rw [hs.2]; omega)]; exact hr)
      have h0 : satF n rs ≠ 0 := fun h0 => by
        rcases HH.out with h | h
        · exact h h0
        · rw [size_none h0 hall] at h; cases h
      have h0b : (satF n rs == 0) = false := by simpa using h0
      have hFb : (F != 0) = true := by simpa using HF.out h0
      have HS := Lib.hid h0b
      clear h0 hall h0b
      go_wp2_with fail
      refine (sat_any n A len c rs _ (hs.kept hkw)).mono ?_
      rintro e w4 ⟨rfl, k4⟩
      rw [HS.out]
      go_wp2_with fail
      go_ret
      exact ⟨rfl, hkw.trans k4⟩
theorem hornB {n : Int} {A : Option Addr} {len c : Nat} {rs : List Ru} (w : World) (hs : SlR w A len rs) (h : satF n rs = 0) (hm : rs.any multiB = false) :
    Calls Try.prog 16 #[.int .i64 n, .slice A len c] w fun e w' => ∃ (v : BitVec 32) (ok : Bool) (E : Int), Res n.toNat rs 0#32 0#32 v ok ∧ (ok = true → HInv rs v) ∧ (if ok then 0 else 5) = E ∧ e = .returned (.tuple #[.int .u32 (W v), .int .i64 E]) ∧ Kept w w' := by
  refine (horn_any n A len c rs w hs).mono ?_
  rintro e w' ⟨k, ⟨h0, he⟩ | ⟨h0, h1, he⟩ | ⟨v, ok, h0, h1, he, hr, hi⟩⟩
  · exact absurd h h0
  · rw [hm] at h1; cases h1
  · exact ⟨v, ok, _, hr, hi, rfl, he, k⟩
theorem solveB {n : Int} {A : Option Addr} {len c : Nat} {rs : List Ru} {v : BitVec 32} {ok : Bool} {E : Int} (w : World) (hs : SlR w A len rs) (h : satF n rs = 0) (hr : Res n.toNat rs 0#32 0#32 v ok) (hE : (if ok then 0 else 5) = E) :
    Calls Try.prog 12 #[.int .i64 n, .slice A len c] w fun e w' => e = .returned (.tuple #[.int .u32 (W v), .int .i64 E]) ∧ Kept w w' := by
  refine (solve_any n A len c rs w hs).mono ?_
  rintro e w' (⟨h0, he, k⟩ | ⟨v', ok', h0, he, hr', k⟩)
  · exact absurd h h0
  · obtain ⟨rfl, rfl⟩ := hr.uniq hr'
    rw [hE] at he
    exact ⟨he, k⟩
theorem true_is {A : Option Addr} {n c : Nat} {rs : List Ru} {s : BitVec 32} {b : Bool} (hb : trueB rs s = b) (w : World) (hs : SlR w A n rs) (hn : n ≤ 1000) :
    Calls Try.prog 15 #[.slice A n c, .int .u32 (W s)] w fun e w' => e = .returned (.bool b) ∧ Kept w w' := by
  rw [← hb]
  exact true_any A n c rs s w hs hn
set_option maxHeartbeats 1000000 in
theorem good (n : Int) (A : Option Addr) (len c : Nat) (rs : List Ru) (a b : BitVec 32) (w : World) (hs : SlR w A len rs) (h0 : satF n rs = 0) (hm : rs.any multiB = false) :
    Calls Try.prog 4 #[.int .i64 n, .slice A len c, .int .u32 (W a), .int .u32 (W b)] w fun e w' => e = .returned (.bool true) ∧ Kept w w' := by
  obtain ⟨nn, rfl, h1, h6, hl, hok⟩ := satF_zero h0
  rw [hs.2] at hl
  have hlen : len ≤ 1000 := by omega
  have H0 := Lib.hid h0
  have HM := Lib.hid hm
  have HFIT := Lib.hid (show ∀ r ∈ rs, fitB 6 r.1 = true from fun r hr => fit_six h6 (fitB_sub (subB_or_left r.1 r.2) (hok r hr)))
  have HMU := Lib.hid (show ∀ r ∈ rs, multiB r = false from fun r hr => by rw [List.any_eq_false] at hm; simpa using hm r hr)
  have HSZ := Lib.hid (show ∀ r ∈ rs, ¬ 1 < sizeN r.1 32 from fun r hr => by
    have := multi_size (HFIT.out r hr)
    rw [HMU.out r hr] at this
    simpa using this)
  have HMEET := Lib.hid (horn_meet (a := a) (b := b) HFIT.out HMU.out)
  clear h0 hm hok
  go_enter Try.func4, Try.ntmps4
  go_wp2_with fail
  refine (hornB w hs H0.out HM.out).mono ?_
  rintro e w1 ⟨v, ok, E, hr, hi, hE, rfl, k1⟩
  have HR := Lib.hid hr
  have HI := Lib.hid hi
  have HE := Lib.hid hE
  clear hr hi hE
  go_wp2_with fail
  refine (solveB w1 (hs.kept k1) H0.out HR.out HE.out).mono ?_
  rintro e w2 ⟨rfl, k2⟩
  have q2 := k1.trans k2
  go_wp2_with fail
  go_loopw [29] (fun t wr => ∃ k : Nat, k ≤ len ∧ t = .int .i64 k ∧ Kept w wr) (fun t _ => len - (intOf t).toNat)
  case atStart => exact ⟨0, Nat.zero_le _, rfl, q2⟩
  case round =>
    obtain ⟨k, hk, rfl, hkw⟩ := hrel
    by_cases hlt : k < len
    · obtain ⟨bk, off, hkr, rfl, hb, c1, c2⟩ := (hs.kept hkw).get k hlt
      have HNO := Lib.hid (HSZ.out rs[k] (List.getElem_mem hkr))
      generalize rs[k] = r at c1 c2 HNO
      obtain ⟨p, q⟩ := r
      simp only at c1 c2
      have hno := HNO.out
      simp only at hno
      have hi1 : (0 : Int) ≤ (k : Int) := by omega
      have hi2 : (k : Int) < (len : Int) := by omega
      have hka := hkw.alloc (.cells #[.int .u32 (W p), .int .u32 (W q)] 29)
      have hSZ := fun w => satSize_any p w
      obtain ⟨z, hz⟩ : ∃ z : Nat, sizeN p 32 = z := ⟨_, rfl⟩
      rw [hz] at hSZ hno
      clear hz
      have d1 : decide (1 < (z : Int)) = false := by simp; omega
      clear hno
      go_wp2_with fail
      refine (hSZ _).mono ?_
      rintro e w4 ⟨rfl, rfl⟩
      go_wp2_with fail
      go_roundw
      case rel => exact ⟨k + 1, by omega, by go_num, hka⟩
      case measure => simp [intOf]; omega
    · have h0b : (satF nn rs == 0) = true := by rw [H0.out]; rfl
      have HS := Lib.hid h0b
      clear h0b
      go_wp2_with fail
      refine (sat_any nn A len c rs _ (hs.kept hkw)).mono ?_
      rintro e w4 ⟨rfl, k4⟩
      rw [HS.out]
      have q4 := hkw.trans k4
      have hEE : (E != E) = false := by simp
      have hvv : (v != v) = false := by simp
      cases ok
      · obtain rfl : E = 5 := HE.out.symm
        go_wp2_with fail
        go_ret
        exact ⟨rfl, q4⟩
      · obtain rfl : E = 0 := HE.out.symm
        have HT := Lib.hid (show trueB rs v = true from by
          rcases HR.out with ⟨_, h, _⟩ | ⟨h, _⟩
          · exact trueB_iff.2 h.2.2.2
          · cases h)
        go_wp2_with fail
        refine (true_is HT.out _ (hs.kept q4) hlen).mono ?_
        rintro e w5 ⟨rfl, k5⟩
        have q5 := q4.trans k5
        cases hta : trueB rs a
        · go_wp2_with fail
          refine (true_is hta _ (hs.kept q5) hlen).mono ?_
          rintro e w6 ⟨rfl, k6⟩
          go_wp2_with fail
          go_ret
          exact ⟨rfl, q5.trans k6⟩
        · cases htb : trueB rs b
          · go_wp2_with fail
            refine (true_is hta _ (hs.kept q5) hlen).mono ?_
            rintro e w6 ⟨rfl, k6⟩
            have q6 := q5.trans k6
            go_wp2_with fail
            refine (true_is htb _ (hs.kept q6) hlen).mono ?_
            rintro e w7 ⟨rfl, k7⟩
            go_wp2_with fail
            go_ret
            exact ⟨rfl, q6.trans k7⟩
          · have HSUB := Lib.hid (show subB v (a &&& b) = true from HI.out (by simp) _ (HMEET.out hta htb))
            go_wp2_with fail
            refine (true_is hta _ (hs.kept q5) hlen).mono ?_
            rintro e w6 ⟨rfl, k6⟩
            have q6 := q5.trans k6
            go_wp2_with fail
            refine (true_is htb _ (hs.kept q6) hlen).mono ?_
            rintro e w7 ⟨rfl, k7⟩
            have q7 := q6.trans k7
            go_wp2_with fail
            refine (true_is (HMEET.out hta htb) _ (hs.kept q7) hlen).mono ?_
            rintro e w8 ⟨rfl, k8⟩
            go_wp2_with fail
            refine (satIn_any v (a &&& b) _).mono ?_
            rintro e w9 ⟨rfl, rfl⟩
            rw [HSUB.out]
            go_wp2_with fail
            go_ret
            exact ⟨rfl, q7.trans k8⟩
theorem clauseHorn_walk (n : Int) (A : Option Addr) (len c : Nat) (rs : List Ru) (a b : BitVec 32) (w : World) (_wn : (Lit.int .i64 n).wf = true) (hl : len ≤ maxLen) (hs : SlR w A len rs) :
    Calls Try.prog 4 #[.int .i64 n, .slice A len c, .int .u32 (W a), .int .u32 (W b)] w fun e w' => e = .returned (.bool true) ∧ Below w.heap.size w w' := by
  suffices h : Calls Try.prog 4 #[.int .i64 n, .slice A len c, .int .u32 (W a), .int .u32 (W b)] w fun e w' => e = .returned (.bool true) ∧ Kept w w' from h.mono fun e w' ⟨h1, h2⟩ => ⟨h1, h2.below⟩
  by_cases h0 : satF n rs = 0
  · cases hm : rs.any multiB
    · exact good n A len c rs a b w hs h0 hm
    · exact bad n A len c rs a b w hl hs (.inr hm)
  · exact bad n A len c rs a b w hl hs (.inl h0)
end Go.Proofs.Ytekpifobhgjepaa.clauseHornDone
