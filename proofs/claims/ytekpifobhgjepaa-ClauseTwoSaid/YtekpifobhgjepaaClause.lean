/- The walks of package clause: wrong, Solve; and of the statements' side: Fits, In, True, SatCheck, sat. -/
import Derived.Test.YtekpifobhgjepaaSearch
import Derived.Test.YtekpifobhgjepaaFirst
namespace Go.Proofs.Ytekpifobhgjepaa
open Go Go.RowKit
set_option linter.unusedVariables false

theorem satFits_any (n : Nat) (hn : n < 32) (x : BitVec 32) (w : World) : Calls Try.prog 56 #[.int .i64 n, .int .u32 (W x)] w fun e w' => e = .returned (.bool (fitB n x)) ∧ w = w' := by
  have h1 : decide (32 ≤ (n : Int)) = false := by simp; omega
  rw [fitB_lt hn]
  go_enter Try.func56, Try.ntmps56
  go_wp2
  go_ret
  exact ⟨rfl, rfl⟩
theorem satIn_any (x y : BitVec 32) (w : World) : Calls Try.prog 18 #[.int .u32 (W x), .int .u32 (W y)] w fun e w' => e = .returned (.bool (subB x y)) ∧ w = w' := by
  go_enter Try.func18, Try.ntmps18
  go_wp2
  go_ret
  exact ⟨rfl, rfl⟩
/-- a clause that has a variable beyond n -/
def misB (n : Nat) (r : Ru) : Bool := !fitB n (r.1 ||| r.2)
theorem misB_eq (n : Nat) (r : Ru) : misB n r = (!fitB n r.1 || !fitB n r.2) := by
  unfold misB
  rw [fitB_or]
  cases fitB n r.1 <;> cases fitB n r.2 <;> rfl
theorem clauseWrong1_any (n : Nat) (p : Addr) (x : Ru) (w : World) (hp : w.cell? p = some (.int .i64 n)) (hlt : p.block < w.heap.size) (hn6 : n ≤ 6) :
    Calls Try.prog 53 #[.agg #[.int .u32 (W x.1), .int .u32 (W x.2)], .pointer (some p)] w fun e w' => e = .returned (.bool (misB n x)) ∧ Kept w w' := by
  have hka : Kept w (w.alloc (.cells #[.int .u32 (W x.1), .int .u32 (W x.2)] 29)) := (Kept.refl _).alloc _
  have e0 := (hka.cell (p := p) hlt).trans hp
  go_enter Try.func53, Try.ntmps53
  go_wp2
  go_ret
  exact ⟨rfl, hka⟩
theorem clauseWrongIndex_any (nn : Nat) (p : Addr) (A : Option Addr) (n c : Nat) (xs : List Ru) (w : World) (hs : SlR w A n xs) (hn : n ≤ 1000) (hp : w.cell? p = some (.int .i64 nn)) (hpl : p.block < w.heap.size) (hn6 : nn ≤ 6) :
    Calls Try.prog 57 #[.slice A n c, .func (.func 53) #[] #[.pointer (some p)]] w fun e w' => e = .returned (.int .i64 (firstI (misB nn) xs)) ∧ Kept w w' := by
  go_enter Try.func57, Try.ntmps57
  go_wp2_with fail
  go_loopw [8] (fun t wr => ∃ q : Nat, q ≤ n ∧ t = .int .i64 q ∧ Kept w wr ∧ Hid ((xs.take q).any (misB nn) = false)) (fun t _ => n - (intOf t).toNat)
  case atStart => exact ⟨0, Nat.zero_le _, rfl, Kept.refl _, Lib.hid rfl⟩
  case round =>
    obtain ⟨q, hq, rfl, hkw, HN⟩ := hrel
    by_cases hlt : q < n
    · obtain ⟨b, off, hk, rfl, hb, cq, cq2⟩ := (hs.kept hkw).get q hlt
      have hsn := Lib.hid (any_snoc (misB nn) xs q hk)
      have hhit := Lib.hid (firstI_hit (misB nn) xs q hk HN.out)
      have e0 := (hkw.cell (p := p) hpl).trans hp
      have hpl2 : p.block < wr.heap.size := Nat.lt_of_lt_of_le hpl hkw.size
      have hi1 : (0 : Int) ≤ (q : Int) := by omega
      have hi2 : (q : Int) < (n : Int) := by omega
      generalize xs[q] = x at cq cq2 hsn hhit
      cases hb1 : misB nn x
      · have HB := Lib.hid hb1
        clear hb1
        go_wp2_with fail
        refine (clauseWrong1_any nn p x _ e0 hpl2 hn6).mono ?_
        rintro e w' ⟨rfl, k1⟩
        rw [HB.out]
        go_wp2_with fail
        go_roundw
        case rel => exact ⟨q + 1, by omega, by go_num, hkw.trans k1, Lib.hid (by rw [hsn.out, HN.out, HB.out]; rfl)⟩
        case measure => simp [intOf]; omega
      · have HB := Lib.hid hb1
        clear hb1
        go_wp2_with fail
        refine (clauseWrong1_any nn p x _ e0 hpl2 hn6).mono ?_
        rintro e w' ⟨rfl, k1⟩
        rw [HB.out]
        go_wp2_with fail
        go_ret
        exact ⟨by rw [hhit.out HB.out]; rfl, hkw.trans k1⟩
    · have HK := Lib.hid (take_all xs q (by rw [hs.2]; omega))
      go_wp2_with fail
      go_ret
      exact ⟨by rw [firstI_none _ _ (by rw [← HK.out]; exact HN.out)]; rfl, hkw⟩
theorem clauseWrongContains_any (nn : Nat) (p : Addr) (A : Option Addr) (n c : Nat) (xs : List Ru) (w : World) (hs : SlR w A n xs) (hn : n ≤ 1000) (hp : w.cell? p = some (.int .i64 nn)) (hpl : p.block < w.heap.size) (hn6 : nn ≤ 6) :
    Calls Try.prog 38 #[.slice A n c, .func (.func 53) #[] #[.pointer (some p)]] w fun e w' => e = .returned (.bool (xs.any (misB nn))) ∧ Kept w w' := by
  have H := Lib.hid (firstI_ge (misB nn) xs)
  go_enter Try.func38, Try.ntmps38
  go_wp2_with fail
  refine (clauseWrongIndex_any nn p _ _ _ xs _ hs hn hp hpl hn6).mono ?_
  rintro e w' ⟨rfl, k1⟩
  go_wp2_with fail
  go_ret
  exact ⟨by rw [← H.out]; rfl, k1⟩
/-- the code of the clauses' check -/
def satF (n : Int) (rs : List Ru) : Int := if n < 1 ∨ 6 < n ∨ 16 < rs.length then 1 else if rs.any (misB n.toNat) then 4 else 0
theorem guards16 {n : Int} {len : Nat} (hbad : n < 1 ∨ 6 < n ∨ 16 < len) : decide (n < 1) = true ∨ (decide (n < 1) = false ∧ decide (6 < n) = true) ∨ (decide (n < 1) = false ∧ decide (6 < n) = false ∧ decide (16 < (len : Int)) = true) := by
  simp
  omega
theorem wrong_any (n : Int) (A : Option Addr) (len c : Nat) (rs : List Ru) (w : World) (hs : SlR w A len rs) :
    Calls Try.prog 35 #[.int .i64 n, .slice A len c] w fun e w' => e = .returned (.int .i64 (satF n rs)) ∧ Kept w w' := by
  have hka : Kept w (w.alloc (.cells #[.int .i64 n] 3)) := (Kept.refl _).alloc _
  have bx := Box.new w #[.int .i64 n] 3 w.heap.size rfl
  by_cases hbad : n < 1 ∨ 6 < n ∨ 16 < len
  · have HF := Lib.hid (show satF n rs = 1 by unfold satF; rw [if_pos (by rw [hs.2]; exact hbad)])
    have e0 := bx.at_ 0 rfl
    rcases guards16 hbad with d1 | ⟨d1, d2⟩ | ⟨d1, d2, d3⟩
    all_goals
      clear hbad
      go_enter Try.func35, Try.ntmps35
      go_wp2_with fail
      go_ret
      exact ⟨by rw [HF.out]; rfl, hka⟩
  · obtain ⟨nn, rfl⟩ := Int.eq_ofNat_of_zero_le (show 0 ≤ n by omega)
    have HF := Lib.hid (show satF nn rs = if rs.any (misB nn) then 4 else 0 by unfold satF; rw [if_neg (by rw [hs.2]; exact hbad)]; rfl)
    have d1 : decide ((nn : Int) < 1) = false := by simp; omega
    have d2 : decide (6 < (nn : Int)) = false := by simp; omega
    have d3 : decide (16 < (len : Int)) = false := by simp; omega
    have hn6 : nn ≤ 6 := by omega
    have hlen : len ≤ 1000 := by omega
    have e0 := bx.at_ 0 rfl
    clear hbad
    cases hb : rs.any (misB nn)
    all_goals
      have HB := Lib.hid hb
      clear hb
      go_enter Try.func35, Try.ntmps35
      go_wp2_with fail
      refine (clauseWrongContains_any nn ⟨w.heap.size, 0, none⟩ _ _ _ rs _ (hs.kept hka) hlen e0 (by simp) hn6).mono ?_
      rintro e w1 ⟨rfl, k1⟩
      rw [HB.out]
      go_wp2_with fail
      go_ret
      exact ⟨by rw [HF.out, HB.out]; rfl, hka.trans k1⟩
/-- what Solve hands back -/
def RetSolve (n : Int) (rs : List Ru) (w : World) (e : Ending) (w' : World) : Prop :=
  (satF n rs ≠ 0 ∧ e = .returned (.tuple #[.int .u32 0, .int .i64 (satF n rs)]) ∧ Kept w w') ∨
  ∃ v ok, satF n rs = 0 ∧ e = .returned (.tuple #[.int .u32 (W v), .int .i64 (if ok then 0 else 5)]) ∧ Res n.toNat rs 0#32 0#32 v ok ∧ Kept w w'
theorem satF_zero {n : Int} {rs : List Ru} (h : satF n rs = 0) : ∃ nn : Nat, n = nn ∧ 1 ≤ nn ∧ nn ≤ 6 ∧ rs.length ≤ 16 ∧ ∀ r ∈ rs, fitB nn (r.1 ||| r.2) = true := by
  unfold satF at h
  split at h
  · cases h
  · rename_i hb
    obtain ⟨nn, rfl⟩ := Int.eq_ofNat_of_zero_le (show 0 ≤ n by omega)
    refine ⟨nn, rfl, by omega, by omega, by omega, fun r hr => ?_⟩
    split at h
    · cases h
    · rename_i ha
      have := mt (fun h2 => List.any_eq_true.2 ⟨r, hr, h2⟩) ha
      rw [Int.toNat_natCast] at this
      unfold misB at this
      simpa using this
theorem st_zero (n : Nat) : St n 0#32 0#32 := ⟨fitB_zero n, fitB_zero n, fun i hi => by simp at hi⟩
theorem solve_any (n : Int) (A : Option Addr) (len c : Nat) (rs : List Ru) (w : World) (hs : SlR w A len rs) :
    Calls Try.prog 12 #[.int .i64 n, .slice A len c] w (RetSolve n rs w) := by
  by_cases h0 : satF n rs = 0
  · obtain ⟨nn, rfl, h1, h6, hl, hok⟩ := satF_zero h0
    rw [hs.2] at hl
    have H0 := Lib.hid h0
    have HS := Lib.hid (fun w2 (k : Kept w w2) => search_any nn h6 A len c rs (by omega) hok 64 0#32 0#32 w2 (hs.kept k) (st_zero nn) (by omega))
    clear h0 hok
    go_enter Try.func12, Try.ntmps12
    go_wp2_with fail
    refine (wrong_any nn A len c rs _ hs).mono ?_
    rintro e w1 ⟨rfl, k1⟩
    rw [H0.out]
    go_wp2_with fail
    refine (HS.out _ k1).mono ?_
    rintro e w2 ⟨v, ok, rfl, hr, k2⟩
    have FIN := Lib.hid (show RetSolve nn rs w (.returned (.tuple #[.int .u32 (W v), .int .i64 (if ok then 0 else 5)])) w2 from .inr ⟨v, ok, H0.out, rfl, hr, k1.trans k2⟩)
    have HR := Lib.hid hr
    clear hr
    cases ok
    · obtain rfl : v = 0#32 := by
        rcases HR.out with ⟨h, _⟩ | ⟨_, h, _⟩
        · cases h
        · exact h
      go_wp2_with fail
      go_ret2
      exact FIN.out
    · go_wp2_with fail
      go_ret2
      exact FIN.out
  · have hne : (satF n rs != 0) = true := by simpa using h0
    have H0 := Lib.hid h0
    clear h0
    go_enter Try.func12, Try.ntmps12
    go_wp2_with fail
    refine (wrong_any n A len c rs _ hs).mono ?_
    rintro e w1 ⟨rfl, k1⟩
    go_wp2_with fail
    go_ret2
    exact .inl ⟨H0.out, rfl, k1⟩
theorem true_any (A : Option Addr) (n c : Nat) (rs : List Ru) (s : BitVec 32) (w : World) (hs : SlR w A n rs) (hn : n ≤ 1000) :
    Calls Try.prog 15 #[.slice A n c, .int .u32 (W s)] w fun e w' => e = .returned (.bool (trueB rs s)) ∧ Kept w w' := by
  go_enter Try.func15, Try.ntmps15
  go_wp2_with fail
  go_loopw [9] (fun t wr => ∃ q : Nat, q ≤ n ∧ t = .int .i64 q ∧ Kept w wr ∧ Hid ((rs.take q).all (holdB s) = true)) (fun t _ => n - (intOf t).toNat)
  case atStart => exact ⟨0, Nat.zero_le _, rfl, Kept.refl _, Lib.hid rfl⟩
  case round =>
    obtain ⟨q, hq, rfl, hkw, HA⟩ := hrel
    by_cases hlt : q < n
    · obtain ⟨b, off, hk, rfl, hb, c1, c2⟩ := (hs.kept hkw).get q hlt
      have hsn := Lib.hid (all_snoc (holdB s) rs q hk)
      have hno := Lib.hid (show holdB s rs[q] = false → trueB rs s = false from fun h => by
        rw [← Bool.not_eq_true]
        intro h2
        rw [List.all_eq_true.1 h2 _ (List.getElem_mem hk)] at h
        cases h)
      have hdef := Lib.hid (show holdB s rs[q] = ((rs[q].1 &&& s != 0#32) || !subB rs[q].2 s) from rfl)
      generalize rs[q] = x at c1 c2 hsn hno hdef
      obtain ⟨y, z⟩ := x
      simp only at c1 c2
      have hdef2 := hdef.out
      simp only at hdef2
      have HD := Lib.hid hdef2
      clear hdef hdef2
      have hi1 : (0 : Int) ≤ (q : Int) := by omega
      have hi2 : (q : Int) < (n : Int) := by omega
      have hka := hkw.alloc (.cells #[.int .u32 (W y), .int .u32 (W z)] 29)
      cases hy : (y &&& s == 0#32)
      · have HY := Lib.hid hy
        go_wp2_with fail
        go_roundw
        case rel => exact ⟨q + 1, by omega, by go_num, hka, Lib.hid (by rw [hsn.out, HA.out, HD.out, bne, HY.out]; rfl)⟩
        case measure => simp [intOf]; omega
      · have HY := Lib.hid hy
        go_wp2_with fail
        refine (satIn_any z s _).mono ?_
        rintro e w2 ⟨rfl, rfl⟩
        cases hz : subB z s
        · have HZ := Lib.hid hz
          clear hz
          go_wp2_with fail
          go_roundw
          case rel => exact ⟨q + 1, by omega, by go_num, hka, Lib.hid (by rw [hsn.out, HA.out, HD.out, HZ.out]; simp)⟩
          case measure => simp [intOf]; omega
        · have HZ := Lib.hid (hno.out (by rw [HD.out, bne, HY.out, hz]; rfl))
          clear hz
          go_wp2_with fail
          go_ret
          exact ⟨by rw [HZ.out]; rfl, hka⟩
    · have HK := Lib.hid (take_all rs q (by rw [hs.2]; omega))
      go_wp2_with fail
      go_ret
      exact ⟨by unfold trueB; rw [← HK.out, HA.out]; rfl, hkw⟩
end Go.Proofs.Ytekpifobhgjepaa
