/- The walks of package roles: below, May; and of With. -/
import Derived.Test.YtgcpomdlajoifaaDowns
namespace Go.Proofs.Ytgcpomdlajoifaa
open Go Go.RowKit
set_option linter.unusedVariables false

def orTo (p : Nat → Bool) (g : Nat → BitVec 32) : Nat → BitVec 32
  | 0 => 0#32
  | k + 1 => if p k then orTo p g k ||| g k else orTo p g k
theorem orTo_succ (p : Nat → Bool) (g : Nat → BitVec 32) (k : Nat) : orTo p g (k + 1) = if p k then orTo p g k ||| g k else orTo p g k := rfl
theorem orTo_bit (p : Nat → Bool) (g : Nat → BitVec 32) (j : Nat) : ∀ k, (orTo p g k).getLsbD j = true ↔ ∃ i, i < k ∧ p i = true ∧ (g i).getLsbD j = true := by
  intro k
  induction k with
  | zero => simp [orTo]
  | succ k ih =>
    rw [orTo_succ]
    split
    · rename_i h
      rw [BitVec.getLsbD_or, Bool.or_eq_true, ih]
      constructor
      · rintro (⟨i, h1, h2, h3⟩ | h3)
        · exact ⟨i, by omega, h2, h3⟩
        · exact ⟨k, by omega, h, h3⟩
      · rintro ⟨i, h1, h2, h3⟩
        by_cases e : i = k
        · subst e
          exact .inr h3
        · exact .inl ⟨i, by omega, h2, h3⟩
    · rename_i h
      rw [ih]
      constructor
      · rintro ⟨i, h1, h2, h3⟩
        exact ⟨i, by omega, h2, h3⟩
      · rintro ⟨i, h1, h2, h3⟩
        by_cases e : i = k
        · subst e
          exact absurd h2 h
        · exact ⟨i, by omega, h2, h3⟩
noncomputable def mayF (n : Nat) (ps : List Pr) (may : List (BitVec 32)) (s : BitVec 32) : BitVec 32 := orTo (fun i => (dnW n ps s).getLsbD i) (nth may) n
theorem mayF_bit {n : Nat} {ps : List Pr} {may : List (BitVec 32)} {s : BitVec 32} (hn : n ≤ 32) {b : Nat} : (mayF n ps may s).getLsbD b = true ↔ ∃ i j, i < n ∧ j < n ∧ s.getLsbD j = true ∧ under ps i j = true ∧ (nth may i).getLsbD b = true := by
  unfold mayF
  rw [orTo_bit]
  constructor
  · rintro ⟨i, h1, h2, h3⟩
    obtain ⟨_, j, h4, h5, h6⟩ := (dnW_bit hn).1 h2
    exact ⟨i, j, h1, h4, h5, h6, h3⟩
  · rintro ⟨i, j, h1, h4, h5, h6, h3⟩
    exact ⟨i, h1, (dnW_bit hn).2 ⟨h1, j, h4, h5, h6⟩, h3⟩
theorem mayF_or {n : Nat} {ps : List Pr} {may : List (BitVec 32)} {s t : BitVec 32} (hn : n ≤ 32) : mayF n ps may (s ||| t) = mayF n ps may s ||| mayF n ps may t := by
  apply BitVec.eq_of_getLsbD_eq
  intro b _
  rw [Bool.eq_iff_iff, BitVec.getLsbD_or, Bool.or_eq_true, mayF_bit hn, mayF_bit hn, mayF_bit hn]
  constructor
  · rintro ⟨i, j, h1, h2, h3, h4, h5⟩
    rw [BitVec.getLsbD_or, Bool.or_eq_true] at h3
    rcases h3 with h3 | h3
    · exact .inl ⟨i, j, h1, h2, h3, h4, h5⟩
    · exact .inr ⟨i, j, h1, h2, h3, h4, h5⟩
  · rintro (⟨i, j, h1, h2, h3, h4, h5⟩ | ⟨i, j, h1, h2, h3, h4, h5⟩)
    · exact ⟨i, j, h1, h2, by rw [BitVec.getLsbD_or, h3]; rfl, h4, h5⟩
    · exact ⟨i, j, h1, h2, by rw [BitVec.getLsbD_or, h3]; simp, h4, h5⟩
theorem mayF_in {n : Nat} {ps : List Pr} {may : List (BitVec 32)} {s : BitVec 32} (hn : n ≤ 32) {i : Nat} (hi : i < n) (h : s.getLsbD i = true) : subB (nth may i) (mayF n ps may s) = true :=
  subB_iff.2 fun b hb => (mayF_bit hn).2 ⟨i, i, hi, hi, h, under_refl _ _, hb⟩
theorem mayF_dn {n : Nat} {ps : List Pr} {may : List (BitVec 32)} {s : BitVec 32} (hn : n ≤ 32) : mayF n ps may (dnW n ps s) = mayF n ps may s := by
  unfold mayF
  rw [dnW_idem hn]
noncomputable def mayR (n : Nat) (ps : List Pr) (may : List (BitVec 32)) (s : BitVec 32) : Int × BitVec 32 :=
  if may.length ≠ n then (3, 0#32) else if fitB n s then (0, mayF n ps may s) else (4, 0#32)
theorem below_any (A : Option Addr) (n c : Nat) (up : List (BitVec 32)) (s : BitVec 32) (w : World) (hs : SlW w A n up) (hn : n ≤ 32) :
    Calls Try.prog 57 #[.slice A n c, .int .u32 (W s)] w fun e w' => e = .returned (.int .u32 (W (belowF up s))) ∧ w = w' := by
  have HL := Lib.hid hs.2
  go_enter Try.func57, Try.ntmps57
  go_wp2_with fail
  go_loop [5, 10] (fun o t => ∃ k : Nat, k ≤ n ∧ t = .int .i64 k ∧ o = .int .u32 (W (wordN k (hitB up s)))) (fun _ t => n - (intOf t).toNat)
  case atStart => exact ⟨0, Nat.zero_le _, rfl, rfl⟩
  case round =>
    obtain ⟨k, hk, rfl, rfl⟩ := hrel
    by_cases hlt : k < n
    · obtain ⟨b, off, rfl, hb, ck⟩ := hs.getN k hlt
      have HS := Lib.hid (wordN_succ k (hitB up s))
      have HH := Lib.hid (show hitB up s k = (nth up k &&& s != 0#32) from rfl)
      generalize nth up k = x at ck HH
      generalize wordN k (hitB up s) = y at HS
      cases hb1 : x &&& s != 0#32
      all_goals
        have HB := Lib.hid (HH.out.trans hb1)
        go_wp2_with fail
        go_round
        case rel => exact ⟨k + 1, by omega, by go_num, by rw [HS.out, HB.out]; rfl⟩
        case measure => simp [intOf]; omega
    · have HK := Lib.hid (show k = n by omega)
      go_wp2_with fail
      go_ret
      exact ⟨by unfold belowF; rw [HL.out, ← HK.out]; rfl, rfl⟩
set_option maxHeartbeats 800000 in
theorem mayX_ok (n : Nat) (A : Option Addr) (len c : Nat) (ps : List Pr) (A2 : Option Addr) (len2 c2 : Nat) (may : List (BitVec 32)) (s : BitVec 32) (w : World) (hp : SlP w A len ps) (hm : SlW w A2 len2 may) (hc : ordF n ps = 0) :
    Calls Try.prog 39 #[.int .i64 n, .slice A len c, .slice A2 len2 c2, .int .u32 (W s)] w fun e w' => e = .returned (.tuple #[.int .u32 (W (mayR n ps may s).2), .int .i64 (mayR n ps may s).1]) ∧ Kept w w' := by
  have hn6 := (ordF_zero hc).1.2.1
  have HC := Lib.hid hc
  clear hc
  by_cases hll : len2 = n
  · subst hll
    have d1 : ((len2 : Int) != (len2 : Int)) = false := by simp
    have HML := Lib.hid hm.2
    cases hf : fitB len2 s
    · have HR := Lib.hid (show mayR len2 ps may s = (4, 0#32) by unfold mayR; rw [if_neg (by rw [HML.out]; simp), hf]; rfl)
      go_enter Try.func39, Try.ntmps39
      go_wp2_with fail
      refine (table_any len2 _ _ _ ps _ hp).mono ?_
      rintro e w1 ⟨k1, ⟨_, A1, c1, rfl, hup⟩ | ⟨hne, _⟩⟩
      case inr => rw [HC.out] at hne; cases hne
      go_wp2_with fail
      go_ret2
      exact ⟨by rw [HR.out]; rfl, k1⟩
    · have HR := Lib.hid (show mayR len2 ps may s = (0, mayF len2 ps may s) by unfold mayR; rw [if_neg (by rw [HML.out]; simp), hf]; rfl)
      go_enter Try.func39, Try.ntmps39
      go_wp2_with fail
      refine (table_any len2 _ _ _ ps _ hp).mono ?_
      rintro e w1 ⟨k1, ⟨_, A1, c1, rfl, hup⟩ | ⟨hne, _⟩⟩
      case inr => rw [HC.out] at hne; cases hne
      rw [Int.toNat_natCast] at hup
      have HBU := Lib.hid (belowF_upL (ps := ps) (show len2 ≤ 32 by omega) s)
      go_wp2_with fail
      refine (below_any _ _ _ (upL len2 ps) s _ hup (by omega)).mono ?_
      rintro e w2 ⟨rfl, rfl⟩
      rw [HBU.out]
      have HMF := Lib.hid (show mayF len2 ps may s = orTo (fun i => (dnW len2 ps s).getLsbD i) (nth may) len2 from rfl)
      generalize dnW len2 ps s = d at HMF
      go_wp2_with fail
      go_loop [13, 41] (fun o t => ∃ k : Nat, k ≤ len2 ∧ t = .int .i64 k ∧ o = .int .u32 (W (orTo (fun i => d.getLsbD i) (nth may) k))) (fun _ t => len2 - (intOf t).toNat)
      case atStart => exact ⟨0, Nat.zero_le _, rfl, rfl⟩
      case round =>
        obtain ⟨k, hk, rfl, rfl⟩ := hrel
        by_cases hlt : k < len2
        · obtain ⟨b, off, rfl, hb, ck⟩ := (hm.kept k1).getN k hlt
          have HS := Lib.hid (orTo_succ (fun i => d.getLsbD i) (nth may) k)
          generalize nth may k = x at ck HS
          generalize orTo (fun i => d.getLsbD i) (nth may) k = y at HS
          cases hb1 : d.getLsbD k
          all_goals
            have HB := Lib.hid hb1
            go_wp2_with fail
            go_round
            case rel => exact ⟨k + 1, by omega, by go_num, by rw [HS.out, HB.out]; rfl⟩
            case measure => simp [intOf]; omega
        · have HK := Lib.hid (show k = len2 by omega)
          go_wp2_with fail
          go_ret2
          exact ⟨by rw [HR.out, HMF.out, ← HK.out]; rfl, k1⟩
  · have d1 : ((len2 : Int) != (n : Int)) = true := by rw [bne_iff_ne]; omega
    have HR := Lib.hid (show mayR n ps may s = (3, 0#32) by unfold mayR; rw [if_pos (by rw [hm.2]; exact hll)])
    clear hll hm
    go_enter Try.func39, Try.ntmps39
    go_wp2_with fail
    refine (table_any n _ _ _ ps _ hp).mono ?_
    rintro e w1 ⟨k1, ⟨_, A1, c1, rfl, hup⟩ | ⟨hne, _⟩⟩
    case inr => rw [HC.out] at hne; cases hne
    go_wp2_with fail
    go_ret2
    exact ⟨by rw [HR.out]; rfl, k1⟩
theorem mayX_no (n : Int) (A : Option Addr) (len c : Nat) (ps : List Pr) (A2 : Option Addr) (len2 c2 : Nat) (s : BitVec 32) (w : World) (hp : SlP w A len ps) (hc : (ordF n ps != 0) = true) :
    Calls Try.prog 39 #[.int .i64 n, .slice A len c, .slice A2 len2 c2, .int .u32 (W s)] w fun e w' => e = .returned (.tuple #[.int .u32 0, .int .i64 (ordF n ps)]) ∧ Kept w w' := by
  have HC := Lib.hid hc
  clear hc
  go_enter Try.func39, Try.ntmps39
  go_wp2_with fail
  refine (table_any n _ _ _ ps _ hp).mono ?_
  rintro e w1 ⟨k1, ⟨h0, _⟩ | ⟨hne, rfl⟩⟩
  · have := HC.out; rw [h0] at this; cases this
  go_wp2_with fail
  go_ret2
  exact ⟨rfl, k1⟩
noncomputable def dnTo (ps : List Pr) (s : BitVec 32) (i j : Nat) : Bool := (List.range j).any fun j => s.getLsbD j && under ps i j
noncomputable def withAcc (n : Nat) (ps : List Pr) (s : BitVec 32) (i j : Nat) : BitVec 32 := if dnTo ps s i j then wordN i (dnB n ps s) ||| 1#32 <<< i else wordN i (dnB n ps s)
theorem withAcc_zero (n : Nat) (ps : List Pr) (s : BitVec 32) (i : Nat) : withAcc n ps s i 0 = wordN i (dnB n ps s) := rfl
theorem withAcc_succ (n : Nat) (ps : List Pr) (s : BitVec 32) (i j : Nat) : withAcc n ps s i (j + 1) = if s.getLsbD j && under ps i j then withAcc n ps s i j ||| 1#32 <<< i else withAcc n ps s i j := by
  have e : dnTo ps s i (j + 1) = (dnTo ps s i j || (s.getLsbD j && under ps i j)) := any_range _ j
  unfold withAcc
  rw [e]
  cases dnTo ps s i j
  · cases (s.getLsbD j && under ps i j) <;> rfl
  · cases (s.getLsbD j && under ps i j)
    · rfl
    · simp only [Bool.or_self, if_true]
      rw [BitVec.or_assoc, BitVec.or_self]
theorem withAcc_done (n : Nat) (ps : List Pr) (s : BitVec 32) (i : Nat) : withAcc n ps s i n = wordN (i + 1) (dnB n ps s) := by
  rw [wordN_succ]
  rfl
set_option maxHeartbeats 800000 in
theorem with_any (n : Nat) (hn : n ≤ 6) (A : Option Addr) (len c : Nat) (ps : List Pr) (s : BitVec 32) (w : World) (hp : SlP w A len ps) (hlen : len ≤ 1000) :
    Calls Try.prog 40 #[.int .i64 n, .slice A len c, .int .u32 (W s)] w fun e w' => e = .returned (.int .u32 (W (dnW n ps s))) ∧ Kept w w' := by
  go_enter Try.func40, Try.ntmps40
  go_wp2_with fail
  go_loopw [7, 8] (fun o t wr => ∃ i : Nat, i ≤ n ∧ t = .int .i64 i ∧ o = .int .u32 (W (wordN i (dnB n ps s))) ∧ Kept w wr) (fun _ t _ => n - (intOf t).toNat)
  case atStart => exact ⟨0, Nat.zero_le _, rfl, rfl, Kept.refl _⟩
  case round =>
    obtain ⟨i, hi, rfl, rfl, hk1⟩ := hrel
    by_cases hlt : i < n
    · go_wp2_with fail
      go_loopw [7, 9] (fun o t wr => ∃ j : Nat, j ≤ n ∧ t = .int .i64 j ∧ o = .int .u32 (W (withAcc n ps s i j)) ∧ Kept w wr) (fun _ t _ => n - (intOf t).toNat)
      case atStart => exact ⟨0, Nat.zero_le _, rfl, by rw [withAcc_zero], hk1⟩
      case round =>
        obtain ⟨j, hj, rfl, rfl, hk2⟩ := hrel
        by_cases hlt2 : j < n
        · have HS := Lib.hid (withAcc_succ n ps s i j)
          generalize withAcc n ps s i j = y at HS
          go_wp2_with fail
          refine (bit_any s j (by omega) _).mono ?_
          rintro e w3 ⟨rfl, rfl⟩
          cases hb1 : s.getLsbD j
          · have HB := Lib.hid hb1
            go_wp2_with fail
            go_roundw
            case rel => exact ⟨j + 1, by omega, by go_num, by rw [HS.out, HB.out]; rfl, hk2⟩
            case measure => simp [intOf]; omega
          · have HB := Lib.hid hb1
            clear hb1
            go_wp2_with fail
            refine (under_any _ _ _ _ ps _ _ _ (hp.kept hk2) (by omega)).mono ?_
            rintro e w5 ⟨rfl, k5⟩
            cases hu : under ps i j
            all_goals
              have HU := Lib.hid hu
              go_wp2_with fail
              go_roundw
              case rel => exact ⟨j + 1, by omega, by go_num, by rw [HS.out, HB.out, HU.out]; rfl, hk2.trans k5⟩
              case measure => simp [intOf]; omega
        · have HJ := Lib.hid (show j = n by omega)
          go_wp2_with fail
          go_roundw
          case rel => exact ⟨i + 1, by omega, by go_num, by rw [HJ.out, withAcc_done], hk2⟩
          case measure => simp [intOf]; omega
    · have HI := Lib.hid (show i = n by omega)
      go_wp2_with fail
      go_ret
      exact ⟨by unfold dnW; rw [← HI.out]; rfl, hk1⟩
end Go.Proofs.Ytgcpomdlajoifaa
