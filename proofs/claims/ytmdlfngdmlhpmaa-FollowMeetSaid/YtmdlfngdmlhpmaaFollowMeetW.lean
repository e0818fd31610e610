/- FollowMeet: the walk of the statement. -/
import Derived.Test.YtmdlfngdmlhpmaaFollow5
namespace Go.Proofs.Ytmdlfngdmlhpmaa.followMeetDone
open Go Go.RowKit

theorem words_last (n : Nat) : ∃ l, words n = l ++ [BitVec.ofNat 32 (2 ^ n - 1)] := by
  have h : 2 ^ n = (2 ^ n - 1) + 1 := by have : 0 < 2 ^ n := Nat.pow_pos (by omega); omega
  refine ⟨(List.range (2 ^ n - 1)).map (BitVec.ofNat 32), ?_⟩
  unfold words
  rw [h, List.range_succ, List.map_append]
  simp
theorem full_eq (n : Nat) (hn : n < 32) : BitVec.ofNat 32 (2 ^ n - 1) = 1#32 <<< n - 1#32 := by
  apply BitVec.eq_of_getLsbD_eq
  intro i hi
  rw [full_bit n i hn, BitVec.getLsbD_ofNat, Nat.testBit_two_pow_sub_one]
  simp [hi]
theorem full_closed {n : Nat} {rs : List Ru} (hn : n < 32) (h : fitRules n rs = true) : isClosed rs (1#32 <<< n - 1#32) = true := by
  unfold isClosed
  unfold fitRules at h
  rw [List.all_eq_true] at h ⊢
  intro r hr
  have h3 := h r hr
  rw [Bool.and_eq_true] at h3
  have : subB r.2 (1#32 <<< n - 1#32) = true := by
    refine subB_iff.2 fun i hi => ?_
    rw [full_bit n i hn, decide_eq_true_eq]
    exact fitB_iff.1 h3.2 i hi
  rw [this, Bool.or_true]
theorem closedList_last {n : Nat} {rs : List Ru} (hn : n < 32) (h : fitRules n rs = true) : ∃ l, closedList n rs = l ++ [1#32 <<< n - 1#32] := by
  obtain ⟨l, hl⟩ := words_last n
  refine ⟨l.filter (isClosed rs), ?_⟩
  unfold closedList
  rw [hl, List.filter_append, full_eq n hn, List.filter_cons, full_closed hn h]
  rfl
theorem closed_and {rs : List Ru} {a b : BitVec 32} (ha : isClosed rs a = true) (hb : isClosed rs b = true) : isClosed rs (a &&& b) = true := by
  unfold isClosed at ha hb ⊢
  rw [List.all_eq_true] at ha hb ⊢
  intro r hr
  have h1 := ha r hr
  have h2 := hb r hr
  rw [subB_and, subB_and]
  cases x1 : subB r.1 a <;> cases x2 : subB r.1 b <;> simp_all
theorem mem_closedList {n : Nat} {rs : List Ru} {s : BitVec 32} (hn : n < 32) : s ∈ closedList n rs ↔ fitB n s = true ∧ isClosed rs s = true := by
  unfold closedList
  rw [List.mem_filter, mem_words hn]
theorem closedList_and {n : Nat} {rs : List Ru} {a b : BitVec 32} (hn : n < 32) (ha : a ∈ closedList n rs) (hb : b ∈ closedList n rs) : a &&& b ∈ closedList n rs := by
  rw [mem_closedList hn] at ha hb ⊢
  refine ⟨fitB_sub (b := a) ?_ ha.1, closed_and ha.2 hb.2⟩
  exact subB_iff.2 fun i hi => by rw [BitVec.getLsbD_and, Bool.and_eq_true] at hi; exact hi.1

/-- what the walk is told of the list -/
def Good (n : Nat) (xs : List (BitVec 32)) : Prop := 0 < xs.length ∧ xs[xs.length - 1]? = some (1#32 <<< n - 1#32) ∧ ∀ a ∈ xs, ∀ b ∈ xs, a &&& b ∈ xs
theorem good_closedList {n : Nat} {rs : List Ru} (hn : n < 32) (h : fitRules n rs = true) : Good n (closedList n rs) := by
  refine ⟨?_, ?_, fun a ha b hb => closedList_and hn ha hb⟩
  · obtain ⟨l, hl⟩ := closedList_last hn h
    rw [hl]; simp
  · obtain ⟨l, hl⟩ := closedList_last hn h
    rw [hl]; simp
def NotYet (xs : List (BitVec 32)) (s : BitVec 32) (k : Nat) : Prop := ∀ m, m < k → xs[m]? ≠ some s
theorem NotYet.step {xs : List (BitVec 32)} {s : BitVec 32} {k : Nat} (h : NotYet xs s k) (hk : k < xs.length) (hne : (xs[k] == s) = false) : NotYet xs s (k + 1) := by
  intro m hm
  by_cases e : m = k
  · subst e
    rw [List.getElem?_eq_getElem hk]
    simpa using hne
  · exact h m (by omega)
theorem NotYet.stop {xs : List (BitVec 32)} {s : BitVec 32} {k : Nat} (h : NotYet xs s k) (hk : xs.length ≤ k) (hs : s ∈ xs) : False := by
  obtain ⟨m, hm⟩ := List.mem_iff_getElem?.1 hs
  have : m < xs.length := (List.getElem?_eq_some_iff.1 hm).1
  exact h m (by omega) hm

set_option maxHeartbeats 800000 in
theorem followMeet_walk (n : Int) (A : Option Addr) (len cp : Nat) (rs : List Ru) (i j : Int) (w : World) (_wn : (Lit.int .i64 n).wf = true) (_hl : len ≤ maxLen) (hr : SlR w A len rs)
    (wi : (Lit.int .u8 i).wf = true) (wj : (Lit.int .u8 j).wf = true) :
    Calls Try.prog 5 #[.int .i64 n, .slice A len cp, .int .u8 i, .int .u8 j] w fun e w' => e = .returned (.bool true) ∧ Kept w w' := by
  have hi : 0 ≤ i ∧ i ≤ 255 := by simp [Lit.wf, IntKind.min, IntKind.max, IntKind.signed, IntKind.bits] at wi; omega
  have hj : 0 ≤ j ∧ j ≤ 255 := by simp [Lit.wf, IntKind.min, IntKind.max, IntKind.signed, IntKind.bits] at wj; omega
  clear wi wj
  obtain ⟨i, rfl⟩ := Int.eq_ofNat_of_zero_le hi.1
  obtain ⟨j, rfl⟩ := Int.eq_ofNat_of_zero_le hj.1
  by_cases h0 : checkF n rs [0#32] = 0
  · have hn := checkF_zero h0
    obtain ⟨m, rfl⟩ := Int.eq_ofNat_of_zero_le (show 0 ≤ n by omega)
    have hm6 : m ≤ 6 := by omega
    have hc : checkF m rs [] = 0 := checkF_ok hn.1 hn.2.1 hn.2.2.1 hn.2.2.2.1 rfl
    have hg := good_closedList (n := m) (by omega) (by simpa using hn.2.2.2.1)
    have H0 := Lib.hid h0
    have HC := Lib.hid hc
    have hlen : (closedList m rs).length ≤ 64 := by
      have := List.length_filter_le (isClosed rs) (words m)
      rw [words_length] at this
      have := pow_le m hm6
      unfold closedList
      omega
    clear h0 hc hn
    generalize hxs : closedList m rs = xs at hg hlen
    have HX := Lib.hid hxs
    clear hxs
    go_enter Try.func5, Try.ntmps5
    go_wp2_with fail
    refine (allClosed_ok _ _ _ _ rs _ hr HC.out).mono ?_
    rintro e w1 hret
    rw [HX.out] at hret
    obtain ⟨A1, c1, rfl, hs, k1⟩ := hret
    go_wp2_with fail
    refine (ruled_any _ _ _ _ rs 0#32 _ (hr.kept k1)).mono ?_
    rintro e w2 ⟨rfl, k2⟩
    rw [H0.out]
    have k := k1.trans k2
    have hs2 := hs.kept k2
    clear k1 k2 hs
    obtain ⟨hpos, hlast, hand⟩ := hg
    obtain ⟨b, off, hq1, rfl, hb, cl⟩ := hs2.get (xs.length - 1) (by omega)
    have hlv : xs[xs.length - 1] = 1#32 <<< m - 1#32 := by
      rw [List.getElem?_eq_getElem hq1] at hlast
      injection hlast
    rw [hlv] at cl
    have hne : ((xs.length : Int) == 0) = false := by simp; intro h; simp [h] at hpos
    have hp1 : (1 : Int) ≤ xs.length := by omega
    have HAND := Lib.hid hand
    clear hlast hlv hand
    go_wp2_with fail
    have hri : i % xs.length < xs.length := Nat.mod_lt _ hpos
    have hrj : j % xs.length < xs.length := Nat.mod_lt _ hpos
    obtain ⟨b1, o1, hq2, e1, _, ci⟩ := hs2.get (i % xs.length) hri
    obtain ⟨b2, o2, hq3, e2, _, cj⟩ := hs2.get (j % xs.length) hrj
    injection e1 with e1
    injection e1 with e1 e1'
    injection e2 with e2
    injection e2 with e2 e2'
    subst e1 e1' e2 e2'
    have hsm := Lib.hid (HAND.out _ (List.getElem_mem hq2) _ (List.getElem_mem hq3))
    generalize hsi : xs[i % xs.length] = si at ci hsm
    generalize hsj : xs[j % xs.length] = sj at cj hsm
    have r1 : (0 : Int) ≤ (i : Int) % (xs.length : Int) := by omega
    have r2 : (i : Int) % (xs.length : Int) < (xs.length : Int) := by omega
    have r3 : (0 : Int) ≤ (j : Int) % (xs.length : Int) := by omega
    have r4 : (j : Int) % (xs.length : Int) < (xs.length : Int) := by omega
    clear hsi hsj
    go_quiet (fail)
    go_wp2_with fail
    have hs3 := hs2.kept (Kept.drewN (Kept.refl w2) nq)
    have k3 := k.drewN nq
    go_loop [65] (fun t => ∃ q : Nat, q ≤ xs.length ∧ t = .int .i64 q ∧ NotYet xs (si &&& sj) q) (fun t => xs.length - (intOf t).toNat)
    case atStart => exact ⟨0, Nat.zero_le _, rfl, fun m hm => absurd hm (by omega)⟩
    case round =>
      obtain ⟨q, hq, rfl, hnot⟩ := hrel
      by_cases hlt : q < xs.length
      · obtain ⟨b1, o1, hq4, e1, _, cq⟩ := hs3.get q hlt
        injection e1 with e1
        injection e1 with e1 e1'
        subst e1 e1'
        cases hb1 : xs[q] == si &&& sj
        · have hstep := Lib.hid (hnot.step hlt hb1)
          clear hnot
          go_wp2_with fail
          go_round
          case rel => exact ⟨q + 1, by omega, by go_num, hstep.out⟩
          case measure => simp [intOf]; omega
        · clear hnot
          go_wp2_with fail
          go_ret
          exact ⟨rfl, k3⟩
      · exact (hnot.stop (by omega) hsm.out).elim
  · have h1 : checkF n rs [] ≠ 0 := by
      intro h2
      apply h0
      obtain ⟨q1, q2, q3, q4, _⟩ := checkF_zero h2
      exact checkF_ok q1 q2 q3 q4 (by simp [fitB_zero])
    have hne : (checkF n rs [] != 0) = true := by simpa using h1
    have hnz : (checkF n rs [0#32] == 0) = false := by simpa using h0
    clear h0 h1
    go_enter Try.func5, Try.ntmps5
    go_wp2_with fail
    refine (allClosed_no _ _ _ _ rs _ hr hne).mono ?_
    rintro e w1 ⟨rfl, k1⟩
    go_wp2_with fail
    refine (ruled_any _ _ _ _ rs 0#32 _ (hr.kept k1)).mono ?_
    rintro e w2 ⟨rfl, k2⟩
    go_wp2_with fail
    go_ret
    exact ⟨rfl, k1.trans k2⟩
end Go.Proofs.Ytmdlfngdmlhpmaa.followMeetDone
