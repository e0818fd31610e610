/- FollowKey: the walk of the statement. -/
import Derived.Test.YtmdlfngdmlhpmaaFollow6
import Derived.Test.YtmdlfngdmlhpmaaSperner
namespace Go.Proofs.Ytmdlfngdmlhpmaa.followKeyDone
open Go Go.RowKit

theorem keysF_inv (n : Nat) (rs : List Ru) (P : BitVec 32 → Prop) : ∀ (ws l : List (BitVec 32)), (∀ x ∈ ws, P x) → (∀ x ∈ l, P x) → ∀ x ∈ ws.foldl (fun l s => if closeF rs s == 1#32 <<< n - 1#32 && !l.any (fun k => subB k s) then l ++ [s] else l) l, P x := by
  intro ws
  induction ws with
  | nil => intro l _ h; exact h
  | cons a t ih =>
    intro l h1 h2
    rw [List.foldl_cons]
    refine ih _ (fun x hx => h1 x (by simp [hx])) ?_
    intro x hx
    split at hx
    · rw [List.mem_append] at hx
      rcases hx with hx | hx
      · exact h2 x hx
      · simp at hx; subst hx; exact h1 _ (by simp)
    · exact h2 x hx
theorem subB_ofNat {a b : BitVec 32} (h : subB b a = true) (hlt : a.toNat < b.toNat) : False := by
  have := subB_le h
  omega
/-- in a rising list of words the keys so far are an antichain -/
theorem keysF_anti (n : Nat) (rs : List Ru) : ∀ (ws l : List (BitVec 32)), ws.Pairwise (fun a b => a.toNat < b.toNat) → (∀ x ∈ l, ∀ y ∈ ws, x.toNat < y.toNat) → Anti l →
    Anti (ws.foldl (fun l s => if closeF rs s == 1#32 <<< n - 1#32 && !l.any (fun k => subB k s) then l ++ [s] else l) l) := by
  intro ws
  induction ws with
  | nil => intro l _ _ h; exact h
  | cons a t ih =>
    intro l hp hl ha
    rw [List.foldl_cons]
    rw [List.pairwise_cons] at hp
    refine ih _ hp.2 ?_ ?_
    · intro x hx y hy
      split at hx
      · rw [List.mem_append] at hx
        rcases hx with hx | hx
        · exact hl x hx y (by simp [hy])
        · simp at hx; subst hx; exact hp.1 y hy
      · exact hl x hx y (by simp [hy])
    · split
      · rename_i hc
        rw [Bool.and_eq_true] at hc
        unfold Anti
        rw [List.pairwise_append]
        refine ⟨ha, by simp, ?_⟩
        intro x hx y hy
        simp at hy
        subst hy
        have h1 : (l.any fun k => subB k y) = false := by simpa using hc.2
        rw [List.any_eq_false] at h1
        refine ⟨by simpa using h1 x hx, ?_⟩
        cases hb : subB y x
        · rfl
        · exact (subB_ofNat hb (hl x hx y (by simp))).elim
      · exact ha
theorem words_rising (n : Nat) (hn : n < 32) : (words n).Pairwise fun a b => a.toNat < b.toNat := by
  unfold words
  rw [List.pairwise_map]
  refine List.Pairwise.imp_of_mem ?_ List.pairwise_lt_range
  intro a b ha hb hab
  rw [List.mem_range] at ha hb
  rw [ofNat_toNat a n hn (by omega), ofNat_toNat b n hn (by omega)]
  exact hab
theorem full_closeF {n : Nat} {rs : List Ru} (hn : n < 32) (h : fitRules n rs = true) : closeF rs (1#32 <<< n - 1#32) = 1#32 <<< n - 1#32 := by
  have hfit : fitB n (1#32 <<< n - 1#32) = true := fitB_iff.2 fun i hi => by rw [full_bit n i hn, decide_eq_true_eq] at hi; exact hi
  have h1 := fit_closeF hn h hfit
  refine subB_antisymm ?_ (closeF_spec rs _).1
  refine subB_iff.2 fun i hi => ?_
  rw [full_bit n i hn, decide_eq_true_eq]
  exact fitB_iff.1 h1 i hi
theorem keysF_pos {n : Nat} {rs : List Ru} (hn : n < 32) (h : fitRules n rs = true) : 0 < (keysF n rs (words n)).length := by
  have e : words n = (List.range (2 ^ n - 1)).map (BitVec.ofNat 32) ++ [BitVec.ofNat 32 (2 ^ n - 1)] := by
    have h2 : 2 ^ n = (2 ^ n - 1) + 1 := by have : 0 < 2 ^ n := Nat.pow_pos (by omega); omega
    unfold words
    rw [h2, List.range_succ, List.map_append]
    simp
  have e2 : BitVec.ofNat 32 (2 ^ n - 1) = 1#32 <<< n - 1#32 := by
    apply BitVec.eq_of_getLsbD_eq
    intro i hi
    rw [full_bit n i hn, BitVec.getLsbD_ofNat, Nat.testBit_two_pow_sub_one]
    simp [hi]
  unfold keysF
  rw [e, e2, List.foldl_append, List.foldl_cons, List.foldl_nil, full_closeF hn h]
  generalize (List.map (BitVec.ofNat 32) (List.range (2 ^ n - 1))).foldl (fun l s => if closeF rs s == 1#32 <<< n - 1#32 && !l.any (fun k => subB k s) then l ++ [s] else l) [] = l
  split
  · simp
  · rename_i hc
    cases l with
    | nil => simp at hc
    | cons a t => simp

/-- what the walk is told of the list -/
def Good (n : Nat) (xs : List (BitVec 32)) : Prop := 0 < xs.length ∧ xs.length ≤ mostTab.getD n 0 ∧ Anti xs
theorem good_keys {n : Nat} {rs : List Ru} (hn : n ≤ 6) (h : fitRules n rs = true) : Good n (keysF n rs (words n)) := by
  have ha : Anti (keysF n rs (words n)) := keysF_anti n rs (words n) [] (words_rising n (by omega)) (by simp) (by simp [Anti])
  exact ⟨keysF_pos (by omega) h, sperner hn (keysF_inv n rs (fun x => fitB n x = true) (words n) [] (fun x hx => (mem_words (by omega) x).1 hx) (by simp)) ha, ha⟩
theorem anti_at {xs : List (BitVec 32)} (h : Anti xs) {i j : Nat} (hji : j < i) (hi : i < xs.length) : subB xs[i] (xs[j]'(by omega)) = false ∧ subB (xs[j]'(by omega)) xs[i] = false := by
  have h1 := (List.pairwise_iff_getElem.1 h) j i (by omega) hi hji
  exact ⟨h1.2, h1.1⟩
theorem most_cell {w : World} {t : TypeId} {B m : Nat} (hB : w.heap.size = B) (hm : m ≤ 6) :
    (w.alloc (.cells #[.int .i64 1, .int .i64 1, .int .i64 2, .int .i64 3, .int .i64 6, .int .i64 10, .int .i64 20] t)).cell? ⟨B, m, none⟩ = some (.int .i64 ((mostTab.getD m 0 : Nat) : Int)) := by
  subst hB
  rw [cell_of_row _ _ _ _ t (0, 0) (heap_alloc_new w _)]
  rcases (by omega : m = 0 ∨ m = 1 ∨ m = 2 ∨ m = 3 ∨ m = 4 ∨ m = 5 ∨ m = 6) with rfl | rfl | rfl | rfl | rfl | rfl | rfl <;> rfl

set_option maxHeartbeats 800000 in
theorem followKey_walk (n : Int) (A : Option Addr) (len cp : Nat) (rs : List Ru) (w : World) (_wn : (Lit.int .i64 n).wf = true) (_hl : len ≤ maxLen) (hr : SlR w A len rs) :
    Calls Try.prog 6 #[.int .i64 n, .slice A len cp] w fun e w' => e = .returned (.bool true) ∧ Kept w w' := by
  by_cases h0 : checkF n rs [0#32] = 0
  · have hn := checkF_zero h0
    obtain ⟨m, rfl⟩ := Int.eq_ofNat_of_zero_le (show 0 ≤ n by omega)
    have hm6 : m ≤ 6 := by omega
    have hc : checkF m rs [] = 0 := checkF_ok hn.1 hn.2.1 hn.2.2.1 hn.2.2.2.1 rfl
    have hg := good_keys (n := m) hm6 (by simpa using hn.2.2.2.1)
    have H0 := Lib.hid h0
    have HC := Lib.hid hc
    have hm1 : (0 : Int) ≤ (m : Int) := by omega
    have hm2 : (m : Int) < 7 := by omega
    clear h0 hc hn
    generalize hxs : keysF m rs (words m) = xs at hg
    have HX := Lib.hid hxs
    clear hxs
    obtain ⟨hpos, hmost, hanti⟩ := hg
    have hlen : xs.length ≤ 20 := by
      have : mostTab.getD m 0 ≤ 20 := by
        rcases (by omega : m = 0 ∨ m = 1 ∨ m = 2 ∨ m = 3 ∨ m = 4 ∨ m = 5 ∨ m = 6) with rfl | rfl | rfl | rfl | rfl | rfl | rfl <;> decide
      omega
    generalize hmt : mostTab.getD m 0 = mt at hmost
    have HMT := Lib.hid hmt
    clear hmt
    go_enter Try.func6, Try.ntmps6
    go_wp2_with fail
    refine (keys_ok _ _ _ _ rs _ hr HC.out).mono ?_
    rintro e w1 hret
    rw [HX.out] at hret
    obtain ⟨A1, c1, rfl, hs, hcap, k1⟩ := hret
    go_wp2_with fail
    refine (ruled_any _ _ _ _ rs 0#32 _ (hr.kept k1)).mono ?_
    rintro e w2 ⟨rfl, k2⟩
    rw [H0.out]
    have k := k1.trans k2
    have hs2 := hs.kept k2
    clear k1 k2 hs
    have hmc := most_cell (w := w2) (t := 3) (B := w2.heap.size) rfl hm6
    rw [HMT.out] at hmc
    have hne : ((xs.length : Int) == 0) = false := by simp; intro h; simp [h] at hpos
    have hgt : decide (mt < xs.length) = false := by simp; omega
    have HA := Lib.hid hanti
    clear hanti
    go_wp2_with fail
    have hka : Kept w2 (w2.alloc (.cells #[.int .i64 1, .int .i64 1, .int .i64 2, .int .i64 3, .int .i64 6, .int .i64 10, .int .i64 20] 3)) := (Kept.refl _).alloc _
    clear hmc hgt hmost hm1 hm2
    generalize w2.alloc (.cells #[.int .i64 1, .int .i64 1, .int .i64 2, .int .i64 3, .int .i64 6, .int .i64 10, .int .i64 20] 3) = wa at hka
    have hsa := hs2.kept hka
    have ka := k.trans hka
    clear hka hs2 k
    obtain ⟨b, off, _, hA1, _, _⟩ := hsa.get 0 hpos
    subst hA1
    go_loop [43] (fun t => ∃ q : Nat, q ≤ xs.length ∧ t = .int .i64 q) (fun t => xs.length - (intOf t).toNat)
    case atStart => exact ⟨0, Nat.zero_le _, rfl⟩
    case round =>
      obtain ⟨q, hq, rfl⟩ := hrel
      by_cases hlt : q < xs.length
      · obtain ⟨b1, o1, hq4, e1, _, cq⟩ := hsa.get q hlt
        injection e1 with e1
        injection e1 with e1 e1'
        subst e1 e1'
        have hcq : q ≤ c1 := by omega
        have hst := hsa.take (i := q) (by omega)
        go_wp2_with fail
        go_loop [52] (fun t => ∃ r : Nat, r ≤ q ∧ t = .int .i64 r) (fun t => q - (intOf t).toNat)
        case atStart => exact ⟨0, Nat.zero_le _, rfl⟩
        case round =>
          obtain ⟨r, hr2, rfl⟩ := hrel
          by_cases hlt2 : r < q
          · obtain ⟨b2, o2, hq5, e2, _, cr⟩ := hst.get r hlt2
            injection e2 with e2
            injection e2 with e2 e2'
            subst e2 e2'
            obtain ⟨ha1, ha2⟩ := anti_at HA.out hlt2 hq4
            go_wp2_with (go_at_call 14; refine (in_any _ _ _).mono ?_; rintro e w' ⟨rfl, rfl⟩)
            go_round
            case rel => exact ⟨r + 1, by omega, by go_num⟩
            case measure => simp [intOf]; omega
          · go_wp2_with fail
            go_round
            case rel => exact ⟨q + 1, by omega, by go_num⟩
            case measure => simp [intOf]; omega
      · go_wp2_with fail
        go_ret
        exact ⟨rfl, ka⟩
  · have h1 : checkF n rs [] ≠ 0 := by
      intro h2
      apply h0
      obtain ⟨q1, q2, q3, q4, _⟩ := checkF_zero h2
      exact checkF_ok q1 q2 q3 q4 (by simp [fitB_zero])
    have hne : (checkF n rs [] != 0) = true := by simpa using h1
    have hnz : (checkF n rs [0#32] == 0) = false := by simpa using h0
    clear h0 h1
    go_enter Try.func6, Try.ntmps6
    go_wp2_with fail
    refine (keys_no _ _ _ _ rs _ hr hne).mono ?_
    rintro e w1 ⟨rfl, k1⟩
    go_wp2_with fail
    refine (ruled_any _ _ _ _ rs 0#32 _ (hr.kept k1)).mono ?_
    rintro e w2 ⟨rfl, k2⟩
    go_wp2_with fail
    go_ret
    exact ⟨rfl, k1.trans k2⟩
end Go.Proofs.Ytmdlfngdmlhpmaa.followKeyDone
