/- The walk of share.lost. -/
import Derived.Test.YtodkpojmonikiaaChecked
import Derived.Test.YtodkpojmonikiaaShareP
import Derived.Test.YtodkpojmonikiaaSeat
import Derived.Test.YtodkpojmonikiaaFirst
import Derived.Test.YtodkpojmonikiaaArr
import Derived.BigQuiet
namespace Go.Proofs.Ytodkpojmonikiaa
open Go Go.RowKit
set_option linter.unusedVariables false

/-- a set that has one beyond n -/
def misV (n : Nat) (q : BitVec 32) : Bool := !fitB n q
def setsF (n : Int) (sets : List (BitVec 32)) : Int := if n < 1 ∨ 6 < n ∨ 10 < sets.length then 1 else if sets.any (misV n.toNat) then 4 else 0
theorem setsF_zero {n : Int} {sets : List (BitVec 32)} (h : setsF n sets = 0) : ∃ nn : Nat, n = nn ∧ 1 ≤ nn ∧ nn ≤ 6 ∧ sets.length ≤ 10 ∧ sets.any (misV nn) = false := by
  unfold setsF at h
  by_cases h1 : n < 1 ∨ 6 < n ∨ 10 < sets.length
  · rw [if_pos h1] at h; cases h
  · rw [if_neg h1] at h
    obtain ⟨nn, rfl⟩ := Int.eq_ofNat_of_zero_le (show 0 ≤ n by omega)
    rw [Int.toNat_natCast] at h
    refine ⟨nn, rfl, by omega, by omega, by omega, ?_⟩
    cases h2 : sets.any (misV nn)
    · rfl
    · rw [if_pos h2] at h; cases h
theorem lostA1_any (nn : Nat) (p : Addr) (x : BitVec 32) (w : World) (hp : w.cell? p = some (.int .i64 nn)) (hn8 : nn ≤ 8) :
    Calls Try.prog 87 #[.int .u32 (W x), .pointer (some p)] w fun e w' => e = .returned (.bool (misV nn x)) ∧ w = w' := by
  go_enter Try.func87, Try.ntmps87
  go_wp2
  go_ret
  exact ⟨rfl, rfl⟩
theorem lostAIndex_any (nn : Nat) (p : Addr) (A : Option Addr) (n c : Nat) (xs : List (BitVec 32)) (w : World) (hs : SlW w A n xs) (hn : n ≤ 1000) (hp : w.cell? p = some (.int .i64 nn)) (hn8 : nn ≤ 8) :
    Calls Try.prog 85 #[.slice A n c, .func (.func 87) #[] #[.pointer (some p)]] w fun e w' => e = .returned (.int .i64 (firstI (misV nn) xs)) ∧ w = w' := by
  go_enter Try.func85, Try.ntmps85
  go_wp2_with fail
  go_loop [8] (fun t => ∃ q : Nat, q ≤ n ∧ t = .int .i64 q ∧ Hid ((xs.take q).any (misV nn) = false)) (fun t => n - (intOf t).toNat)
  case atStart => exact ⟨0, Nat.zero_le _, rfl, Lib.hid rfl⟩
  case round =>
    obtain ⟨q, hq, rfl, HN⟩ := hrel
    by_cases hlt : q < n
    · obtain ⟨b, off, hk, rfl, hb, cq⟩ := hs.get q hlt
      have hsn := Lib.hid (any_snoc (misV nn) xs q hk)
      have hhit := Lib.hid (firstI_hit (misV nn) xs q hk HN.out)
      cases hb1 : (misV nn) xs[q]
      · have HB := Lib.hid hb1
        clear hb1
        go_wp2_with fail
        refine (lostA1_any nn p _ _ hp hn8).mono ?_
        rintro e w' ⟨rfl, rfl⟩
        rw [HB.out]
        go_wp2_with fail
        go_round
        case rel => exact ⟨q + 1, by omega, by go_num, Lib.hid (by rw [hsn.out, HN.out, HB.out]; rfl)⟩
        case measure => simp [intOf]; omega
      · have HB := Lib.hid hb1
        clear hb1
        go_wp2_with fail
        refine (lostA1_any nn p _ _ hp hn8).mono ?_
        rintro e w' ⟨rfl, rfl⟩
        rw [HB.out]
        go_wp2_with fail
        go_ret
        exact ⟨by rw [hhit.out HB.out]; rfl, rfl⟩
    · have HK := Lib.hid (take_all xs q (by rw [hs.2]; omega))
      go_wp2_with fail
      go_ret
      exact ⟨by rw [firstI_none _ _ (by rw [← HK.out]; exact HN.out)]; rfl, rfl⟩
theorem lostAContains_any (nn : Nat) (p : Addr) (A : Option Addr) (n c : Nat) (xs : List (BitVec 32)) (w : World) (hs : SlW w A n xs) (hn : n ≤ 1000) (hp : w.cell? p = some (.int .i64 nn)) (hn8 : nn ≤ 8) :
    Calls Try.prog 65 #[.slice A n c, .func (.func 87) #[] #[.pointer (some p)]] w fun e w' => e = .returned (.bool (xs.any (misV nn))) ∧ w = w' := by
  have H := Lib.hid (firstI_ge (misV nn) xs)
  go_enter Try.func65, Try.ntmps65
  go_wp2_with fail
  refine (lostAIndex_any nn p _ _ _ xs _ hs hn hp hn8).mono ?_
  rintro e w' ⟨rfl, rfl⟩
  go_wp2_with fail
  go_ret
  exact ⟨by rw [← H.out]; rfl, rfl⟩

theorem lostB1_any (who : BitVec 32) (p : Addr) (x : BitVec 32) (w : World) (hp : w.cell? p = some (.int .u32 (W who))) :
    Calls Try.prog 89 #[.int .u32 (W x), .pointer (some p)] w fun e w' => e = .returned (.bool (subB x who)) ∧ w = w' := by
  go_enter Try.func89, Try.ntmps89
  go_wp2
  go_ret
  exact ⟨rfl, rfl⟩
theorem lostBIndex_any (who : BitVec 32) (p : Addr) (A : Option Addr) (n c : Nat) (xs : List (BitVec 32)) (w : World) (hs : SlW w A n xs) (hn : n ≤ 1000) (hp : w.cell? p = some (.int .u32 (W who))) :
    Calls Try.prog 85 #[.slice A n c, .func (.func 89) #[] #[.pointer (some p)]] w fun e w' => e = .returned (.int .i64 (firstI (fun x => subB x who) xs)) ∧ w = w' := by
  go_enter Try.func85, Try.ntmps85
  go_wp2_with fail
  go_loop [8] (fun t => ∃ q : Nat, q ≤ n ∧ t = .int .i64 q ∧ Hid ((xs.take q).any (fun x => subB x who) = false)) (fun t => n - (intOf t).toNat)
  case atStart => exact ⟨0, Nat.zero_le _, rfl, Lib.hid rfl⟩
  case round =>
    obtain ⟨q, hq, rfl, HN⟩ := hrel
    by_cases hlt : q < n
    · obtain ⟨b, off, hk, rfl, hb, cq⟩ := hs.get q hlt
      have hsn := Lib.hid (any_snoc (fun x => subB x who) xs q hk)
      have hhit := Lib.hid (firstI_hit (fun x => subB x who) xs q hk HN.out)
      cases hb1 : (fun x => subB x who) xs[q]
      · have HB := Lib.hid hb1
        clear hb1
        go_wp2_with fail
        refine (lostB1_any who p _ _ hp).mono ?_
        rintro e w' ⟨rfl, rfl⟩
        rw [HB.out]
        go_wp2_with fail
        go_round
        case rel => exact ⟨q + 1, by omega, by go_num, Lib.hid (by rw [hsn.out, HN.out, HB.out]; rfl)⟩
        case measure => simp [intOf]; omega
      · have HB := Lib.hid hb1
        clear hb1
        go_wp2_with fail
        refine (lostB1_any who p _ _ hp).mono ?_
        rintro e w' ⟨rfl, rfl⟩
        rw [HB.out]
        go_wp2_with fail
        go_ret
        exact ⟨by rw [hhit.out HB.out]; rfl, rfl⟩
    · have HK := Lib.hid (take_all xs q (by rw [hs.2]; omega))
      go_wp2_with fail
      go_ret
      exact ⟨by rw [firstI_none _ _ (by rw [← HK.out]; exact HN.out)]; rfl, rfl⟩
theorem lostBContains_any (who : BitVec 32) (p : Addr) (A : Option Addr) (n c : Nat) (xs : List (BitVec 32)) (w : World) (hs : SlW w A n xs) (hn : n ≤ 1000) (hp : w.cell? p = some (.int .u32 (W who))) :
    Calls Try.prog 65 #[.slice A n c, .func (.func 89) #[] #[.pointer (some p)]] w fun e w' => e = .returned (.bool (xs.any (fun x => subB x who))) ∧ w = w' := by
  have H := Lib.hid (firstI_ge (fun x => subB x who) xs)
  go_enter Try.func65, Try.ntmps65
  go_wp2_with fail
  refine (lostBIndex_any who p _ _ _ xs _ hs hn hp).mono ?_
  rintro e w' ⟨rfl, rfl⟩
  go_wp2_with fail
  go_ret
  exact ⟨by rw [← H.out]; rfl, rfl⟩

theorem is_any (who : BitVec 32) (q : Addr) (A : Option Addr) (n c : Nat) (sets : List (BitVec 32)) (w : World) (hq : w.cell? q = some (.slice A n c)) (hs : SlW w A n sets) (hn : n ≤ 1000) (hlt : q.block < w.heap.size) (b : Bool) (hb : lostB sets who = b) :
    Calls Try.prog 88 #[.int .u32 (W who), .pointer (some q)] w fun e w' => e = .returned (.bool b) ∧ Kept w w' := by
  have hka : Kept w (w.alloc (.cells #[.int .u32 (W who)] 23)) := (Kept.refl _).alloc _
  have bx := Box.new w #[.int .u32 (W who)] 23 w.heap.size rfl
  have c0 := bx.at_ 0 rfl
  have cq := (hka.cell hlt).trans hq
  have HS := Lib.hid (hs.kept hka)
  have HB := Lib.hid (show (!sets.any fun x => subB x who) = b from hb)
  obtain ⟨w1, hw1⟩ : ∃ w1, w.alloc (.cells #[.int .u32 (W who)] 23) = w1 := ⟨_, rfl⟩
  rw [hw1] at c0 cq HS hka
  have HK := Lib.hid hka
  clear bx hq hs hb hka
  go_enter Try.func88, Try.ntmps88
  go_wp2_with fail
  refine (lostBContains_any who _ _ _ _ sets _ HS.out hn c0).mono ?_
  rintro e w2 ⟨rfl, rfl⟩
  go_wp2_with fail
  go_ret
  exact ⟨by rw [← HB.out]; rfl, HK.out⟩
/-! ### lost -/
def mostTo (n : Nat) (sets : List (BitVec 32)) (who : BitVec 32) (i : Nat) : Bool := lostB sets who && (List.range i).all fun j => who.getLsbD j || !lostB sets (who ||| 1#32 <<< j)
theorem mostTo_succ (n : Nat) (sets : List (BitVec 32)) (who : BitVec 32) (i : Nat) : mostTo n sets who (i + 1) = (mostTo n sets who i && (who.getLsbD i || !lostB sets (who ||| 1#32 <<< i))) := by
  unfold mostTo
  rw [List.range_succ, List.all_append]
  simp [Bool.and_assoc]
theorem mostTo_zero (n : Nat) (sets : List (BitVec 32)) (who : BitVec 32) : mostTo n sets who 0 = lostB sets who := by simp [mostTo]
theorem mostTo_done (n : Nat) (sets : List (BitVec 32)) (who : BitVec 32) : mostTo n sets who n = mostB n sets who := rfl
def mostsTo (n : Nat) (sets : List (BitVec 32)) (k : Nat) : List (BitVec 32) := ((words n).take k).filter (mostB n sets)
theorem mostsTo_succ {n : Nat} {sets : List (BitVec 32)} {k : Nat} (hk : k < (words n).length) : mostsTo n sets (k + 1) = mostsTo n sets k ++ (if mostB n sets (words n)[k] then [(words n)[k]] else []) := filter_snoc _ _ _ hk
theorem mostsTo_le (n : Nat) (sets : List (BitVec 32)) (k : Nat) : (mostsTo n sets k).length ≤ k := len_filter_le _ _ _
theorem mostsTo_done (n : Nat) (sets : List (BitVec 32)) {k : Nat} (h : 2 ^ n ≤ k) : mostsTo n sets k = mostL n sets := by
  unfold mostsTo mostL
  rw [take_all _ _ (by rw [words_length]; exact h)]
def RetLost (w : World) (n : Int) (sets : List (BitVec 32)) (e : Ending) (w' : World) : Prop :=
  Kept w w' ∧ (((setsF n sets != 0) = true ∧ e = .returned (.tuple #[.slice none 0 0, .int .i64 (setsF n sets)])) ∨
    (setsF n sets = 0 ∧ ∃ A c, e = .returned (.tuple #[.slice A (mostL n.toNat sets).length c, .int .i64 0]) ∧ SlW w' A (mostL n.toNat sets).length (mostL n.toNat sets)))
set_option maxHeartbeats 2000000 in
theorem lost_bad (n : Int) (A : Option Addr) (len c : Nat) (sets : List (BitVec 32)) (w : World) (hs : SlW w A len sets) (h : (setsF n sets != 0) = true) :
    Calls Try.prog 67 #[.int .i64 n, .slice A len c] w (RetLost w n sets) := by
  have HV := Lib.hid h
  have hka : Kept w ((w.alloc (.cells #[.int .i64 n] 3)).alloc (.cells #[.slice A len c] 40)) := ((Kept.refl _).alloc _).alloc _
  obtain ⟨b0, b1⟩ := boxes2 (Kept.refl ((w.alloc (.cells #[.int .i64 n] 3)).alloc (.cells #[.slice A len c] 40)))
  have c0 := b0.at_ 0 rfl
  have c1 := b1.at_ 0 rfl
  have HS := Lib.hid (hs.kept hka)
  have hlen := hs.2
  obtain ⟨w1, hw1⟩ : ∃ w1, (w.alloc (.cells #[.int .i64 n] 3)).alloc (.cells #[.slice A len c] 40) = w1 := ⟨_, rfl⟩
  rw [hw1] at c0 c1 HS hka
  have HK := Lib.hid hka
  clear b0 b1 hs hka
  by_cases hbad : n < 1 ∨ 6 < n ∨ 10 < len
  · have FIN := Lib.hid (show RetLost w n sets (.returned (.tuple #[.slice none 0 0, .int .i64 1])) w1 from ⟨HK.out, .inl ⟨h, by
      have : setsF n sets = 1 := by unfold setsF; rw [if_pos (by rw [hlen]; exact hbad)]
      rw [this]⟩⟩)
    clear h hlen
    by_cases h1 : n < 1
    · have d1 : decide (n < 1) = true := by simpa using h1
      clear hbad
      go_enter Try.func67, Try.ntmps67
      go_wp2_with fail
      go_ret2
      exact FIN.out
    · have d1 : decide (n < 1) = false := by simpa using h1
      by_cases h2 : 6 < n
      · have d2 : decide (6 < n) = true := by simpa using h2
        clear hbad
        go_enter Try.func67, Try.ntmps67
        go_wp2_with fail
        go_ret2
        exact FIN.out
      · have d2 : decide (6 < n) = false := by simpa using h2
        have d3 : decide (10 < (len : Int)) = true := by simp; omega
        clear hbad
        go_enter Try.func67, Try.ntmps67
        go_wp2_with fail
        go_ret2
        exact FIN.out
  · obtain ⟨nn, rfl⟩ := Int.eq_ofNat_of_zero_le (show 0 ≤ n by omega)
    have hv : setsF nn sets = if sets.any (misV nn) then 4 else 0 := by unfold setsF; rw [if_neg (by rw [hlen]; exact hbad), Int.toNat_natCast]
    have hany : sets.any (misV nn) = true := by
      cases ha : sets.any (misV nn)
      · rw [hv, ha] at h; cases h
      · rfl
    have FIN := Lib.hid (show ∀ w', Kept w1 w' → RetLost w nn sets (.returned (.tuple #[.slice none 0 0, .int .i64 4])) w' from fun w' k => ⟨HK.out.trans k, .inl ⟨h, by rw [hv, hany]; rfl⟩⟩)
    have HA := Lib.hid hany
    have d1 : decide ((nn : Int) < 1) = false := by simp; omega
    have d2 : decide (6 < (nn : Int)) = false := by simp; omega
    have d3 : decide (10 < (len : Int)) = false := by simp; omega
    have hl1000 : len ≤ 1000 := by omega
    have hn8 : nn ≤ 8 := by omega
    clear h hv hany hbad hlen
    go_enter Try.func67, Try.ntmps67
    go_wp2_with fail
    refine (lostAContains_any nn _ _ _ _ sets _ HS.out hl1000 c0 hn8).mono ?_
    rintro e w2 ⟨rfl, rfl⟩
    rw [HA.out]
    go_wp2_with fail
    go_ret2
    exact FIN.out _ (Kept.refl _)
set_option maxRecDepth 100000 in
set_option maxHeartbeats 4000000 in
theorem lost_good (n : Nat) (A : Option Addr) (len c : Nat) (sets : List (BitVec 32)) (w : World) (hs : SlW w A len sets) (h : setsF n sets = 0) :
    Calls Try.prog 67 #[.int .i64 n, .slice A len c] w fun e w' => Kept w w' ∧ ∃ A c, e = .returned (.tuple #[.slice A (mostL n sets).length c, .int .i64 0]) ∧ SlW w' A (mostL n sets).length (mostL n sets) := by
  obtain ⟨nn, e, h1, h6, hl10, hany⟩ := setsF_zero h
  obtain rfl : n = nn := by omega
  clear e
  have hka : Kept w ((w.alloc (.cells #[.int .i64 n] 3)).alloc (.cells #[.slice A len c] 40)) := ((Kept.refl _).alloc _).alloc _
  obtain ⟨b0, b1⟩ := boxes2 (Kept.refl ((w.alloc (.cells #[.int .i64 n] 3)).alloc (.cells #[.slice A len c] 40)))
  have c0 := b0.at_ 0 rfl
  have c1 := b1.at_ 0 rfl
  have hb0 := b0.1
  have hb1 := b1.1
  have HS := Lib.hid (hs.kept hka)
  have hlen := hs.2
  obtain ⟨w1, hw1⟩ : ∃ w1, (w.alloc (.cells #[.int .i64 n] 3)).alloc (.cells #[.slice A len c] 40) = w1 := ⟨_, rfl⟩
  rw [hw1] at c0 c1 HS hka hb0 hb1
  have HK := Lib.hid hka
  have HA := Lib.hid hany
  have d1 : decide ((n : Int) < 1) = false := by simp; omega
  have d2 : decide (6 < (n : Int)) = false := by simp; omega
  have d3 : decide (10 < (len : Int)) = false := by simp; omega
  have hl1000 : len ≤ 1000 := by omega
  have hn8 : n ≤ 8 := by omega
  have hn31 : n ≤ 31 := by omega
  have hpl := pow_le n h6
  clear b0 b1 hs hka h hany hlen
  go_enter Try.func67, Try.ntmps67
  go_wp2_with fail
  refine (lostAContains_any n _ _ _ _ sets _ HS.out hl1000 c0 hn8).mono ?_
  rintro e w2 ⟨rfl, rfl⟩
  rw [HA.out]
  go_wp2_with fail
  go_loopw [7, 28] (fun l t wr => ∃ k : Nat, k ≤ 2 ^ n ∧ t = .int .u32 (W (BitVec.ofNat 32 k)) ∧ Own w1 wr 23 1 l (mostsTo n sets k).length ((mostsTo n sets k).map wv)) (fun _ t _ => 2 ^ n - (intOf t).toNat)
  case atStart => exact ⟨0, Nat.zero_le _, rfl, Own.start (Kept.refl _)⟩
  case round =>
    obtain ⟨k, hkn, rfl, hown⟩ := hrel
    by_cases hlt : k < 2 ^ n
    · have hy := word_yes (show n < 32 by omega) hlt
      have hkl : k < (words n).length := by rw [words_length]; exact hlt
      have hle := mostsTo_le n sets k
      have HST := Lib.hid (mostsTo_succ (sets := sets) hkl)
      have HW := Lib.hid (words_at hkl)
      have HLT := Lib.hid hlt
      have HOWN := Lib.hid hown
      have e0 := (hown.2.cell (p := ⟨w.heap.size, 0, none⟩) hb0).trans c0
      have e1 := (hown.2.cell (p := ⟨w.heap.size + 1, 0, none⟩) hb1).trans c1
      have HS2 := Lib.hid (HS.out.kept hown.2)
      have hb1' := Nat.lt_of_lt_of_le hb1 hown.2.size
      have hb0' := Nat.lt_of_lt_of_le hb0 hown.2.size
      clear hown hlt
      go_wp2_with fail
      refine (is_any (BitVec.ofNat 32 k) _ _ _ _ sets _ e1 HS2.out hl1000 hb1' _ rfl).mono ?_
      rintro e w2 ⟨rfl, k2⟩
      have f0 := (k2.cell (p := ⟨w.heap.size, 0, none⟩) hb0').trans e0
      go_wp2_with fail
      obtain ⟨wo, hwo⟩ : ∃ wo : World, wo = wr := ⟨_, rfl⟩
      subst hwo
      go_loopw [9, 35] (fun m t wr => ∃ (i : Nat) (b : Bool), i ≤ n ∧ t = .int .i64 i ∧ m = .bool b ∧ Kept wo wr ∧ Hid (mostTo n sets (BitVec.ofNat 32 k) i = b)) (fun _ t _ => n - (intOf t).toNat)
      case atStart => exact ⟨0, _, Nat.zero_le _, rfl, rfl, k2, Lib.hid (mostTo_zero n sets (BitVec.ofNat 32 k))⟩
      case round =>
        obtain ⟨i, b, hi, rfl, rfl, hki, HB⟩ := hrel
        by_cases hlt2 : i < n
        · have HSU := Lib.hid (mostTo_succ n sets (BitVec.ofNat 32 k) i)
          have i1 : (0 : Int) ≤ (i : Int) := by omega
          have i2 : (i : Int) < (n : Int) := by omega
          have hi31 : i ≤ 31 := by omega
          cases b
          · go_wp2_with fail
            go_roundw
            case rel => exact ⟨i + 1, false, by omega, by go_num, rfl, hki, Lib.hid (by rw [HSU.out, HB.out]; rfl)⟩
            case measure => simp [intOf]; omega
          · cases hbit : (BitVec.ofNat 32 k).getLsbD i
            · have HBIT := Lib.hid hbit
              have g1 := (hki.cell (p := ⟨w.heap.size + 1, 0, none⟩) hb1').trans e1
              have HS3 := Lib.hid (HS2.out.kept hki)
              have hb3 := Nat.lt_of_lt_of_le hb1' hki.size
              go_wp2_with fail
              refine (is_any ((BitVec.ofNat 32 k) ||| 1#32 <<< i) _ _ _ _ sets _ g1 HS3.out hl1000 hb3 _ rfl).mono ?_
              rintro e w4 ⟨rfl, k4⟩
              go_wp2_with fail
              go_roundw
              case rel => exact ⟨i + 1, _, by omega, by go_num, rfl, hki.trans k4, Lib.hid (by rw [HSU.out, HB.out, HBIT.out]; rfl)⟩
              case measure => simp [intOf]; omega
            · have HBIT := Lib.hid hbit
              go_wp2_with fail
              go_roundw
              case rel => exact ⟨i + 1, true, by omega, by go_num, rfl, hki, Lib.hid (by rw [HSU.out, HB.out, HBIT.out]; rfl)⟩
              case measure => simp [intOf]; omega
        · obtain rfl : i = n := by omega
          have HD := Lib.hid (mostTo_done i sets (BitVec.ofNat 32 k))
          have hown := HOWN.out.kept hki
          cases b
          · have HE := Lib.hid (show mostsTo i sets (k + 1) = mostsTo i sets k by rw [HST.out, HW.out, ← HD.out, HB.out]; simp)
            have hlt := HLT.out
            go_wp2_with fail
            go_roundw
            case rel => exact ⟨k + 1, by omega, by rw [word_succ], by rw [HE.out]; exact hown⟩
            case measure => simp only [intOf]; rw [word_succ]; exact word_meas (by omega) hlt
          · have HE := Lib.hid (show mostsTo i sets (k + 1) = mostsTo i sets k ++ [BitVec.ofNat 32 k] by rw [HST.out, HW.out, ← HD.out, HB.out]; simp)
            have hlt := HLT.out
            go_wp2_with (at_builtin; refine wpList_push rfl _ _ 40 rfl 23 Try.underlying40 info_u32 rfl (by decide) (by decide) _ _ _ _ hown #[.int .u32 (W (BitVec.ofNat 32 k))] _ _ 1 1 rfl rfl rfl rfl (one_u32 _) (by omega) ?_; intro v' w4 hown4 _)
            go_roundw
            case rel => exact ⟨k + 1, by omega, by rw [word_succ], by rw [HE.out]; simpa [wv] using hown4⟩
            case measure => simp only [intOf]; rw [word_succ]; exact word_meas (by omega) hlt
    · have hkk : k = 2 ^ n := by omega
      have hy := word_no (show n < 32 by omega) hkk
      have HKL := Lib.hid (mostsTo_done n sets (k := k) (by omega))
      clear hkk
      have e0 := (hown.2.cell (p := ⟨w.heap.size, 0, none⟩) hb0).trans c0
      rw [HKL.out] at hown
      obtain ⟨A2, c2, rfl, hsl, hcap⟩ := hown.form
      have FIN := Lib.hid (show SlW wr A2 (mostL n sets).length (mostL n sets) from ⟨hsl, rfl⟩)
      have HK2 := Lib.hid (HK.out.trans hown.2)
      clear hown hsl
      go_wp2_with fail
      go_ret2
      exact ⟨HK2.out, A2, c2, rfl, FIN.out⟩
theorem lost_any (n : Int) (A : Option Addr) (len c : Nat) (sets : List (BitVec 32)) (w : World) (hs : SlW w A len sets) :
    Calls Try.prog 67 #[.int .i64 n, .slice A len c] w (RetLost w n sets) := by
  by_cases h : setsF n sets = 0
  · obtain ⟨nn, rfl, _⟩ := setsF_zero h
    refine (lost_good nn A len c sets w hs h).mono ?_
    rintro e w1 ⟨k1, A2, c2, rfl, h2⟩
    exact ⟨k1, .inr ⟨h, A2, c2, by rw [Int.toNat_natCast], by rw [Int.toNat_natCast]; exact h2⟩⟩
  · exact lost_bad n A len c sets w hs (by simpa using h)
end Go.Proofs.Ytodkpojmonikiaa
