/- The walks of package veil: Least, Pick; and of Has. -/
import Derived.Test.YtodkpojmonikiaaVeil
namespace Go.Proofs.Ytodkpojmonikiaa
open Go Go.RowKit
set_option linter.unusedVariables false

theorem veilLe1_any (s : BitVec 32) (p : Addr) (x : BitVec 32) (w : World) (hp : w.cell? p = some (.int .u32 (W s))) :
    Calls Try.prog 64 #[.int .u32 (W x), .pointer (some p)] w fun e w' => e = .returned (.bool (subB x s)) ∧ w = w' := by
  go_enter Try.func64, Try.ntmps64
  go_wp2
  go_ret
  exact ⟨rfl, rfl⟩
def subTo (s x : BitVec 32) : Bool := subB x s
theorem veilLe1_is (s : BitVec 32) (p : Addr) (x : BitVec 32) (w : World) (hp : w.cell? p = some (.int .u32 (W s))) :
    Calls Try.prog 64 #[.int .u32 (W x), .pointer (some p)] w fun e w' => e = .returned (.bool (subTo s x)) ∧ w = w' := veilLe1_any s p x w hp
theorem veilLeIndex_any (s : BitVec 32) (p : Addr) (A : Option Addr) (n c : Nat) (xs : List (BitVec 32)) (w : World) (hs : SlW w A n xs) (hn : n ≤ 1000) (hp : w.cell? p = some (.int .u32 (W s))) :
    Calls Try.prog 85 #[.slice A n c, .func (.func 64) #[] #[.pointer (some p)]] w fun e w' => e = .returned (.int .i64 (firstI (subTo s) xs)) ∧ w = w' := by
  go_enter Try.func85, Try.ntmps85
  go_wp2_with fail
  go_loop [8] (fun t => ∃ q : Nat, q ≤ n ∧ t = .int .i64 q ∧ Hid ((xs.take q).any (subTo s) = false)) (fun t => n - (intOf t).toNat)
  case atStart => exact ⟨0, Nat.zero_le _, rfl, Lib.hid rfl⟩
  case round =>
    obtain ⟨q, hq, rfl, HN⟩ := hrel
    by_cases hlt : q < n
    · obtain ⟨b, off, hk, rfl, hb, cq⟩ := hs.get q hlt
      have hsn := Lib.hid (any_snoc (subTo s) xs q hk)
      have hhit := Lib.hid (firstI_hit (subTo s) xs q hk HN.out)
      cases hb1 : (subTo s) xs[q]
      · have HB := Lib.hid hb1
        clear hb1
        go_wp2_with fail
        refine (veilLe1_is s p _ _ hp).mono ?_
        rintro e w' ⟨rfl, rfl⟩
        rw [HB.out]
        go_wp2_with fail
        go_round
        case rel => exact ⟨q + 1, by omega, by go_num, Lib.hid (by rw [hsn.out, HN.out, HB.out]; rfl)⟩
        case measure => simp [intOf]; omega
      · have HB := Lib.hid hb1
        clear hb1
        go_wp2_with fail
        refine (veilLe1_is s p _ _ hp).mono ?_
        rintro e w' ⟨rfl, rfl⟩
        rw [HB.out]
        go_wp2_with fail
        go_ret
        exact ⟨by rw [hhit.out HB.out]; rfl, rfl⟩
    · have HK := Lib.hid (take_all xs q (by rw [hs.2]; omega))
      go_wp2_with fail
      go_ret
      exact ⟨by rw [firstI_none _ _ (by rw [← HK.out]; exact HN.out)]; rfl, rfl⟩
theorem veilLeContains_any (s : BitVec 32) (p : Addr) (A : Option Addr) (n c : Nat) (xs : List (BitVec 32)) (w : World) (hs : SlW w A n xs) (hn : n ≤ 1000) (hp : w.cell? p = some (.int .u32 (W s))) :
    Calls Try.prog 65 #[.slice A n c, .func (.func 64) #[] #[.pointer (some p)]] w fun e w' => e = .returned (.bool (xs.any (subTo s))) ∧ w = w' := by
  have H := Lib.hid (firstI_ge (subTo s) xs)
  go_enter Try.func65, Try.ntmps65
  go_wp2_with fail
  refine (veilLeIndex_any s p _ _ _ xs _ hs hn hp).mono ?_
  rintro e w' ⟨rfl, rfl⟩
  go_wp2_with fail
  go_ret
  exact ⟨by rw [← H.out]; rfl, rfl⟩

/-- has a list a number? -/
def hasI (xs : List Int) (x : Int) : Bool := xs.contains x
theorem hasI_iff {xs : List Int} {x : Int} : hasI xs x = true ↔ x ∈ xs := List.contains_iff_mem
theorem has_any (A : Option Addr) (len c : Nat) (xs : List Int) (x : Int) (w : World) (hx : SlI w A len xs) (hl : len ≤ 1000000) :
    Calls Try.prog 34 #[.slice A len c, .int .i64 x] w fun e w' => e = .returned (.bool (hasI xs x)) ∧ w = w' := by
  go_enter Try.func34, Try.ntmps34
  go_wp2_with fail
  go_loopw [9] (fun i wr => ∃ k : Nat, k ≤ len ∧ i = .int .i64 k ∧ w = wr ∧ Hid (hasI (xs.take k) x = false)) (fun i _ => len - (intOf i).toNat)
  case atStart => exact ⟨0, Nat.zero_le _, rfl, rfl, Lib.hid rfl⟩
  case round =>
    obtain ⟨k, hk, rfl, rfl, hno⟩ := hrel
    by_cases hlt : k < len
    · obtain ⟨b, off, hkr, rfl, hb, c1⟩ := hx.get k hlt
      have hs := Lib.hid (take_snoc xs k hkr)
      have hmem := Lib.hid (List.getElem_mem hkr)
      generalize xs[k] = y at c1 hs hmem
      cases hd : x == y
      · go_wp2_with fail
        go_roundw
        case rel => exact ⟨k + 1, by omega, by go_num, trivial, Lib.hid (by have h := hno.out; unfold hasI at h ⊢; rw [hs.out, List.contains_append, h]; simpa using hd)⟩
        case measure => simp [intOf]; omega
      · go_wp2_with fail
        go_ret
        rw [beq_iff_eq] at hd
        subst hd
        exact ⟨by rw [hasI_iff.2 hmem.out]; rfl, rfl⟩
    · have HA := Lib.hid (take_all xs k (by rw [hx.2]; omega))
      go_wp2_with fail
      go_ret
      exact ⟨by have h := hno.out; rw [HA.out] at h; rw [h]; rfl, rfl⟩
/-- the least sets of columns with crowds of k, word by word -/
def vlStep (m : Nat) (rows : List (List Int)) (k : Nat) (l : List (BitVec 32)) (s : BitVec 32) : List (BitVec 32) := if decide (k ≤ crowdN m rows s) && !l.any (subTo s) then l ++ [s] else l
def vlF (m : Nat) (rows : List (List Int)) (k : Nat) (ws : List (BitVec 32)) : List (BitVec 32) := ws.foldl (vlStep m rows k) []
theorem vlF_snoc (m : Nat) (rows : List (List Int)) (k j : Nat) (h : j < (words m).length) : vlF m rows k ((words m).take (j + 1)) = vlStep m rows k (vlF m rows k ((words m).take j)) (words m)[j] := foldl_snoc _ _ _ _ h
theorem vlF_length (m : Nat) (rows : List (List Int)) (k : Nat) : ∀ (ws l : List (BitVec 32)), (ws.foldl (vlStep m rows k) l).length ≤ l.length + ws.length := by
  intro ws
  induction ws with
  | nil => intro l; simp
  | cons a t ih =>
    intro l
    rw [List.foldl_cons]
    refine Nat.le_trans (ih _) ?_
    unfold vlStep
    split <;> simp <;> omega
theorem vlF_all {m : Nat} {rows : List (List Int)} {k : Nat} : ∀ (ws l : List (BitVec 32)), (∀ x ∈ l, k ≤ crowdN m rows x) → ∀ x ∈ ws.foldl (vlStep m rows k) l, k ≤ crowdN m rows x := by
  intro ws
  induction ws with
  | nil => intro l h; exact h
  | cons a t ih =>
    intro l h
    rw [List.foldl_cons]
    refine ih _ ?_
    intro x hx
    unfold vlStep at hx
    split at hx
    · rename_i hc
      rw [List.mem_append] at hx
      rcases hx with hx | hx
      · exact h x hx
      · simp at hx; subst hx
        rw [Bool.and_eq_true, decide_eq_true_eq] at hc
        exact hc.1
    · exact h x hx
theorem vlF_sub {m : Nat} {rows : List (List Int)} {k : Nat} : ∀ (ws l : List (BitVec 32)) (P : BitVec 32 → Prop), (∀ x ∈ l, P x) → (∀ x ∈ ws, P x) → ∀ x ∈ ws.foldl (vlStep m rows k) l, P x := by
  intro ws
  induction ws with
  | nil => intro l P h _; exact h
  | cons a t ih =>
    intro l P h hw
    rw [List.foldl_cons]
    refine ih _ P ?_ (fun x hx => hw x (by simp [hx]))
    intro x hx
    unfold vlStep at hx
    split at hx
    · rw [List.mem_append] at hx
      rcases hx with hx | hx
      · exact h x hx
      · simp at hx; subst hx; exact hw _ (by simp)
    · exact h x hx
theorem words_full (n : Nat) (hn : n < 32) : ∃ l, words n = l ++ [1#32 <<< n - 1#32] := by
  refine ⟨(List.range (2 ^ n - 1)).map (BitVec.ofNat 32), ?_⟩
  have h2 : 2 ^ n = (2 ^ n - 1) + 1 := by have : 0 < 2 ^ n := Nat.pow_pos (by omega); omega
  have e2 : BitVec.ofNat 32 (2 ^ n - 1) = 1#32 <<< n - 1#32 := by
    apply BitVec.eq_of_getLsbD_eq
    intro i hi
    rw [full_bit n i hn, BitVec.getLsbD_ofNat, Nat.testBit_two_pow_sub_one]
    simp [hi]
  unfold words
  rw [h2, List.range_succ, List.map_append, ← e2]
  simp
theorem vlF_pos {m : Nat} {rows : List (List Int)} {k : Nat} (hm : m < 32) (hk : k ≤ rows.length) : vlF m rows k (words m) ≠ [] := by
  obtain ⟨l, e⟩ := words_full m hm
  unfold vlF
  rw [e, List.foldl_append, List.foldl_cons, List.foldl_nil]
  generalize l.foldl (vlStep m rows k) [] = a
  unfold vlStep
  have hc : k ≤ crowdN m rows (1#32 <<< m - 1#32) := by
    unfold crowdN
    rw [crowdTo_all (fun i hi => by rw [full_bit _ _ hm]; simpa using hi)]
    exact hk
  rw [show decide (k ≤ crowdN m rows (1#32 <<< m - 1#32)) = true from decide_eq_true hc, Bool.true_and]
  cases a with
  | nil => simp
  | cons x t => split <;> simp
theorem vlF_nil {m : Nat} {rows : List (List Int)} {k : Nat} (hk : rows.length < k) : vlF m rows k (words m) = [] := by
  have h : ∀ x ∈ vlF m rows k (words m), k ≤ crowdN m rows x := vlF_all (words m) [] (by simp)
  cases hl : vlF m rows k (words m) with
  | nil => rfl
  | cons x t =>
    exfalso
    have := h x (by rw [hl]; simp)
    have h2 := crowdTo_le m rows x rows.length
    unfold crowdN at this
    omega
def RetLeast (w : World) (m : Nat) (rows : List (List Int)) (k : Nat) (e : Ending) (w' : World) : Prop :=
  Kept w w' ∧ ((k ≤ rows.length ∧ ∃ A c, e = .returned (.tuple #[.slice A (vlF m rows k (words m)).length c, .int .i64 0]) ∧ SlW w' A (vlF m rows k (words m)).length (vlF m rows k (words m)) ∧ 0 < (vlF m rows k (words m)).length) ∨
    (rows.length < k ∧ e = .returned (.tuple #[.slice none 0 0, .int .i64 5])))
set_option maxRecDepth 100000 in
set_option maxHeartbeats 1000000 in
theorem leastX_ok (A : Option Addr) (len c : Nat) (rs : List Rv) (k : Nat) (w : World) (hs : SlM w A len rs) (hc : veilF rs 0#32 = 0) (hk : 1 ≤ k) :
    Calls Try.prog 32 #[.slice A len c, .int .i64 k] w (RetLeast w (wid rs) (vnums rs) k) := by
  have hz := veilF_zero hc
  have hl8 : len ≤ 8 := by have := hz.1.2.1; rw [hs.len] at this; exact this
  have hl1 : 1 ≤ len := by have := hz.1.1; rw [hs.len] at this; exact this
  have hm6 := hz.1.2.2
  have hpl := pow_le (wid rs) hm6
  have HRL := Lib.hid hz.2.1
  have HVL := Lib.hid (show (vnums rs).length = len by rw [vnums_len, hs.len])
  have HC := Lib.hid hc
  have HZ := Lib.hid (show (0 : Int) = W 0#32 from rfl)
  have dk : decide ((k : Int) < 1) = false := by simp; omega
  clear hc hz
  go_enter Try.func32, Try.ntmps32
  go_wp2_with fail
  rw [HZ.out]
  refine (veilWrong_any _ _ _ rs 0#32 _ hs).mono ?_
  rintro e w1 ⟨rfl, k1⟩
  rw [HC.out]
  obtain ⟨b1, o1, A1, c1, rfl, hb1, hcell⟩ := (hs.kept k1).first (by omega)
  go_wp2_with fail
  clear hcell dk
  generalize hmm : wid rs = m at hm6 hpl ⊢
  have HM := Lib.hid hmm
  clear hmm
  go_loopw [7, 22] (fun l i wr => ∃ j : Nat, j ≤ 2 ^ m ∧ i = .int .u32 (W (BitVec.ofNat 32 j)) ∧ Own w1 wr 23 1 l (vlF m (vnums rs) k ((words m).take j)).length ((vlF m (vnums rs) k ((words m).take j)).map wv)) (fun _ i _ => 2 ^ m - (intOf i).toNat)
  case atStart => exact ⟨0, Nat.zero_le _, rfl, Own.start (Kept.refl _)⟩
  case round =>
    obtain ⟨j, hj, rfl, hown⟩ := hrel
    by_cases hlt : j < 2 ^ m
    · have hy := word_yes (show m < 32 by omega) hlt
      have hkl : j < (words m).length := by rw [words_length]; exact hlt
      have hle : (vlF m (vnums rs) k ((words m).take j)).length ≤ j := by
        have h1 := vlF_length m (vnums rs) k ((words m).take j) []
        have h2 := List.length_take_le j (words m)
        rw [List.length_nil, Nat.zero_add] at h1
        exact Nat.le_trans h1 h2
      have HS := Lib.hid (vlF_snoc m (vnums rs) k j hkl)
      have HW := Lib.hid (words_at hkl)
      have HST := Lib.hid (fun (l : List (BitVec 32)) (s : BitVec 32) => show vlStep m (vnums rs) k l s = if decide (k ≤ crowdN m (vnums rs) s) && !l.any (subTo s) then l ++ [s] else l from rfl)
      obtain ⟨A2, c2, rfl, hsl, _⟩ := hown.form
      generalize hL : vlF m (vnums rs) k ((words m).take j) = L at hown hle HS hsl
      clear hL
      obtain ⟨B, hB⟩ : ∃ B, wr.heap.size = B := ⟨_, rfl⟩
      have bx := Box.new wr #[.int .u32 (W (BitVec.ofNat 32 j))] 23 B hB
      have hka : Kept wr (wr.alloc (.cells #[.int .u32 (W (BitVec.ofNat 32 j))] 23)) := (Kept.refl _).alloc _
      have e0 := bx.at_ 0 rfl
      go_wp2_with fail
      have HB := Lib.hid hB
      clear hB
      generalize wr.alloc (.cells #[.int .u32 (W (BitVec.ofNat 32 j))] 23) = wa at bx hka e0
      clear e0
      refine (crowd_any m _ _ _ rs (BitVec.ofNat 32 j) _ (((hs.kept k1).kept hown.2).kept hka) (by omega) hl8 (by rw [← HM.out]; exact HRL.out)).mono ?_
      rintro e w3 ⟨rfl, k3⟩
      have bx3 := bx.kept k3
      have e0 := bx3.at_ 0 rfl
      have q3 := hka.trans k3
      have hsl3 : SlW w3 A2 L.length L := ⟨hsl.kept q3, rfl⟩
      generalize hcr : crowdN m (vnums rs) (BitVec.ofNat 32 j) = x
      have HCR := Lib.hid hcr
      clear hcr
      by_cases hxk : k ≤ x
      · have d1 : decide (k ≤ x) = true := by simpa using hxk
        have HX := Lib.hid (show decide (k ≤ crowdN m (vnums rs) (BitVec.ofNat 32 j)) = true by rw [HCR.out]; simpa using hxk)
        go_wp2_with fail
        refine (veilLeContains_any (BitVec.ofNat 32 j) ⟨B, 0, none⟩ _ _ _ L _ hsl3 (by omega) e0).mono ?_
        rintro e w4 ⟨rfl, rfl⟩
        cases ha : L.any (subTo (BitVec.ofNat 32 j))
        · have HA := Lib.hid ha
          clear ha
          go_wp2_with (at_builtin; refine wpList_push rfl _ _ 40 rfl 23 Try.underlying40 info_u32 rfl (by decide) (by decide) _ _ _ _ (hown.kept q3) #[.int .u32 (W (BitVec.ofNat 32 j))] _ _ 1 1 rfl rfl rfl rfl (one_u32 _) (by omega) ?_; intro v' w5 hown5 _)
          go_roundw
          case rel => exact ⟨j + 1, by omega, by rw [word_succ], by rw [HS.out, HW.out, HST.out, HX.out, HA.out]; simpa [wv] using hown5⟩
          case measure => simp only [intOf]; rw [word_succ]; exact word_meas (by omega) hlt
        · have HA := Lib.hid ha
          clear ha
          go_wp2_with fail
          go_roundw
          case rel => exact ⟨j + 1, by omega, by rw [word_succ], by rw [HS.out, HW.out, HST.out, HX.out, HA.out]; exact hown.kept q3⟩
          case measure => simp only [intOf]; rw [word_succ]; exact word_meas (by omega) hlt
      · have d1 : decide (k ≤ x) = false := by simpa using hxk
        have HX := Lib.hid (show decide (k ≤ crowdN m (vnums rs) (BitVec.ofNat 32 j)) = false by rw [HCR.out]; simpa using hxk)
        go_wp2_with fail
        go_roundw
        case rel => exact ⟨j + 1, by omega, by rw [word_succ], by rw [HS.out, HW.out, HST.out, HX.out]; exact hown.kept q3⟩
        case measure => simp only [intOf]; rw [word_succ]; exact word_meas (by omega) hlt
    · have hjj : j = 2 ^ m := by omega
      have hy := word_no (show m < 32 by omega) hjj
      have HK := Lib.hid (take_all (words m) j (by rw [words_length]; omega))
      clear hjj
      rw [HK.out] at hown
      obtain ⟨A2, c2, rfl, hsl, _⟩ := hown.form
      by_cases hkl : k ≤ (vnums rs).length
      · have hne := vlF_pos (m := m) (rows := vnums rs) (k := k) (by omega) hkl
        have hpos : 0 < (vlF m (vnums rs) k (words m)).length := List.length_pos_iff.2 hne
        have FIN := Lib.hid (show RetLeast w m (vnums rs) k (.returned (.tuple #[.slice A2 (vlF m (vnums rs) k (words m)).length c2, .int .i64 0])) wr from ⟨k1.trans hown.2, .inl ⟨hkl, A2, c2, rfl, ⟨hsl, rfl⟩, hpos⟩⟩)
        generalize (vlF m (vnums rs) k (words m)).length = L at hpos FIN ⊢
        have d1 : ((L : Int) == 0) = false := by simp; omega
        clear hne hkl
        go_wp2_with fail
        go_ret2
        rw [HM.out]
        exact FIN.out
      · have hnil := vlF_nil (m := m) (rows := vnums rs) (k := k) (by omega)
        have FIN := Lib.hid (show RetLeast w m (vnums rs) k (.returned (.tuple #[.slice none 0 0, .int .i64 5])) wr from ⟨k1.trans hown.2, .inr ⟨by omega, rfl⟩⟩)
        have HL := Lib.hid (show (vlF m (vnums rs) k (words m)).length = 0 by rw [hnil]; rfl)
        clear hnil hkl
        rw [HL.out]
        go_wp2_with fail
        go_ret2
        rw [HM.out]
        exact FIN.out
theorem leastX_no (A : Option Addr) (len c : Nat) (rs : List Rv) (k : Int) (w : World) (hs : SlM w A len rs) (hc : (veilF rs 0#32 != 0) = true) :
    Calls Try.prog 32 #[.slice A len c, .int .i64 k] w fun e w' => e = .returned (.tuple #[.slice none 0 0, .int .i64 (veilF rs 0#32)]) ∧ Kept w w' := by
  have HZ := Lib.hid (show (0 : Int) = W 0#32 from rfl)
  go_enter Try.func32, Try.ntmps32
  go_wp2_with fail
  rw [HZ.out]
  refine (veilWrong_any _ _ _ rs 0#32 _ hs).mono ?_
  rintro e w1 ⟨rfl, k1⟩
  go_wp2_with fail
  go_ret2
  exact ⟨rfl, k1⟩
theorem leastX_arg (A : Option Addr) (len c : Nat) (rs : List Rv) (k : Int) (w : World) (hs : SlM w A len rs) (hc : veilF rs 0#32 = 0) (hk : decide (k < 1) = true) :
    Calls Try.prog 32 #[.slice A len c, .int .i64 k] w fun e w' => e = .returned (.tuple #[.slice none 0 0, .int .i64 4]) ∧ Kept w w' := by
  have HZ := Lib.hid (show (0 : Int) = W 0#32 from rfl)
  have HC := Lib.hid hc
  clear hc
  go_enter Try.func32, Try.ntmps32
  go_wp2_with fail
  rw [HZ.out]
  refine (veilWrong_any _ _ _ rs 0#32 _ hs).mono ?_
  rintro e w1 ⟨rfl, k1⟩
  rw [HC.out]
  go_wp2_with fail
  go_ret2
  exact ⟨rfl, k1⟩
def RetIntsE (w : World) (xs : List Int) (e : Ending) (w' : World) : Prop := ∃ A c, e = .returned (.tuple #[.slice A xs.length c, .int .i64 0]) ∧ SlI w' A xs.length xs ∧ Kept w w'
theorem pickX_ok (A : Option Addr) (len c : Nat) (rs : List Rv) (hid : BitVec 32) (A2 : Option Addr) (c2 : Nat) (one : List Int) (w : World) (hs : SlM w A len rs) (ho : SlI w A2 (wid rs) one) (hc : veilF rs hid = 0) :
    Calls Try.prog 33 #[.slice A len c, .int .u32 (W hid), .slice A2 (wid rs) c2] w (RetIntsE w (pickTo (wid rs) (vnums rs) hid one len)) := by
  have hz := veilF_zero hc
  have hl8 : len ≤ 8 := by have := hz.1.2.1; rw [hs.len] at this; exact this
  have hl1 : 1 ≤ len := by have := hz.1.1; rw [hs.len] at this; exact this
  have hm6 := hz.1.2.2
  have HRL := Lib.hid hz.2.1
  have HC := Lib.hid hc
  have HC0 := Lib.hid (veilF_ok hc (fitB_zero _))
  have HZ := Lib.hid (show (0 : Int) = W 0#32 from rfl)
  have d1 : (((wid rs : Nat) : Int) != ((wid rs : Nat) : Int)) = false := by simp
  clear hc hz
  go_enter Try.func33, Try.ntmps33
  go_wp2_with fail
  rw [HZ.out]
  refine (veilWrong_any _ _ _ rs 0#32 _ hs).mono ?_
  rintro e w1 ⟨rfl, k1⟩
  rw [HC0.out]
  obtain ⟨b1, o1, A1, c1, rfl, hb1, hcell⟩ := (hs.kept k1).first (by omega)
  go_wp2_with fail
  refine (veilWrong_any _ _ _ rs hid _ (hs.kept k1)).mono ?_
  rintro e w2 ⟨rfl, k2⟩
  rw [HC.out]
  have q2 := k1.trans k2
  go_wp2_with fail
  refine (pick_any (wid rs) _ _ _ rs hid _ _ one _ (hs.kept q2) (ho.kept q2) (by omega) hl8 HRL.out).mono ?_
  rintro e w3 ⟨A3, c3, rfl, hp, k3⟩
  go_wp2_with fail
  go_ret2
  exact ⟨A3, c3, rfl, hp, q2.trans k3⟩
end Go.Proofs.Ytodkpojmonikiaa
