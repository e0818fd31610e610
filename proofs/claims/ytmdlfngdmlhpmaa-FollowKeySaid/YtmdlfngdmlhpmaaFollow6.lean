/- The walks of package follow: Keys. -/
import Derived.Test.YtmdlfngdmlhpmaaFollow5
import Derived.Test.YtmdlfngdmlhpmaaQuiet
namespace Go.Proofs.Ytmdlfngdmlhpmaa
open Go Go.RowKit

theorem keys1_any (x s : BitVec 32) (p : Addr) (w : World) (hp : w.cell? p = some (.int .u32 (W s))) :
    Calls Try.prog 35 #[.int .u32 (W x), .pointer (some p)] w fun e w' => e = .returned (.bool (subB x s)) ∧ w = w' := by
  go_enter Try.func35, Try.ntmps35
  go_wp2
  go_ret
  exact ⟨rfl, rfl⟩

/-- the first at which a test says yes, as an integer; -1: none -/
def firstI {α : Type} (p : α → Bool) (xs : List α) : Int := match xs.findIdx? p with
  | some k => k
  | none => -1
theorem firstI_ge {α : Type} (p : α → Bool) (xs : List α) : decide (0 ≤ firstI p xs) = xs.any p := by
  unfold firstI
  cases h : xs.findIdx? p with
  | none =>
    have := List.findIdx?_eq_none_iff.1 h
    rw [Bool.eq_iff_iff]
    simp
    intro x hx
    simpa using this x hx
  | some k =>
    rw [List.findIdx?_eq_some_iff_getElem] at h
    obtain ⟨hk, h1, _⟩ := h
    have : xs.any p = true := List.any_eq_true.2 ⟨xs[k], List.getElem_mem hk, h1⟩
    rw [this]
    simp
theorem firstI_hit {α : Type} (p : α → Bool) (xs : List α) (k : Nat) (hk : k < xs.length) (h0 : (xs.take k).any p = false) (h1 : p xs[k] = true) : firstI p xs = k := by
  unfold firstI
  have : xs.findIdx? p = some k := by
    rw [List.findIdx?_eq_some_iff_getElem]
    refine ⟨hk, h1, fun j hj => ?_⟩
    rw [List.any_eq_false] at h0
    exact h0 _ (List.mem_take_iff_getElem.2 ⟨j, by omega, rfl⟩)
  rw [this]
theorem firstI_none {α : Type} (p : α → Bool) (xs : List α) (h0 : xs.any p = false) : firstI p xs = -1 := by
  unfold firstI
  have : xs.findIdx? p = none := by
    rw [List.findIdx?_eq_none_iff]
    intro x hx
    rw [List.any_eq_false] at h0
    simpa using h0 x hx
  rw [this]

theorem keysIndex_any (A : Option Addr) (n c : Nat) (xs : List (BitVec 32)) (s : BitVec 32) (p : Addr) (w : World) (hs : SlW w A n xs) (hn : n ≤ 1000) (hp : w.cell? p = some (.int .u32 (W s))) :
    Calls Try.prog 49 #[.slice A n c, .func (.func 35) #[] #[.pointer (some p)]] w fun e w' => e = .returned (.int .i64 (firstI (fun x => subB x s) xs)) ∧ w = w' := by
  go_enter Try.func49, Try.ntmps49
  go_wp2_with fail
  go_loop [8] (fun t => ∃ q : Nat, q ≤ n ∧ t = .int .i64 q ∧ (xs.take q).any (fun x => subB x s) = false) (fun t => n - (intOf t).toNat)
  case atStart => exact ⟨0, Nat.zero_le _, rfl, rfl⟩
  case round =>
    obtain ⟨q, hq, rfl, hnot⟩ := hrel
    have HN := Lib.hid hnot
    clear hnot
    by_cases hlt : q < n
    · obtain ⟨b, off, hk, rfl, hb, cq⟩ := hs.get q hlt
      have hsn := Lib.hid (any_snoc (fun x => subB x s) xs q hk)
      have hhit := Lib.hid (firstI_hit (fun x => subB x s) xs q hk HN.out)
      cases hb1 : subB xs[q] s
      · have HB := Lib.hid hb1
        go_wp2_with fail
        refine (keys1_any _ s _ _ hp).mono ?_
        rintro e w' ⟨rfl, rfl⟩
        rw [HB.out]
        go_wp2_with fail
        go_round
        case rel => exact ⟨q + 1, by omega, by go_num, by rw [hsn.out, HN.out, HB.out]; rfl⟩
        case measure => simp [intOf]; omega
      · have HB := Lib.hid hb1
        go_wp2_with fail
        refine (keys1_any _ s _ _ hp).mono ?_
        rintro e w' ⟨rfl, rfl⟩
        rw [HB.out]
        go_wp2_with fail
        go_ret
        exact ⟨by rw [hhit.out HB.out]; rfl, rfl⟩
    · have HK := Lib.hid (take_all xs q (by rw [hs.2]; omega))
      go_wp2_with fail
      go_ret
      exact ⟨by rw [firstI_none _ _ (by rw [← HK.out]; exact HN.out)]; rfl, rfl⟩
theorem keysContains_any (A : Option Addr) (n c : Nat) (xs : List (BitVec 32)) (s : BitVec 32) (p : Addr) (w : World) (hs : SlW w A n xs) (hn : n ≤ 1000) (hp : w.cell? p = some (.int .u32 (W s))) :
    Calls Try.prog 36 #[.slice A n c, .func (.func 35) #[] #[.pointer (some p)]] w fun e w' => e = .returned (.bool (xs.any fun x => subB x s)) ∧ w = w' := by
  have H := Lib.hid (firstI_ge (fun x => subB x s) xs)
  go_enter Try.func36, Try.ntmps36
  go_wp2_with fail
  refine (keysIndex_any _ _ _ xs s _ _ hs hn hp).mono ?_
  rintro e w' ⟨rfl, rfl⟩
  go_wp2_with fail
  go_ret
  exact ⟨by rw [← H.out]; rfl, rfl⟩

/-- the keys: words, one by one, whose closing is all, and that have no earlier one within -/
def keysF (n : Nat) (rs : List Ru) (ws : List (BitVec 32)) : List (BitVec 32) :=
  ws.foldl (fun l s => if closeF rs s == 1#32 <<< n - 1#32 && !l.any (fun k => subB k s) then l ++ [s] else l) []
theorem keysF_snoc (n : Nat) (rs : List Ru) (k : Nat) (h : k < (words n).length) : keysF n rs ((words n).take (k + 1)) =
    if closeF rs (words n)[k] == 1#32 <<< n - 1#32 && !(keysF n rs ((words n).take k)).any (fun x => subB x (words n)[k]) then keysF n rs ((words n).take k) ++ [(words n)[k]] else keysF n rs ((words n).take k) :=
  foldl_snoc _ _ _ _ h
theorem keysF_length (n : Nat) (rs : List Ru) : ∀ (ws : List (BitVec 32)) (l : List (BitVec 32)), (ws.foldl (fun l s => if closeF rs s == 1#32 <<< n - 1#32 && !l.any (fun k => subB k s) then l ++ [s] else l) l).length ≤ l.length + ws.length := by
  intro ws
  induction ws with
  | nil => intro l; simp
  | cons a t ih =>
    intro l
    rw [List.foldl_cons]
    refine Nat.le_trans (ih _) ?_
    split <;> simp <;> omega

set_option maxRecDepth 100000 in
set_option maxHeartbeats 800000 in
theorem keys_ok (n : Nat) (A : Option Addr) (len c : Nat) (rs : List Ru) (w : World) (hr : SlR w A len rs) (hc : checkF n rs [] = 0) :
    Calls Try.prog 18 #[.int .i64 n, .slice A len c] w (RetWords w (keysF n rs (words n))) := by
  have hlen : len ≤ 10 := by rw [← hr.2]; exact (checkF_zero hc).2.2.1
  have hn6 : n ≤ 6 := by have := (checkF_zero hc).2.1; omega
  have hp := pow_le n hn6
  have HC := Lib.hid hc
  clear hc
  go_enter Try.func18, Try.ntmps18
  go_wp2_with fail
  refine (check_any _ _ _ _ rs _ _ _ [] _ hr (SlW.nil_ _ _) (by omega)).mono ?_
  rintro e w1 ⟨rfl, hk⟩
  rw [HC.out]
  go_wp2_with fail
  go_loopw [7, 18] (fun l i wr => ∃ k : Nat, k ≤ 2 ^ n ∧ i = .int .u32 (W (BitVec.ofNat 32 k)) ∧ Own w wr 23 1 l (keysF n rs ((words n).take k)).length ((keysF n rs ((words n).take k)).map wv)) (fun _ i _ => 2 ^ n - (intOf i).toNat)
  case atStart => exact ⟨0, Nat.zero_le _, rfl, Own.start hk⟩
  case round =>
    obtain ⟨k, hkn, rfl, hown⟩ := hrel
    by_cases hlt : k < 2 ^ n
    · have hy := word_yes (by omega) hlt
      have hkl : k < (words n).length := by rw [words_length]; exact hlt
      have hle : (keysF n rs ((words n).take k)).length ≤ k := by
        have h1 := keysF_length n rs ((words n).take k) []
        have h2 := List.length_take_le k (words n)
        rw [List.length_nil, Nat.zero_add] at h1
        exact Nat.le_trans h1 h2
      have HS := Lib.hid (keysF_snoc n rs k hkl)
      have HW := Lib.hid (words_at hkl)
      have HO := hown
      clear hown
      obtain ⟨A1, c1, rfl, hsl, _⟩ := HO.form
      go_wp2_with fail
      have hkw : Kept w wr := HO.2
      obtain ⟨B, hB⟩ : ∃ B, wr.heap.size = B := ⟨_, rfl⟩
      have c0 : (wr.alloc (.cells #[.int .u32 (W (BitVec.ofNat 32 k))] 23)).cell? ⟨B, 0, none⟩ = some (.int .u32 (W (BitVec.ofNat 32 k))) := by rw [← hB]; simp
      have hBl : B < (wr.alloc (.cells #[.int .u32 (W (BitVec.ofNat 32 k))] 23)).heap.size := by rw [← hB]; simp
      have hka : Kept wr (wr.alloc (.cells #[.int .u32 (W (BitVec.ofNat 32 k))] 23)) := (Kept.refl _).alloc _
      have HB := Lib.hid hB
      rw [hB]
      clear hB
      generalize wr.alloc (.cells #[.int .u32 (W (BitVec.ofNat 32 k))] 23) = wa at c0 hBl hka
      have kc := kw_cell c0
      cases hfull : closeF rs (BitVec.ofNat 32 k) == 1#32 <<< n - 1#32
      · have HF := Lib.hid hfull
        refine wp_region_kept (by kernel_rfl) (by kernel_rfl) ?_
        repeat (go_big_quiet_step ((go_at_call 33; exact kept_of (closed_any _ _ _ rs _ _ (hr.kept ((hkw.trans hka).trans (KW.kept _))) (by omega)))))
        refine wpQuiet_nil ?_
        intro w3 k3
        have c3 := (keep1 k3 hBl c0).1
        clear kc c0 hBl
        go_wp2_with fail
        go_roundw
        case rel => exact ⟨k + 1, by omega, by rw [word_succ], by rw [HS.out, HW.out, HF.out]; simpa using HO.kept (hka.trans k3)⟩
        case measure => simp only [intOf]; rw [word_succ]; exact word_meas (by omega) hlt
      · have HF := Lib.hid hfull
        refine wp_region_kept (by kernel_rfl) (by kernel_rfl) ?_
        repeat (go_big_quiet_step (first | (go_at_call 33; exact kept_of (closed_any _ _ _ rs _ _ (hr.kept ((hkw.trans hka).trans (KW.kept _))) (by omega))) | (go_at_call 36; exact kept_of_same (keysContains_any _ _ _ _ (BitVec.ofNat 32 k) _ _ ⟨hsl.kept (hka.trans (KW.kept _)), rfl⟩ (by omega) (kc _)))))
        refine wpQuiet_nil ?_
        intro w3 k3
        have c3 := (keep1 k3 hBl c0).1
        clear kc c0 hBl
        generalize hany : ((keysF n rs ((words n).take k)).any fun x => subB x (BitVec.ofNat 32 k)) = bb
        have HA := Lib.hid hany
        clear hany
        cases bb <;> simp only [Bool.not_true, Bool.not_false]
        · clear hfull
          go_wp2_with (at_builtin; refine wpList_push rfl _ _ 36 rfl 23 Try.underlying36 info_u32 rfl (by decide) (by decide) _ _ _ _ (HO.kept (hka.trans k3)) #[.int .u32 (W (BitVec.ofNat 32 k))] _ _ 1 1 rfl rfl rfl rfl (one_u32 _) (by omega) ?_; intro v' w4 hown4 _)
          go_roundw
          case rel => exact ⟨k + 1, by omega, by rw [word_succ], by rw [HS.out, HW.out, HF.out, HA.out]; simpa [wv] using hown4⟩
          case measure => simp only [intOf]; rw [word_succ]; exact word_meas (by omega) hlt
        · clear hfull
          go_wp2_with fail
          go_roundw
          case rel => exact ⟨k + 1, by omega, by rw [word_succ], by rw [HS.out, HW.out, HF.out, HA.out]; simpa using HO.kept (hka.trans k3)⟩
          case measure => simp only [intOf]; rw [word_succ]; exact word_meas (by omega) hlt
    · have hkk : k = 2 ^ n := by omega
      have hy := word_no (by omega) hkk
      have HK := Lib.hid (take_all (words n) k (by rw [words_length]; omega))
      clear hkk
      go_wp2_with fail
      go_ret2
      rw [HK.out] at hown
      exact RetWords.mk hown
theorem keys_no (n : Int) (A : Option Addr) (len c : Nat) (rs : List Ru) (w : World) (hr : SlR w A len rs) (hc : (checkF n rs [] != 0) = true) :
    Calls Try.prog 18 #[.int .i64 n, .slice A len c] w fun e w' => e = .returned (.tuple #[.slice none 0 0, .int .i64 (checkF n rs [])]) ∧ Kept w w' := by
  go_enter Try.func18, Try.ntmps18
  go_wp2_with fail
  refine (check_any _ _ _ _ rs _ _ _ [] _ hr (SlW.nil_ _ _) (by omega)).mono ?_
  rintro e w1 ⟨rfl, hk⟩
  go_wp2_with fail
  go_ret2
  exact ⟨rfl, hk⟩
end Go.Proofs.Ytmdlfngdmlhpmaa
