/- The walk of page.Tops: the depths of a page's nodes. -/
import Derived.Test.YtjcooagchjjknaaPage3
namespace Go.Proofs.Ytjcooagchjjknaa
open Go Go.RowKit
set_option linter.unusedVariables false

def topTo (ls : List Lf) : Nat → List Int
  | 0 => []
  | k + 1 => topTo ls k ++ [if (lfAt ls k).1 < 0 then 0 else (topTo ls k).getD (lfAt ls k).1.toNat 0 + 1]
theorem topTo_len (ls : List Lf) (k : Nat) : (topTo ls k).length = k := by
  induction k with
  | zero => rfl
  | succ k ih => show (topTo ls k ++ [_]).length = _; simp [ih]
def topD (ls : List Lf) (i : Nat) : Int := (topTo ls (i + 1)).getD i 0
theorem topTo_at (ls : List Lf) {i : Nat} : ∀ {k : Nat}, i < k → (topTo ls k)[i]? = some (topD ls i)
  | 0, h => absurd h (by omega)
  | k + 1, h => by
    by_cases hk : i = k
    · subst hk
      unfold topD
      have : i < (topTo ls (i + 1)).length := by rw [topTo_len]; omega
      rw [List.getD_eq_getElem?_getD, List.getElem?_eq_getElem this]; rfl
    · have := topTo_at ls (show i < k by omega)
      show (topTo ls k ++ [_])[i]? = _
      rw [List.getElem?_append_left (by rw [topTo_len]; omega)]
      exact this
theorem topD_top {ls : List Lf} {k : Nat} (h : (lfAt ls k).1 < 0) : topD ls k = 0 := by
  unfold topD
  show (topTo ls k ++ [_]).getD k 0 = 0
  rw [List.getD_eq_getElem?_getD, List.getElem?_append_right (by rw [topTo_len]; omega), topTo_len, if_pos h]; simp
theorem topD_step {ls : List Lf} {k u : Nat} (h : (lfAt ls k).1 = u) (hu : u < k) : topD ls k = topD ls u + 1 := by
  unfold topD
  show (topTo ls k ++ [_]).getD k 0 = _
  rw [List.getD_eq_getElem?_getD, List.getElem?_append_right (by rw [topTo_len]; omega), topTo_len, if_neg (by omega), h]
  simp only [Nat.sub_self, List.getElem?_cons_zero, Option.getD_some, Int.toNat_natCast]
  rw [List.getD_eq_getElem?_getD, topTo_at ls hu]
  rfl
theorem topTo_succ {ls : List Lf} {k : Nat} : topTo ls (k + 1) = topTo ls k ++ [topD ls k] := by
  have h : (topTo ls (k + 1))[k]? = some (topD ls k) := topTo_at ls (by omega)
  have e : topTo ls (k + 1) = topTo ls k ++ [if (lfAt ls k).1 < 0 then 0 else (topTo ls k).getD (lfAt ls k).1.toNat 0 + 1] := rfl
  rw [e] at h ⊢
  rw [List.getElem?_append_right (by rw [topTo_len]; omega), topTo_len] at h
  simp only [Nat.sub_self, List.getElem?_cons_zero, Option.some.injEq] at h
  rw [h]
theorem topD_le {ls : List Lf} (h : PageOk ls) : ∀ (k : Nat), k < ls.length → 0 ≤ topD ls k ∧ topD ls k ≤ k := by
  intro k
  induction k using Nat.strongRecOn with
  | _ k ih =>
    intro hk
    by_cases h0 : (lfAt ls k).1 < 0
    · rw [topD_top h0]; omega
    · have h1 := (h.2 k hk).2.1
      obtain ⟨u, hu⟩ := Int.eq_ofNat_of_zero_le (show 0 ≤ (lfAt ls k).1 by omega)
      have huk : u < k := by omega
      have := ih u huk (by omega)
      rw [topD_step hu huk]
      omega
theorem topsX_no (A : Option Addr) (n c : Nat) (ls : List Lf) (w : World) (hs : SlL w A n ls) (hn : n ≤ maxLen) (hc : pageF ls ≠ 0) :
    Calls Try.prog 18 #[.slice A n c] w fun e w' => e = .returned (.tuple #[.slice none 0 0, .int .i64 (pageF ls)]) ∧ Kept w w' := by
  have hne : (pageF ls != 0) = true := by simpa using hc
  clear hc
  go_enter Try.func18, Try.ntmps18
  go_wp2_with fail
  refine (pageCheck_any _ _ _ ls _ hs hn).mono ?_
  rintro e w1 ⟨rfl, k1⟩
  go_wp2_with fail
  go_ret2
  exact ⟨rfl, k1⟩
def RetI (w : World) (xs : List Int) (e : Ending) (w' : World) : Prop := ∃ A c, e = .returned (.tuple #[.slice A xs.length c, .int .i64 0]) ∧ SlI w' A xs.length xs ∧ Kept w w'
set_option maxHeartbeats 4000000 in
theorem topsX_ok (A : Option Addr) (n c : Nat) (ls : List Lf) (w : World) (hs : SlL w A n ls) (hp : pageF ls = 0) :
    Calls Try.prog 18 #[.slice A n c] w (RetI w (topTo ls n)) := by
  have hok := pageF_zero.1 hp
  have hn40 : n ≤ 40 := by rw [← hs.2]; exact hok.1
  have HP := Lib.hid hp
  have HLN := Lib.hid hs.2
  have HPG := Lib.hid (show ∀ i, i < n → (-1 ≤ (lfAt ls i).1 ∧ (lfAt ls i).1 < i) ∧ (0 ≤ topD ls i ∧ topD ls i ≤ i) from fun i hi => ⟨(hok.2 i (by rw [hs.2]; exact hi)).2.1, topD_le hok i (by rw [hs.2]; exact hi)⟩)
  clear hp hok
  go_enter Try.func18, Try.ntmps18
  go_wp2_with fail
  refine (pageCheck_any _ _ _ ls _ hs (by unfold maxLen; omega)).mono ?_
  rintro e w1 ⟨rfl, k1⟩
  rw [HP.out]
  go_wp2_with fail
  go_loopw [5, 16] (fun v t wr => ∃ k : Nat, k ≤ n ∧ t = .int .i64 k ∧ Own w1 wr 3 1 v (topTo ls k).length ((topTo ls k).map iv)) (fun _ t _ => n - (intOf t).toNat)
  case atStart => exact ⟨0, Nat.zero_le _, rfl, Own.start (Kept.refl _)⟩
  case round =>
    obtain ⟨k, hk, rfl, hown⟩ := hrel
    by_cases hlt : k < n
    · obtain ⟨b, off, rfl, hb, c0, c1, c2, c3⟩ := (hs.kept (k1.trans hown.kept0)).getN k hlt
      have HPK := Lib.hid (HPG.out k hlt)
      have HST := Lib.hid (show ∀ u : Nat, (lfAt ls k).1 = u → u < k → topD ls k = topD ls u + 1 from fun u => topD_step)
      have HTP := Lib.hid (show (lfAt ls k).1 < 0 → topD ls k = 0 from topD_top)
      have HS := Lib.hid (show topTo ls (k + 1) = topTo ls k ++ [topD ls k] from topTo_succ)
      have HTL := Lib.hid (topTo_len ls k)
      generalize lfAt ls k = x at c0 c1 c2 c3 HPK HST HTP
      obtain ⟨up, tx, lx, px⟩ := x
      simp only at c0 c1 c2 c3 HPK HST HTP
      obtain ⟨X, hX⟩ : ∃ X, wr.heap.size = X := ⟨_, rfl⟩
      have bx := Box.new wr #[.int .i64 up, .int .i64 tx, .int .i64 lx, .int .u32 (W px)] 38 X hX
      have hka : Kept wr (wr.alloc (.cells #[.int .i64 up, .int .i64 tx, .int .i64 lx, .int .u32 (W px)] 38)) := (Kept.refl _).alloc _
      obtain ⟨A9, c9, rfl, hsl, _⟩ := hown.form
      have ho2 := hown.kept hka
      have g0 := bx.at_ 0 rfl
      have HX := Lib.hid hX
      have hi1 : (0 : Int) ≤ (k : Int) := by omega
      have hi2 : (k : Int) < (n : Int) := by omega
      by_cases h0 : 0 ≤ up
      · obtain ⟨u, rfl⟩ := Int.eq_ofNat_of_zero_le h0
        have hpk := HPK.out
        have huk : u < k := by have := hpk.1.2; omega
        have hD := HST.out u rfl huk
        have hD2 := (HPG.out u (by omega)).2
        obtain ⟨b9, o9, rfl, cU⟩ : ∃ b9 o9, A9 = some ⟨b9, o9, none⟩ ∧ (wr.alloc (.cells #[.int .i64 ((u : Nat) : Int), .int .i64 tx, .int .i64 lx, .int .u32 (W px)] 38)).cell? ⟨b9, o9 + u, none⟩ = some (.int .i64 (topD ls u)) := by
          have h : SlI wr A9 (topTo ls k).length (topTo ls k) := ⟨hsl, rfl⟩
          obtain ⟨b9, o9, hb9, e9, _, h9⟩ := (h.kept hka).get u (by rw [topTo_len]; exact huk)
          refine ⟨b9, o9, e9, ?_⟩
          have e : (topTo ls k)[u] = topD ls u := Option.some.inj ((List.getElem?_eq_getElem hb9).symm.trans (topTo_at ls huk))
          rw [h9, e]
        generalize topD ls u = y at cU hD hD2
        have HD := Lib.hid hD
        have hi3 : (0 : Int) ≤ (u : Int) := by omega
        have hLen : (topTo ls k).length = k := HTL.out
        generalize (topTo ls k).length = len at hown ho2 hsl hLen ⊢
        subst hLen
        have hi4 : (u : Int) < (len : Int) := by omega
        have hy : y < 100 := by omega
        have hy0 : 0 ≤ y := hD2.1
        clear hpk hD hD2
        go_wp2_with (at_builtin; refine wpList_push rfl _ _ 34 rfl 3 Try.underlying34 info_i64 rfl (by decide) (by decide) _ _ _ _ ho2 #[.int .i64 (y + 1)] _ _ 1 1 rfl rfl (by simp; exact HX.out) rfl (one_i64 _) (by omega) ?_; intro v' w7 hown7 _)
        go_roundw
        case rel => exact ⟨len + 1, by omega, by go_num, by rw [HS.out, HD.out, List.length_append, HTL.out]; simpa [iv] using hown7⟩
        case measure => simp [intOf]; omega
      · have d0 : decide (0 ≤ up) = false := by simpa using h0
        have HD := Lib.hid (HTP.out (by omega))
        have hLen : (topTo ls k).length = k := HTL.out
        generalize (topTo ls k).length = len at hown ho2 hsl hLen ⊢
        subst hLen
        clear h0
        go_wp2_with (at_builtin; refine wpList_push rfl _ _ 34 rfl 3 Try.underlying34 info_i64 rfl (by decide) (by decide) _ _ _ _ ho2 #[.int .i64 0] _ _ 1 1 rfl rfl (by simp; exact HX.out) rfl (one_i64 _) (by omega) ?_; intro v' w7 hown7 _)
        go_roundw
        case rel => exact ⟨len + 1, by omega, by go_num, by rw [HS.out, HD.out, List.length_append, HTL.out]; simpa [iv] using hown7⟩
        case measure => simp [intOf]; omega
    · obtain rfl : k = n := by omega
      obtain ⟨A2, c2, rfl, hsl, _⟩ := hown.form
      have FIN := Lib.hid (show RetI w (topTo ls k) (.returned (.tuple #[.slice A2 (topTo ls k).length c2, .int .i64 0])) wr from ⟨A2, c2, rfl, ⟨hsl, rfl⟩, k1.trans hown.kept0⟩)
      go_wp2_with fail
      go_ret2
      exact FIN.out
end Go.Proofs.Ytjcooagchjjknaa
