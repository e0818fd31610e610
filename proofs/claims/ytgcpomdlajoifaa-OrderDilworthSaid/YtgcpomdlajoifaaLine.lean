/- The walk of order.Line. -/
import Derived.Test.YtgcpomdlajoifaaTable2
import Derived.Test.YtgcpomdlajoifaaLineP2
namespace Go.Proofs.Ytgcpomdlajoifaa
open Go Go.RowKit
set_option linter.unusedVariables false

theorem upL_at {n i j : Nat} (ps : List Pr) (hn : n ≤ 32) (hi : i < n) (hj : j < n) : (nth (upL n ps) i).getLsbD j = under ps i j := by
  rw [upL_bit ps hn hi]
  simp [hj]
/-- what Line hands back -/
def RetLine (w : World) (n : Int) (ps : List Pr) (e : Ending) (w' : World) : Prop :=
  Kept w w' ∧ ((ordF n ps = 0 ∧ ∃ A c l, e = .returned (.tuple #[.slice A n.toNat c, .int .i64 0]) ∧ SlI w' A n.toNat l ∧ IsLine n.toNat ps l) ∨
    ((ordF n ps != 0) = true ∧ e = .returned (.tuple #[.slice none 0 0, .int .i64 (ordF n ps)])))
theorem LInv.some {n : Nat} {ps : List Pr} (hanti : ∀ i j : Nat, (i : Int) < (n : Int) → (j : Int) < (n : Int) → under ps i j = true → under ps j i = true → i = j) {l : List Int} {left : BitVec 32} (h : LInv n ps l left) (hne : (left != 0#32) = true)
    (hno : ∀ i, i < n → freeTo ps left i n = false) : False := by
  have : ∃ i, left.getLsbD i = true := by
    refine Classical.byContradiction fun hc => ?_
    rw [bne_iff_ne] at hne
    apply hne
    apply BitVec.eq_of_getLsbD_eq
    intro i _
    cases hb : left.getLsbD i
    · simp
    · exact absurd ⟨i, hb⟩ hc
  obtain ⟨i, hi⟩ := this
  obtain ⟨m, hm, hf⟩ := free_some hanti left _ i (fitB_iff.1 h.1 i hi) hi (Nat.le_refl _)
  rw [hno m hm] at hf
  cases hf
theorem clear_lt {left : BitVec 32} {i : Nat} (hi : i < 32) (h : left.getLsbD i = true) : (W (left &&& ~~~(1#32 <<< i))).toNat < (W left).toNat := by
  have h1 : (left &&& ~~~(1#32 <<< i)).toNat < left.toNat := by
    refine subB_lt (subB_iff.2 fun j hj => ?_) fun e => ?_
    · rw [BitVec.getLsbD_and, Bool.and_eq_true] at hj
      exact hj.1
    · rw [← e, BitVec.getLsbD_and, BitVec.getLsbD_not, getLsbD_bit] at h
      simp [hi] at h
  unfold W
  rw [Int.toNat_natCast, Int.toNat_natCast]
  exact h1

set_option maxHeartbeats 2000000 in
theorem line_any (n : Int) (A : Option Addr) (len c : Nat) (ps : List Pr) (w : World) (hp : SlP w A len ps) :
    Calls Try.prog 19 #[.int .i64 n, .slice A len c] w (RetLine w n ps) := by
  by_cases hc : ordF n ps = 0
  · obtain ⟨⟨hn1, hn6, hlen⟩, hrng, hanti⟩ := ordF_zero hc
    obtain ⟨nn, rfl⟩ := Int.eq_ofNat_of_zero_le (show 0 ≤ n by omega)
    have hn32 : nn ≤ 32 := by omega
    have HC := Lib.hid hc
    have HA := Lib.hid hanti
    clear hc hrng hanti hlen
    go_enter Try.func19, Try.ntmps19
    go_wp2_with fail
    refine (table_any nn _ _ _ ps _ hp).mono ?_
    rintro e w1 ⟨k1, ⟨_, A1, c1, rfl, hup⟩ | ⟨hne, _⟩⟩
    case inr => rw [HC.out] at hne; cases hne
    rw [Int.toNat_natCast] at hup
    obtain ⟨b1, o1, rfl, hb1, hcell⟩ := hup.open_ (by omega)
    have HCELL := Lib.hid hcell
    clear hup hcell
    go_wp2_with fail
    go_loopw [8, 9] (fun lv v wr => ∃ (left : BitVec 32) (l : List Int), lv = .int .u32 (W left) ∧ Own w1 wr 3 1 v l.length (l.map iv) ∧ Hid (LInv nn ps l left)) (fun lv _ _ => (intOf lv).toNat)
    case atStart => exact ⟨_, [], rfl, Own.start (Kept.refl _), Lib.hid (LInv.start nn (by omega) ps)⟩
    case round =>
      obtain ⟨left, l, rfl, hown, hinv⟩ := hrel
      cases hz : left != 0#32
      · have HZ := Lib.hid (show left = 0#32 by simpa using hz)
        have hdone := (show LInv nn ps l 0#32 by have h := hinv.out; rw [HZ.out] at h; exact h)
        have hll := hdone.done
        obtain ⟨A2, c2, rfl, hsl, _⟩ := hown.form
        have hkept := k1.trans hown.2
        have fin : RetLine w nn ps (.returned (.tuple #[.slice A2 l.length c2, .int .i64 0])) wr := ⟨hkept, .inl ⟨HC.out, A2, c2, l, by rw [hll, Int.toNat_natCast], by rw [Int.toNat_natCast, ← hll]; exact ⟨hsl, rfl⟩, hdone.2.2.1⟩⟩
        have FIN := Lib.hid fin
        clear fin hdone hll
        go_wp2_with fail
        go_ret2
        exact FIN.out
      · have HZ := Lib.hid hz
        go_wp2_with fail
        go_loopw [8, 9, 29] (fun lv v t wr' => ∃ i : Nat, i ≤ nn ∧ t = .int .i64 i ∧ lv = .int .u32 (W left) ∧ Own w1 wr' 3 1 v l.length (l.map iv) ∧ Hid (∀ x, x < i → freeTo ps left x nn = false)) (fun _ _ t _ => nn - (intOf t).toNat)
        case atStart => exact ⟨0, Nat.zero_le _, rfl, rfl, hown, Lib.hid (fun x hx => absurd hx (Nat.not_lt_zero x))⟩
        case round =>
          obtain ⟨i, hi, rfl, rfl, hown2, hno⟩ := hrel
          by_cases hlt : i < nn
          · have hi1 : (0 : Int) ≤ (i : Int) := by omega
            have hi2 : (i : Int) < (nn : Int) := by omega
            go_wp2_with fail
            go_loopw [11, 39] (fun f t wr'' => ∃ j : Nat, j ≤ nn ∧ t = .int .i64 j ∧ f = .bool (freeTo ps left i j) ∧ wr = wr'') (fun _ t _ => nn - (intOf t).toNat)
            case atStart => exact ⟨0, Nat.zero_le _, rfl, by unfold freeTo; simp, rfl⟩
            case round =>
              obtain ⟨j, hj, rfl, rfl, rfl⟩ := hrel
              by_cases hlt2 : j < nn
              · have cj := (hown2.2.cell (p := ⟨b1, o1 + j, none⟩) hb1).trans (HCELL.out j hlt2)
                have hbj := upL_at ps hn32 hlt2 hlt
                have hs := Lib.hid (freeTo_succ ps left i j)
                have hle := Lib.hid (show lets ps left i j = (j == i || !left.getLsbD j || !under ps j i) from rfl)
                have hj1 : (0 : Int) ≤ (j : Int) := by omega
                have hj2 : (j : Int) < (nn : Int) := by omega
                generalize nth (upL nn ps) j = y at cj hbj
                cases hf : freeTo ps left i j
                · have HF := Lib.hid hf
                  go_wp2_with fail
                  go_roundw
                  case rel => exact ⟨j + 1, by omega, by go_num, by rw [hs.out, HF.out]; rfl, trivial⟩
                  case measure => simp [intOf]; omega
                · have HF := Lib.hid hf
                  by_cases hji : j = i
                  · have hje : ((j : Int) == (i : Int)) = true := by simp [hji]
                    have HL := Lib.hid (show lets ps left i j = true by rw [hle.out, hji]; simp)
                    clear hji
                    go_wp2_with fail
                    go_roundw
                    case rel => exact ⟨j + 1, by omega, by go_num, by rw [hs.out, HF.out, HL.out]; rfl, trivial⟩
                    case measure => simp [intOf]; omega
                  · have hje : ((j : Int) == (i : Int)) = false := by simp; omega
                    have hjn : (j == i) = false := by simpa using hji
                    rw [hjn] at hle
                    clear hji
                    cases hb : left.getLsbD j
                    · have HL := Lib.hid (show lets ps left i j = true by rw [hle.out, hb]; rfl)
                      go_wp2_with fail
                      go_roundw
                      case rel => exact ⟨j + 1, by omega, by go_num, by rw [hs.out, HF.out, HL.out]; rfl, trivial⟩
                      case measure => simp [intOf]; omega
                    · cases hu : under ps j i
                      · have HL := Lib.hid (show lets ps left i j = true by rw [hle.out, hb, hu]; rfl)
                        rw [hu] at hbj
                        go_wp2_with fail
                        go_roundw
                        case rel => exact ⟨j + 1, by omega, by go_num, by rw [hs.out, HF.out, HL.out]; rfl, trivial⟩
                        case measure => simp [intOf]; omega
                      · have HL := Lib.hid (show lets ps left i j = false by rw [hle.out, hb, hu]; rfl)
                        rw [hu] at hbj
                        go_wp2_with fail
                        go_roundw
                        case rel => exact ⟨j + 1, by omega, by go_num, by rw [hs.out, HF.out, HL.out]; rfl, trivial⟩
                        case measure => simp [intOf]; omega
              · have HJ := Lib.hid (show j = nn by omega)
                cases hf : freeTo ps left i j
                · have HF := Lib.hid hf
                  go_wp2_with fail
                  go_roundw
                  case rel => exact ⟨i + 1, by omega, by go_num, rfl, hown2, Lib.hid (fun x hx => by
                    by_cases e : x = i
                    · subst e
                      rw [← HJ.out]
                      exact HF.out
                    · exact hno.out x (by omega))⟩
                  case measure => simp [intOf]; omega
                · have HF := Lib.hid (show freeTo ps left i nn = true by rw [← HJ.out]; exact hf)
                  have HADD := Lib.hid (hinv.out.add hlt (by omega) HF.out)
                  have HLT := Lib.hid (clear_lt (left := left) (i := i) (by omega) (freeTo_iff.1 HF.out).1)
                  have hlen2 : l.length ≤ 32 := Nat.le_trans (nodup_len l ((List.range nn).map fun x : Nat => (x : Int)) hinv.out.2.2.1.2.1 (fun x hx => by
                    obtain ⟨a, b⟩ := hinv.out.2.2.1.1 x hx
                    obtain ⟨y, rfl⟩ := Int.eq_ofNat_of_zero_le a
                    exact List.mem_map.2 ⟨y, List.mem_range.2 (by omega), rfl⟩)) (by simpa using hn32)
                  go_wp2_with (at_builtin; refine wpList_push rfl _ _ 32 rfl 3 Try.underlying32 info_i64 rfl (by decide) (by decide) _ _ _ _ hown2 #[.int .i64 i] _ _ 1 1 rfl rfl rfl rfl (one_i64 _) (by omega) ?_; intro v' w7 hown7 _)
                  go_roundw
                  case rel => exact ⟨_, l ++ [(i : Int)], rfl, by simpa [iv] using hown7, HADD⟩
                  case measure => exact HLT.out
          · exact (hinv.out.some HA.out HZ.out (fun x hx => hno.out x (by omega))).elim
  · have hne : (ordF n ps != 0) = true := by simpa using hc
    go_enter Try.func19, Try.ntmps19
    go_wp2_with fail
    refine (table_any n _ _ _ ps _ hp).mono ?_
    rintro e w1 ⟨k1, ⟨h0, _⟩ | ⟨_, rfl⟩⟩
    · exact absurd h0 hc
    have FIN := Lib.hid (show RetLine w n ps (.returned (.tuple #[.slice none 0 0, .int .i64 (ordF n ps)])) w1 from ⟨k1, .inr ⟨hne, rfl⟩⟩)
    clear hc
    go_wp2_with fail
    go_ret2
    exact FIN.out
end Go.Proofs.Ytgcpomdlajoifaa
