/- OrderTable: the walk of the statement. -/
import Derived.Test.YtgcpomdlajoifaaTable2
namespace Go.Proofs.Ytgcpomdlajoifaa
open Go Go.RowKit
/-- who is under another one has all above that above it -/
theorem upL_sub {n i j : Nat} (ps : List Pr) (hn : n ≤ 32) (hi : i < n) (hj : j < n) (h : under ps i j = true) : subB (nth (upL n ps) j) (nth (upL n ps) i) = true := by
  refine subB_iff.2 fun k hk => ?_
  rw [upL_bit ps hn hj, Bool.and_eq_true] at hk
  rw [upL_bit ps hn hi, hk.1, Bool.true_and]
  exact under_iff.2 ((under_iff.1 h).trans (under_iff.1 hk.2))
theorem under_refl (ps : List Pr) (a : Int) : under ps a a = true := under_iff.2 (Reach.refl a)
theorem upL_at {n i j : Nat} (ps : List Pr) (hn : n ≤ 32) (hi : i < n) (hj : j < n) : (nth (upL n ps) i).getLsbD j = under ps i j := by
  rw [upL_bit ps hn hi]
  simp [hj]
theorem bit_is (x : BitVec 32) (i : Nat) (hi : i < 32) (b : Bool) (hb : x.getLsbD i = b) (w : World) : Calls Try.prog 17 #[.int .u32 (W x), .int .i64 i] w fun e w' => e = .returned (.bool b) ∧ w = w' := by
  rw [← hb]
  exact bit_any x i hi w
theorem in_is (x y : BitVec 32) (b : Bool) (hb : subB x y = b) (w : World) : Calls Try.prog 18 #[.int .u32 (W x), .int .u32 (W y)] w fun e w' => e = .returned (.bool b) ∧ w = w' := by
  rw [← hb]
  exact in_any x y w
end Go.Proofs.Ytgcpomdlajoifaa
namespace Go.Proofs.Ytgcpomdlajoifaa.orderTableDone
open Go Go.RowKit
set_option linter.unusedVariables false

set_option maxRecDepth 100000 in
set_option maxHeartbeats 4000000 in
theorem yes (n : Nat) (A : Option Addr) (len cp : Nat) (ps : List Pr) (w : World) (hl : len ≤ maxLen) (hf : SlP w A len ps) (hc : ordF n ps = 0) :
    Calls Try.prog 3 #[.int .i64 n, .slice A len cp] w fun e w' => e = .returned (.bool true) ∧ Kept w w' := by
  obtain ⟨⟨hn1, hn6, hlen⟩, hrng, hanti⟩ := ordF_zero hc
  have hn32 : n ≤ 32 := by omega
  have hnlt : n < 32 := by omega
  have HC := Lib.hid hc
  have HR := Lib.hid hrng
  have HA := Lib.hid hanti
  have hlen20 : len ≤ 20 := by rw [← hf.2]; exact hlen
  clear hc hrng hanti hlen
  go_enter Try.func3, Try.ntmps3
  go_wp2_with fail
  refine (table_any n _ _ _ ps _ hf).mono ?_
  rintro e w1 ⟨k1, ⟨_, A1, c1, rfl, hup⟩ | ⟨hne, _⟩⟩
  case inr => rw [HC.out] at hne; cases hne
  rw [Int.toNat_natCast] at hup
  go_wp2_with fail
  refine (ordered_any n _ _ _ ps _ (hf.kept k1)).mono ?_
  rintro e w2 ⟨rfl, k2⟩
  rw [HC.out]
  have q2 := k1.trans k2
  have hup2 := hup.kept k2
  obtain ⟨b1, o1, rfl, hb1, hcell⟩ := hup2.open_ (by omega)
  have HCELL := Lib.hid hcell
  clear hup hcell k1 k2
  have hneq : ((n : Int) != (n : Int)) = false := by simp
  go_wp2_with fail
  go_loopw [7] (fun t wr => ∃ i : Nat, i ≤ n ∧ t = .int .i64 i ∧ Kept w2 wr) (fun t _ => n - (intOf t).toNat)
  case atStart => exact ⟨0, Nat.zero_le _, rfl, Kept.refl _⟩
  case round =>
    obtain ⟨i, hi, rfl, hk1⟩ := hrel
    by_cases hlt : i < n
    · have ci := (hk1.cell (p := ⟨b1, o1 + i, none⟩) hb1).trans (HCELL.out i hlt)
      have HII := Lib.hid ((upL_at ps hn32 hlt hlt).trans (under_refl ps i))
      have hi1 : (0 : Int) ≤ (i : Int) := by omega
      have hi2 : (i : Int) < (n : Int) := by omega
      go_wp2_with fail
      refine (bit_any _ i (by omega) _).mono ?_
      rintro e w3 ⟨rfl, rfl⟩
      rw [HII.out]
      go_wp2_with fail
      go_loopw [8] (fun t wr' => ∃ j : Nat, j ≤ n ∧ t = .int .i64 j ∧ Kept w2 wr') (fun t _ => n - (intOf t).toNat)
      case atStart => exact ⟨0, Nat.zero_le _, rfl, hk1⟩
      case round =>
        obtain ⟨j, hj, rfl, hk2⟩ := hrel
        by_cases hlt2 : j < n
        · have ci := (hk2.cell (p := ⟨b1, o1 + i, none⟩) hb1).trans (HCELL.out i hlt)
          have cj := (hk2.cell (p := ⟨b1, o1 + j, none⟩) hb1).trans (HCELL.out j hlt2)
          have qi := kw_cell ci
          have qj := kw_cell cj
          have hbij := upL_at ps hn32 hlt hlt2
          have hbji := upL_at ps hn32 hlt2 hlt
          have hsub := upL_sub ps hn32 hlt hlt2
          have hj1 : (0 : Int) ≤ (j : Int) := by omega
          have hj2 : (j : Int) < (n : Int) := by omega
          have hanti := HA.out i j hi2 hj2
          generalize nth (upL n ps) i = x at ci qi hbij hbji hsub
          generalize nth (upL n ps) j = y at cj qj hbji hsub hbij
          cases hu : under ps i j
          · rw [hu] at hbij
            clear hsub hanti hbji hu
            go_wp2_with fail
            refine wp_region_kept (by kernel_rfl) (by kernel_rfl) ?_
            repeat (go_big_quiet_step ((go_at_call 17; exact kept_of_same (bit_is x j (by omega) false hbij _))))
            refine wpQuiet_nil ?_
            intro w4 k4
            go_wp2_with fail
            go_roundw
            case rel => exact ⟨j + 1, by omega, by go_num, hk2.trans k4⟩
            case measure => simp [intOf]; omega
          · rw [hu] at hbij
            have hsub := hsub hu
            by_cases hij : i = j
            · have hneq : ((i : Int) != (j : Int)) = false := by simp [hij]
              clear hanti hbji hu hij
              go_wp2_with fail
              refine wp_region_kept (by kernel_rfl) (by kernel_rfl) ?_
              repeat (go_big_quiet_step (first | (go_at_call 17; exact kept_of_same (bit_is x j (by omega) true hbij _)) | (go_at_call 18; exact kept_of_same (in_is y x true hsub _))))
              refine wpQuiet_nil ?_
              intro w4 k4
              go_wp2_with fail
              go_roundw
              case rel => exact ⟨j + 1, by omega, by go_num, hk2.trans k4⟩
              case measure => simp [intOf]; omega
            · have hneq : ((i : Int) != (j : Int)) = true := by simp; omega
              have hu2 : under ps j i = false := by
                cases h : under ps j i
                · rfl
                · exact absurd (hanti hu h) hij
              rw [hu2] at hbji
              clear hanti hu hu2 hij
              go_wp2_with fail
              refine wp_region_kept (by kernel_rfl) (by kernel_rfl) ?_
              repeat (go_big_quiet_step (first | (go_at_call 17; exact kept_of_same (bit_is _ _ (by omega) _ (by first | exact hbij | exact hbji) _)) | (go_at_call 18; exact kept_of_same (in_is y x true hsub _))))
              refine wpQuiet_nil ?_
              intro w4 k4
              go_wp2_with fail
              go_roundw
              case rel => exact ⟨j + 1, by omega, by go_num, hk2.trans k4⟩
              case measure => simp [intOf]; omega
        · go_wp2_with fail
          go_roundw
          case rel => exact ⟨i + 1, by omega, by go_num, hk2⟩
          case measure => simp [intOf]; omega
    · go_wp2_with fail
      go_loopw [81] (fun t wr' => ∃ k : Nat, k ≤ len ∧ t = .int .i64 k ∧ Kept w2 wr') (fun t _ => len - (intOf t).toNat)
      case atStart => exact ⟨0, Nat.zero_le _, rfl, hk1⟩
      case round =>
        obtain ⟨k, hk, rfl, hk2⟩ := hrel
        by_cases hlt2 : k < len
        · obtain ⟨bp, op, hkr, rfl, hbp, ca, cb⟩ := (hf.kept (q2.trans hk2)).get k hlt2
          have hmem := List.getElem_mem hkr
          obtain ⟨hr1, hr2⟩ := HR.out _ hmem
          have hu := under_iff.2 (Reach.pair hmem)
          generalize ps[k] = p at ca cb hr1 hr2 hu
          obtain ⟨p1, p2⟩ := p
          obtain ⟨a, rfl⟩ := Int.eq_ofNat_of_zero_le hr1.1
          obtain ⟨d, rfl⟩ := Int.eq_ofNat_of_zero_le hr2.1
          have han : a < n := by have := hr1.2; simp at this; omega
          have hdn : d < n := by have := hr2.2; simp at this; omega
          have hbit : (nth (upL n ps) a).getLsbD d = true := (upL_at ps hn32 han hdn).trans hu
          have ci := (hk2.cell (p := ⟨b1, o1 + a, none⟩) hb1).trans (HCELL.out a han)
          generalize nth (upL n ps) a = x at ci hbit
          have hka : Kept wr (wr.alloc (.cells #[.int .i64 a, .int .i64 d] 31)) := (Kept.refl _).alloc _
          have bx := Box.new wr #[.int .i64 a, .int .i64 d] 31 wr.heap.size rfl
          have q0 := kw_cell (bx.at_ 0 rfl)
          have q1 := kw_cell (bx.at_ 1 rfl)
          have qc := kw_cell ((hka.cell (p := ⟨b1, o1 + a, none⟩) (Nat.lt_of_lt_of_le hb1 hk2.size)).trans ci)
          have hi1 : (0 : Int) ≤ (a : Int) := by omega
          have hi2 : (a : Int) < (n : Int) := by omega
          clear hu hmem hr1 hr2
          go_wp2_with fail
          refine wp_region_kept (by kernel_rfl) (by kernel_rfl) ?_
          repeat (go_big_quiet_step ((go_at_call 17; exact kept_of_same (bit_is x d (by omega) true hbit _))))
          refine wpQuiet_nil ?_
          intro w4 k4
          go_wp2_with fail
          go_roundw
          case rel => exact ⟨k + 1, by omega, by go_num, hk2.trans (hka.trans k4)⟩
          case measure => simp [intOf]; omega
        · go_wp2_with fail
          go_ret
          exact ⟨rfl, q2.trans hk2⟩
theorem orderTable_walk (n : Int) (A : Option Addr) (len cp : Nat) (ps : List Pr) (w : World) (_wn : (Lit.int .i64 n).wf = true) (hl : len ≤ maxLen) (hf : SlP w A len ps) :
    Calls Try.prog 3 #[.int .i64 n, .slice A len cp] w fun e w' => e = .returned (.bool true) ∧ Kept w w' := by
  by_cases hc : ordF n ps = 0
  · obtain ⟨nn, rfl⟩ := Int.eq_ofNat_of_zero_le (show 0 ≤ n by have := (ordF_zero hc).1.1; omega)
    exact yes nn A len cp ps w hl hf hc
  · have hne : (ordF n ps != 0) = true := by simpa using hc
    have hnz : (ordF n ps == 0) = false := by simpa using hc
    go_enter Try.func3, Try.ntmps3
    go_wp2_with fail
    refine (table_any n _ _ _ ps _ hf).mono ?_
    rintro e w1 ⟨k1, ⟨h0, _⟩ | ⟨_, rfl⟩⟩
    · exact absurd h0 hc
    clear hc
    go_wp2_with fail
    refine (ordered_any n _ _ _ ps _ (hf.kept k1)).mono ?_
    rintro e w2 ⟨rfl, k2⟩
    go_wp2_with fail
    go_ret
    exact ⟨rfl, k1.trans k2⟩
end Go.Proofs.Ytgcpomdlajoifaa.orderTableDone
