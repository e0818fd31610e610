/- The walks of what the statements ask of orders: Bit, Has, Under, OrderCheck. -/
import Derived.Test.YtgcpomdlajoifaaChecked
import Derived.Test.YtgcpomdlajoifaaPairs
import Derived.Test.YtgcpomdlajoifaaOwn
import Derived.Test.YtgcpomdlajoifaaSeat
import Derived.Test.YtgcpomdlajoifaaQuiet
namespace Go.Proofs.Ytgcpomdlajoifaa
open Go Go.RowKit
set_option linter.unusedVariables false

theorem in_any (x y : BitVec 32) (w : World) : Calls Try.prog 18 #[.int .u32 (W x), .int .u32 (W y)] w fun e w' => e = .returned (.bool (subB x y)) ∧ w = w' := by
  go_enter Try.func18, Try.ntmps18
  go_wp2
  go_ret
  exact ⟨rfl, rfl⟩
theorem bit_any (x : BitVec 32) (i : Nat) (hi : i < 32) (w : World) : Calls Try.prog 17 #[.int .u32 (W x), .int .i64 i] w fun e w' => e = .returned (.bool (x.getLsbD i)) ∧ w = w' := by
  have d1 : decide ((i : Int) < 0) = false := by simp
  have d2 : decide (0 ≤ (i : Int)) = true := by simp
  have d3 : decide ((i : Int) < 32) = true := by simp; omega
  have hi0 : (0 : Int) ≤ i := by omega
  go_enter Try.func17, Try.ntmps17
  go_wp2
  go_ret
  exact ⟨rfl, rfl⟩

/-- has a list a number? -/
def hasI (xs : List Int) (x : Int) : Bool := xs.contains x
theorem hasI_iff {xs : List Int} {x : Int} : hasI xs x = true ↔ x ∈ xs := List.contains_iff_mem
theorem hasI_not {xs : List Int} {x : Int} (h : hasI xs x = false) : x ∉ xs := fun hm => by rw [hasI_iff.2 hm] at h; cases h
theorem has_any (A : Option Addr) (len c : Nat) (xs : List Int) (x : Int) (w : World) (hx : SlI w A len xs) (hl : len ≤ 1000000) :
    Calls Try.prog 56 #[.slice A len c, .int .i64 x] w fun e w' => e = .returned (.bool (hasI xs x)) ∧ w = w' := by
  go_enter Try.func56, Try.ntmps56
  go_wp2_with fail
  go_loopw [9] (fun i wr => ∃ k : Nat, k ≤ len ∧ i = .int .i64 k ∧ w = wr ∧ Hid (hasI (xs.take k) x = false)) (fun i _ => len - (intOf i).toNat)
  case atStart => exact ⟨0, Nat.zero_le _, rfl, rfl, Lib.hid rfl⟩
  case round =>
    obtain ⟨k, hk, rfl, rfl, hno⟩ := hrel
    by_cases hlt : k < len
    · obtain ⟨b, off, hkr, rfl, hb, c1⟩ := hx.get k hlt
      have hs := Lib.hid (take_snoc xs k hkr)
      have hmem := Lib.hid (List.getElem_mem hkr)
      generalize xs[k] = y at c1 hs hmem
      cases hd : x == y
      · go_wp2_with fail
        go_roundw
        case rel => exact ⟨k + 1, by omega, by go_num, trivial, Lib.hid (by have h := hno.out; unfold hasI at h ⊢; rw [hs.out, List.contains_append, h]; simpa using hd)⟩
        case measure => simp [intOf]; omega
      · go_wp2_with fail
        go_ret
        rw [beq_iff_eq] at hd
        subst hd
        exact ⟨by rw [hasI_iff.2 hmem.out]; rfl, rfl⟩
    · have HK := Lib.hid (take_all xs k (by rw [hx.2]; omega))
      go_wp2_with fail
      go_ret
      exact ⟨by rw [← HK.out, hno.out]; rfl, rfl⟩

theorem nthI {xs : List Int} {k : Nat} (h : k < xs.length) : xs.getD k 0 = xs[k] := by
  rw [List.getD_eq_getElem?_getD, List.getElem?_eq_getElem h]
  rfl
set_option maxHeartbeats 1000000 in
theorem under_any (n : Int) (A : Option Addr) (len c : Nat) (ps : List Pr) (a b : Int) (w : World) (hp : SlP w A len ps) (hl : len ≤ 1000) :
    Calls Try.prog 38 #[.int .i64 n, .slice A len c, .int .i64 a, .int .i64 b] w fun e w' => e = .returned (.bool (under ps a b)) ∧ Kept w w' := by
  have HL := Lib.hid hp.2
  go_enter Try.func38, Try.ntmps38
  go_wp2_with fail
  go_loopw [9, 10] (fun v i wr => ∃ (l : List Int) (k : Nat), i = .int .i64 k ∧ Own w wr 3 1 v l.length (l.map iv) ∧ Hid (UInv ps a l k 0)) (fun _ i _ => len + 1 - (intOf i).toNat)
  case atStart => exact ⟨[a], 0, rfl, Own.made (Kept.refl w) 3 #[.int .i64 a] 1 1 _ rfl rfl (by decide), Lib.hid (UInv.start ps a)⟩
  case round =>
    obtain ⟨l, k, rfl, hown, hinv⟩ := hrel
    have hll : l.length ≤ len + 1 := by rw [← HL.out]; exact hinv.out.len
    have hkl : k ≤ l.length := hinv.out.2.1
    obtain ⟨A1, c1, rfl, hsl0, _⟩ := hown.form
    by_cases hlt : k < l.length
    · go_wp2_with fail
      go_loopw [9, 23] (fun v i wr => ∃ (l' : List Int) (m : Nat), m ≤ len ∧ k < l'.length ∧ i = .int .i64 m ∧ Own w wr 3 1 v l'.length (l'.map iv) ∧ Hid (UInv ps a l' k m)) (fun _ i _ => len - (intOf i).toNat)
      case atStart => exact ⟨l, 0, Nat.zero_le _, hlt, rfl, hown, hinv⟩
      case round =>
        obtain ⟨l', m, hm, hkl', rfl, hown', hinv'⟩ := hrel
        have hll' : l'.length ≤ len + 1 := by rw [← HL.out]; exact hinv'.out.len
        obtain ⟨A2, c2, rfl, hsl, _⟩ := hown'.form
        by_cases hlt2 : m < len
        · obtain ⟨b1, o1, hmp, rfl, hb1, ca, cb⟩ := (hp.kept hown'.2).get m hlt2
          have hSI : SlI _ A2 l'.length l' := ⟨hsl, rfl⟩
          obtain ⟨b2, o2, hkl2, rfl, hb2, cc⟩ := hSI.get k hkl'
          have hskip := Lib.hid (hinv'.out.skip hmp)
          have hadd := Lib.hid (hinv'.out.add hmp hkl')
          rw [nthI hkl2] at hskip hadd
          generalize ps[m].1 = p1 at ca hskip hadd
          generalize ps[m].2 = p2 at cb hskip hadd
          generalize l'[k] = y at cc hskip hadd
          have hi1 : (0 : Int) ≤ (k : Int) := by omega
          have hi2 : (k : Int) < (l'.length : Int) := by omega
          have hi3 : (0 : Int) ≤ (m : Int) := by omega
          have hi4 : (m : Int) < (len : Int) := by omega
          have bx := Box.new wr #[.int .i64 p1, .int .i64 p2] 31 wr.heap.size rfl
          have hka : Kept wr (wr.alloc (.cells #[.int .i64 p1, .int .i64 p2] 31)) := (Kept.refl _).alloc _
          have q0 := kw_cell (bx.at_ 0 rfl)
          have q1 := kw_cell (bx.at_ 1 rfl)
          have qc := kw_cell ((hka.cell (p := ⟨b2, o2 + k, none⟩) hb2).trans cc)
          cases hd : p1 == y
          · have HD := Lib.hid hd
            go_wp2_with fail
            refine wp_region_kept (by kernel_rfl) (by kernel_rfl) ?_
            repeat (go_big_quiet_step (fail))
            refine wpQuiet_nil ?_
            intro w3 k3
            go_wp2_with fail
            go_roundw
            case rel => exact ⟨l', m + 1, by omega, hkl', by go_num, hown'.kept (hka.trans k3), Lib.hid (hskip.out fun e => absurd HD.out (by simp [e]))⟩
            case measure => simp [intOf]; omega
          · have HD := Lib.hid hd
            go_wp2_with fail
            cases hm2 : hasI l' p2
            · have HM := Lib.hid hm2
              refine wp_region_kept (by kernel_rfl) (by kernel_rfl) ?_
              repeat (go_big_quiet_step ((go_at_call 56; exact kept_of_same (has_any _ _ _ l' p2 _ (hSI.kept (hka.trans (KW.kept _))) (by omega)))))
              refine wpQuiet_nil ?_
              intro w3 k3
              have cp : w3.cell? ⟨wr.heap.size, 1, none⟩ = some (.int .i64 p2) := (bx.kept k3).at_ 1 rfl
              have hown3 := hown'.kept (hka.trans k3)
              go_wp2_with (at_builtin; refine wpList_push rfl _ _ 32 rfl 3 Try.underlying32 info_i64 rfl (by decide) (by decide) _ _ _ _ hown3 #[.int .i64 p2] _ _ 1 1 rfl rfl rfl rfl (one_i64 _) (by omega) ?_; intro v' w7 hown7 _)
              go_roundw
              case rel => exact ⟨l' ++ [p2], m + 1, by omega, by simp; omega, by go_num, by simpa [iv] using hown7, Lib.hid (hadd.out (by simpa using HD.out) (hasI_not HM.out))⟩
              case measure => simp [intOf]; omega
            · have HM := Lib.hid hm2
              refine wp_region_kept (by kernel_rfl) (by kernel_rfl) ?_
              repeat (go_big_quiet_step ((go_at_call 56; exact kept_of_same (has_any _ _ _ l' p2 _ (hSI.kept (hka.trans (KW.kept _))) (by omega)))))
              refine wpQuiet_nil ?_
              intro w3 k3
              go_wp2_with fail
              go_roundw
              case rel => exact ⟨l', m + 1, by omega, hkl', by go_num, hown'.kept (hka.trans k3), Lib.hid (hskip.out fun _ => hasI_iff.1 HM.out)⟩
              case measure => simp [intOf]; omega
        · have HM := Lib.hid (show m = len by omega)
          go_wp2_with fail
          go_roundw
          case rel => exact ⟨l', k + 1, by go_num, hown', Lib.hid ((show UInv ps a l' k ps.length by rw [HL.out, ← HM.out]; exact hinv'.out).next hkl')⟩
          case measure => simp [intOf]; omega
    · have HB := Lib.hid (show hasI l b = under ps a b from hinv.out.done hlt b)
      have hSI : SlI _ A1 l.length l := ⟨hsl0, rfl⟩
      go_wp2_with fail
      refine (has_any _ _ _ l b _ hSI (by omega)).mono ?_
      rintro e w4 ⟨rfl, rfl⟩
      go_wp2_with fail
      go_ret
      exact ⟨by rw [HB.out]; rfl, hown.2⟩

theorem any_range (f : Nat → Bool) (k : Nat) : (List.range (k + 1)).any f = ((List.range k).any f || f k) := by
  rw [List.range_succ, List.any_append]
  simp
theorem ordF_large {n : Int} {ps : List Pr} (h : n < 1 ∨ 6 < n ∨ 20 < ps.length) : ordF n ps = 1 := by unfold ordF; rw [if_pos h]
theorem ordF_arg {n : Int} {ps : List Pr} (h : ¬ (n < 1 ∨ 6 < n ∨ 20 < ps.length)) {k : Nat} (hk : k < ps.length) (hno : prOk n ps[k] = false) : ordF n ps = 2 := by
  unfold ordF
  rw [if_neg h, if_pos]
  rw [List.all_eq_false]
  exact ⟨_, List.getElem_mem hk, by simp [hno]⟩
/-- is some thing below i one with another, both ways? -/
noncomputable def twins (ps : List Pr) (i : Nat) : Bool := (List.range i).any fun i => (List.range i).any (twin ps i)
noncomputable def twinsAt (ps : List Pr) (i j : Nat) : Bool := (List.range j).any (twin ps i)
theorem twins_succ (ps : List Pr) (i : Nat) : twins ps (i + 1) = (twins ps i || twinsAt ps i i) := any_range _ i
theorem twinsAt_succ (ps : List Pr) (i j : Nat) : twinsAt ps i (j + 1) = (twinsAt ps i j || twin ps i j) := any_range _ j
theorem twins_at {ps : List Pr} {i j n : Nat} (hi : i < n) (hj : j < i) (h : twin ps i j = true) : twins ps n = true := by
  unfold twins
  rw [List.any_eq_true]
  refine ⟨i, List.mem_range.2 hi, ?_⟩
  rw [List.any_eq_true]
  exact ⟨j, List.mem_range.2 hj, h⟩
theorem ordF_form {n : Nat} {ps : List Pr} (h : ¬ ((n : Int) < 1 ∨ 6 < (n : Int) ∨ 20 < ps.length)) (ha : ps.all (prOk n) = true) : ordF n ps = if twins ps n = true then 3 else 0 := by
  unfold ordF
  rw [if_neg h, ha, if_neg (by simp), Int.toNat_natCast]
  rfl
theorem prOk_no {n : Int} {p : Pr} (h : prOk n p = false) : p.1 < 0 ∨ (¬ p.1 < 0 ∧ n ≤ p.1) ∨ (¬ p.1 < 0 ∧ ¬ n ≤ p.1 ∧ p.2 < 0) ∨ (¬ p.1 < 0 ∧ ¬ n ≤ p.1 ∧ ¬ p.2 < 0 ∧ n ≤ p.2) := by
  have hn : ¬ ((0 ≤ p.1 ∧ p.1 < n) ∧ 0 ≤ p.2 ∧ p.2 < n) := fun hc => by rw [prOk_iff.2 hc] at h; cases h
  omega
set_option maxHeartbeats 1000000 in
theorem order_any (n : Int) (A : Option Addr) (len c : Nat) (ps : List Pr) (w : World) (hp : SlP w A len ps) :
    Calls Try.prog 42 #[.int .i64 n, .slice A len c] w fun e w' => e = .returned (.int .i64 (ordF n ps)) ∧ Kept w w' := by
  by_cases hbad : n < 1 ∨ 6 < n ∨ 20 < len
  · have HF := Lib.hid (ordF_large (n := n) (ps := ps) (by rw [hp.2]; exact hbad))
    clear hp
    by_cases a : n < 1
    · have : decide (n < 1) = true := by simpa using a
      clear hbad
      go_enter Try.func42, Try.ntmps42
      go_wp2
      go_ret
      exact ⟨by rw [HF.out]; rfl, Kept.refl _⟩
    · have d1 : decide (n < 1) = false := by simpa using a
      by_cases a2 : 6 < n
      · have d2 : decide (6 < n) = true := by simpa using a2
        clear hbad
        go_enter Try.func42, Try.ntmps42
        go_wp2
        go_ret
        exact ⟨by rw [HF.out]; rfl, Kept.refl _⟩
      · have d2 : decide (6 < n) = false := by simpa using a2
        have d3 : decide (20 < (len : Int)) = true := by simp; omega
        clear hbad
        go_enter Try.func42, Try.ntmps42
        go_wp2
        go_ret
        exact ⟨by rw [HF.out]; rfl, Kept.refl _⟩
  · have h1 : 1 ≤ n := by omega
    have h6 : n ≤ 6 := by omega
    have hlen : len ≤ 20 := by omega
    obtain ⟨nn, rfl⟩ := Int.eq_ofNat_of_zero_le (show 0 ≤ n by omega)
    rw [← hp.2] at hbad
    have HARG := Lib.hid (fun k hk hno => ordF_arg (n := nn) (ps := ps) hbad (k := k) hk hno)
    have HFORM := Lib.hid (fun ha => ordF_form (n := nn) (ps := ps) hbad ha)
    clear hbad
    have hd : decide ((nn : Int) < 1) = false := by simp; omega
    have hd2 : decide (6 < (nn : Int)) = false := by simp; omega
    have hd3 : decide (20 < (len : Int)) = false := by simp; omega
    go_enter Try.func42, Try.ntmps42
    go_wp2_with fail
    go_loopw [22] (fun i wr => ∃ k : Nat, k ≤ len ∧ i = .int .i64 k ∧ Kept w wr ∧ Hid ((ps.take k).all (prOk nn) = true)) (fun i _ => len - (intOf i).toNat)
    case atStart => exact ⟨0, Nat.zero_le _, rfl, Kept.refl _, Lib.hid rfl⟩
    case round =>
      obtain ⟨k, hk, rfl, hkw, hall⟩ := hrel
      by_cases hlt : k < len
      · obtain ⟨b, off, hkr, rfl, hb, c1, c2⟩ := (hp.kept hkw).get k hlt
        have hs := Lib.hid (all_snoc (prOk nn) _ _ hkr)
        have harg := Lib.hid (HARG.out k hkr)
        have hno := Lib.hid (prOk_no (n := nn) (p := ps[k]))
        have hpo := Lib.hid (prOk_iff (n := nn) (p := ps[k]))
        cases hok : prOk nn ps[k]
        · have HA := Lib.hid (harg.out hok)
          have hcase := hno.out hok
          clear hok harg hno hpo hs
          generalize ps[k].1 = p1 at c1 hcase
          generalize ps[k].2 = p2 at c2 hcase
          rcases hcase with a | ⟨a, b⟩ | ⟨a, b, c⟩ | ⟨a, b, c, d⟩
          · have d1 : decide (p1 < 0) = true := by simpa using a
            go_wp2_with fail
            go_ret
            exact ⟨by rw [HA.out]; rfl, hkw.alloc _⟩
          · have d1 : decide (p1 < 0) = false := by simpa using a
            have d2 : decide ((nn : Int) ≤ p1) = true := by simpa using b
            go_wp2_with fail
            go_ret
            exact ⟨by rw [HA.out]; rfl, hkw.alloc _⟩
          · have d1 : decide (p1 < 0) = false := by simpa using a
            have d2 : decide ((nn : Int) ≤ p1) = false := by simpa using b
            have d3 : decide (p2 < 0) = true := by simpa using c
            go_wp2_with fail
            go_ret
            exact ⟨by rw [HA.out]; rfl, hkw.alloc _⟩
          · have d1 : decide (p1 < 0) = false := by simpa using a
            have d2 : decide ((nn : Int) ≤ p1) = false := by simpa using b
            have d3 : decide (p2 < 0) = false := by simpa using c
            have d4 : decide ((nn : Int) ≤ p2) = true := by simpa using d
            go_wp2_with fail
            go_ret
            exact ⟨by rw [HA.out]; rfl, hkw.alloc _⟩
        · have HOK := Lib.hid hok
          have hy := hpo.out.1 hok
          clear hok harg hno hpo
          have d1 : decide (ps[k].1 < 0) = false := by simp; omega
          have d2 : decide ((nn : Int) ≤ ps[k].1) = false := by simp; omega
          have d3 : decide (ps[k].2 < 0) = false := by simp; omega
          have d4 : decide ((nn : Int) ≤ ps[k].2) = false := by simp; omega
          clear hy
          generalize ps[k].1 = p1 at c1 d1 d2
          generalize ps[k].2 = p2 at c2 d3 d4
          go_wp2_with fail
          go_roundw
          case rel => exact ⟨k + 1, by omega, by go_num, hkw.alloc _, Lib.hid (by rw [hs.out, hall.out, HOK.out]; rfl)⟩
          case measure => simp [intOf]; omega
      · have HK := Lib.hid (HFORM.out (by rw [← take_all ps k (by rw [hp.2]; omega)]; exact hall.out))
        clear HFORM HARG
        go_wp2_with fail
        go_loopw [7] (fun i wr' => ∃ k : Nat, k ≤ nn ∧ i = .int .i64 k ∧ Kept w wr' ∧ Hid (twins ps k = false)) (fun i _ => nn - (intOf i).toNat)
        case atStart => exact ⟨0, Nat.zero_le _, rfl, hkw, Lib.hid rfl⟩
        case round =>
          obtain ⟨i, hi, rfl, hk1, ht⟩ := hrel
          by_cases hlt1 : i < nn
          · go_wp2_with fail
            go_loopw [8] (fun v wr' => ∃ j : Nat, j ≤ i ∧ v = .int .i64 j ∧ Kept w wr' ∧ Hid (twinsAt ps i j = false)) (fun v _ => i - (intOf v).toNat)
            case atStart => exact ⟨0, Nat.zero_le _, rfl, hk1, Lib.hid rfl⟩
            case round =>
              obtain ⟨j, hj, rfl, hk2, ht2⟩ := hrel
              by_cases hlt2 : j < i
              · have hs := Lib.hid (twinsAt_succ ps i j)
                have hend := Lib.hid (twins_at (ps := ps) (n := nn) hlt1 hlt2)
                unfold twin at hs hend
                go_wp2_with fail
                refine (under_any _ _ _ _ ps _ _ _ (hp.kept hk2) (by omega)).mono ?_
                rintro e w3 ⟨rfl, k3⟩
                cases hu : under ps i j
                · have HU := Lib.hid hu
                  go_wp2_with fail
                  go_roundw
                  case rel => exact ⟨j + 1, by omega, by go_num, hk2.trans k3, Lib.hid (by rw [hs.out, ht2.out, HU.out]; rfl)⟩
                  case measure => simp [intOf]; omega
                · have HU := Lib.hid hu
                  go_wp2_with fail
                  refine (under_any _ _ _ _ ps _ _ _ (hp.kept (hk2.trans k3)) (by omega)).mono ?_
                  rintro e w4 ⟨rfl, k4⟩
                  cases hu2 : under ps j i
                  · have HU2 := Lib.hid hu2
                    go_wp2_with fail
                    go_roundw
                    case rel => exact ⟨j + 1, by omega, by go_num, (hk2.trans k3).trans k4, Lib.hid (by rw [hs.out, ht2.out, HU.out, HU2.out]; rfl)⟩
                    case measure => simp [intOf]; omega
                  · have HE := Lib.hid (hend.out (by rw [hu, hu2]; rfl))
                    go_wp2_with fail
                    go_ret
                    exact ⟨by rw [HK.out, HE.out]; rfl, (hk2.trans k3).trans k4⟩
              · have HJ := Lib.hid (show j = i by omega)
                go_wp2_with fail
                go_roundw
                case rel => exact ⟨i + 1, by omega, by go_num, hk2, Lib.hid (by have h2 := ht2.out; rw [HJ.out] at h2; rw [twins_succ, ht.out, h2]; rfl)⟩
                case measure => simp [intOf]; omega
          · have HI := Lib.hid (show i = nn by omega)
            go_wp2_with fail
            go_ret
            exact ⟨by rw [HK.out, ← HI.out, ht.out]; rfl, hk1⟩
theorem ordered_any (n : Int) (A : Option Addr) (len c : Nat) (ps : List Pr) (w : World) (hp : SlP w A len ps) :
    Calls Try.prog 16 #[.int .i64 n, .slice A len c] w fun e w' => e = .returned (.bool (ordF n ps == 0)) ∧ Kept w w' := by
  go_enter Try.func16, Try.ntmps16
  go_wp2_with fail
  refine (order_any n _ _ _ ps _ hp).mono ?_
  rintro e w1 ⟨rfl, k1⟩
  go_wp2_with fail
  go_ret
  exact ⟨rfl, k1⟩
end Go.Proofs.Ytgcpomdlajoifaa
