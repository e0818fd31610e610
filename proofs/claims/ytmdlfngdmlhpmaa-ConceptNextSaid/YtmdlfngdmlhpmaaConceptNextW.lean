/- ConceptNext: the walk of the statement. -/
import Derived.Test.YtmdlfngdmlhpmaaNext5
namespace Go.Proofs.Ytmdlfngdmlhpmaa
open Go Go.RowKit
set_option linter.unusedVariables false
set_option linter.unusedSimpArgs false

/-- has a list a number? -/
def hasI (xs : List Int) (x : Int) : Bool := xs.contains x
theorem hasI_iff {xs : List Int} {x : Int} : hasI xs x = true ↔ x ∈ xs := List.contains_iff_mem
theorem hasI_not {xs : List Int} {x : Int} (h : hasI xs x = false) : x ∉ xs := fun hm => by rw [hasI_iff.2 hm] at h; cases h
theorem has_any (A : Option Addr) (len c : Nat) (xs : List Int) (x : Int) (w : World) (hx : SlI w A len xs) (hl : len ≤ 1000000) :
    Calls Try.prog 31 #[.slice A len c, .int .i64 x] w fun e w' => e = .returned (.bool (hasI xs x)) ∧ w = w' := by
  go_enter Try.func31, Try.ntmps31
  go_wp2_with fail
  go_loopw [9] (fun i wr => ∃ k : Nat, k ≤ len ∧ i = .int .i64 k ∧ w = wr ∧ Hid (hasI (xs.take k) x = false)) (fun i _ => len - (intOf i).toNat)
  case atStart => exact ⟨0, Nat.zero_le _, rfl, rfl, Lib.hid rfl⟩
  case round =>
    obtain ⟨k, hk, rfl, rfl, hno⟩ := hrel
    by_cases hlt : k < len
    · obtain ⟨b, off, hkr, rfl, hb, c1⟩ := hx.get k hlt
      have hs := Lib.hid (take_snoc xs k hkr)
      have hmem := Lib.hid (List.getElem_mem hkr)
      generalize xs[k] = y at c1 hs hmem
      cases hd : x == y
      · go_wp2_with fail
        go_roundw
        case rel => exact ⟨k + 1, by omega, by go_num, trivial, Lib.hid (by have h := hno.out; unfold hasI at h ⊢; rw [hs.out, List.contains_append, h]; simpa using hd)⟩
        case measure => simp [intOf]; omega
      · go_wp2_with fail
        go_ret
        rw [beq_iff_eq] at hd
        subst hd
        exact ⟨by rw [hasI_iff.2 hmem.out]; rfl, rfl⟩
    · have HK := Lib.hid (take_all xs k (by rw [hx.2]; omega))
      go_wp2_with fail
      go_ret
      exact ⟨by rw [← HK.out, hno.out]; rfl, rfl⟩
theorem all_bad (n : Int) (A : Option Addr) (len c : Nat) (rows : List (BitVec 32)) (w : World) (hr : SlW w A len rows) (hc : (tabF n rows 0#32 [] != 0) = true) :
    Calls Try.prog 29 #[.int .i64 n, .slice A len c] w fun e w' => e = .returned (.tuple #[.slice none 0 0, .int .i64 (tabF n rows 0#32 [])]) ∧ Kept w w' := by
  go_enter Try.func29, Try.ntmps29
  go_wp2_with fail
  refine (conWrong_any _ _ _ _ rows 0#32 _ _ _ [] _ hr (SlW.nil_ _ _) (by omega)).mono ?_
  rintro e w1 ⟨rfl, hk⟩
  go_wp2_with fail
  go_ret2
  exact ⟨rfl, hk⟩
theorem cn_cells {w : World} {A : Option Addr} {m : Nat} {ys : List Cn} (h : Sl w 2 A m (cnCells ys)) (hm : ys.length = m) (k : Nat) (hk : k < m) : ∃ b off x, A = some ⟨b, off, none⟩ ∧ b < w.heap.size ∧ ys[k]? = some x ∧ w.cell? ⟨b, off + k * 2, none⟩ = some (.int .u32 (W x.1)) ∧ w.cell? ⟨b, off + k * 2 + 1, none⟩ = some (.int .u32 (W x.2)) := by
  obtain ⟨b, off, e, hb, hc⟩ := h.2 (by omega)
  have hx : ys[k]? = some (ys[k]'(by omega)) := List.getElem?_eq_getElem (by omega)
  obtain ⟨a1, a2⟩ := cnCells_at ys k _ hx
  exact ⟨b, off, _, e, hb, hx, hc _ _ a1, by rw [Nat.add_assoc]; exact hc _ _ a2⟩
namespace conceptNextDone
set_option maxRecDepth 100000 in
set_option maxHeartbeats 8000000 in
theorem yes (n : Nat) (A : Option Addr) (len cp : Nat) (rows : List (BitVec 32)) (w : World) (hl : len ≤ maxLen) (hr : SlW w A len rows) (hc : tabF n rows 0#32 [] = 0) :
    Calls Try.prog 11 #[.int .i64 n, .slice A len cp] w fun e w' => e = .returned (.bool true) ∧ Kept w w' := by
  have hz := tabF_zero hc
  have hn6 : n ≤ 6 := by omega
  have hl8 : rows.length ≤ 8 := hz.2.2.1
  have HC := Lib.hid hc
  have hn0 : tabF n rows 0#32 [0#32] = 0 := tabF_ok hz.1 hz.2.1 hz.2.2.1 hz.2.2.2.1 (by simp [fitB]) hz.2.2.2.2.2
  have HN0 := Lib.hid hn0
  have HTAB := Lib.hid (fun (x : BitVec 32) (hx : x ∈ allG n rows) => show tabF n rows 0#32 [x] = 0 from by
    obtain ⟨q, rfl⟩ := runG_closed (by omega) (by omega) 63 _ ⟨_, rfl⟩ x hx
    refine tabF_ok hz.1 hz.2.1 hz.2.2.1 hz.2.2.2.1 ?_ hz.2.2.2.2.2
    simp only [List.all_cons, List.all_nil, Bool.and_true]
    exact clG_fit (by omega) (by omega) q)
  have HNX := Lib.hid (runG_next (n := n) (by omega) (rows := rows) (by omega) 63 (clG n rows 0#32) (allG_fuel hn6 _))
  have HLE := Lib.hid (allG_least hn6 (rows := rows) (by omega))
  have HHEAD := Lib.hid (show (allG n rows)[0]? = some (clG n rows 0#32) from rfl)
  have HLEN := Lib.hid (runG_len n rows 63 (clG n rows 0#32))
  have HALLC := Lib.hid (fun w' (h : SlW w' A len rows) => all_ok n A len cp rows w' h hc)
  have HDEF : Hid (allG n rows = runG n rows 63 (clG n rows 0#32)) := Lib.hid rfl
  rw [← HDEF.out] at HNX HLEN
  generalize clG n rows 0#32 = g0 at HLE HHEAD
  obtain ⟨R, hR⟩ : ∃ R, allG n rows = R := ⟨_, rfl⟩
  rw [hR] at HTAB HNX HLE HHEAD HLEN HALLC
  obtain ⟨m, hm⟩ : ∃ m, R.length = m := ⟨_, rfl⟩
  rw [hm] at HLEN HALLC
  have HM := Lib.hid hm
  have hm64 : m ≤ 64 := HLEN.out.1
  have hm1 : 1 ≤ m := HLEN.out.2
  clear hR hm hz hn0 HDEF hc
  go_enter Try.func11, Try.ntmps11
  go_wp2_with fail
  refine (HALLC.out _ hr).mono ?_
  rintro e w1 ⟨A1, c1, ys, rfl, hp, hs, hsl, k1⟩
  have hyl : ys.length = m := by
    have := hp.length_eq
    rw [List.length_map] at this
    rw [this]
    exact HM.out
  have HSL := Lib.hid hsl
  have HYL := Lib.hid hyl
  have HP := Lib.hid hp
  obtain ⟨b, off, y0, rfl, hb, hy0, c0, c1'⟩ := cn_cells hsl hyl 0 (by omega)
  have HY0 := Lib.hid (show y0.2 = g0 from by
    have hy0m : y0.2 ∈ R := hp.mem_iff.1 (List.mem_map.2 ⟨y0, List.mem_of_getElem? hy0, rfl⟩)
    have hg0m : g0 ∈ R := List.mem_of_getElem? HHEAD.out
    obtain ⟨z, hz, ez⟩ := List.mem_map.1 (hp.mem_iff.2 hg0m)
    obtain ⟨j, hj⟩ := List.getElem?_of_mem hz
    have h1 := HLE.out _ hy0m
    have h2 : y0.2.toNat ≤ z.2.toNat := by
      rcases Nat.eq_zero_or_pos j with e | e
      · subst e
        rw [hy0] at hj
        injection hj with hj
        rw [hj]
        exact Nat.le_refl _
      · exact hs 0 j y0 z e hy0 hj
    rw [ez] at h2
    exact BitVec.eq_of_toNat_eq (by omega))
  rw [Nat.zero_mul, Nat.add_zero] at c0 c1'
  rw [HY0.out] at c1'
  have K1 := Lib.hid k1
  have hr1 := Lib.hid (hr.kept k1)
  clear hp hs hsl hyl hy0 k1
  go_wp2_with fail
  refine (tabled_any _ _ _ _ _ 0#32 0#32 _ hr1.out).mono ?_
  rintro e w2 ⟨rfl, rfl⟩
  rw [HN0.out]
  have g1 : ((m : Int) == 0) = false := by rw [beq_eq_false_iff_ne]; omega
  have i1 : (0 : Int) < (m : Int) := by omega
  go_wp2_with fail
  clear g1 i1
  go_loopw [8, 7, 40] (fun v t i wr => ∃ k x, k < m ∧ i = .int .i64 (k : Nat) ∧ t = .int .u32 (W x) ∧ Hid (R[k]? = some x) ∧ Own w1 wr 3 1 v k (((R.take k).map W).map iv)) (fun _ _ i _ => m - (intOf i).toNat)
  case atStart => exact ⟨0, g0, by omega, rfl, rfl, HHEAD, Own.start (Kept.refl _)⟩
  case round =>
    obtain ⟨k, x, hk, rfl, rfl, HX, hown⟩ := hrel
    have hW1 := W_lt x
    have hW0 := W_nonneg x
    have hkm : decide ((k : Int) < (m : Int)) = true := decide_eq_true (by omega)
    have HS := Lib.hid (show (((R.take (k + 1)).map W).map iv) = (((R.take k).map W).map iv) ++ [.int .i64 (W x)] by
      have : R.take (k + 1) = R.take k ++ [x] := by rw [List.take_add_one, HX.out]; rfl
      rw [this]
      simp [iv])
    have HT := Lib.hid (HTAB.out x (List.mem_of_getElem? HX.out))
    have HNXT := Lib.hid (HNX.out k x HX.out)
    go_wp2_with (at_builtin; refine wpList_push rfl _ _ 41 rfl 3 Try.underlying41 info_i64 rfl (by decide) (by decide) _ _ _ _ hown #[.int .i64 (W x)] _ _ 1 1 rfl rfl rfl rfl (one_i64 _) (by omega) ?_; intro v7 w7 hown7 _)
    have HO7 := Lib.hid hown7
    clear hown7 hown
    refine (nextX_ok n A len cp rows x _ (hr1.out.kept HO7.out.2) HT.out).mono ?_
    rintro e w8 ⟨rfl, k8⟩
    rw [HNXT.out]
    have HO8 : Hid (Own w1 w8 3 1 v7 (k + 1) (((R.take (k + 1)).map W).map iv)) := Lib.hid (by rw [HS.out]; exact HO7.out.kept k8)
    cases hd : R[k + 1]? with
    | some d =>
      have HD := Lib.hid hd
      have hkk : k + 1 < m := by
        have := (List.getElem?_eq_some_iff.1 hd).1
        rw [HM.out] at this
        exact this
      clear hd k8
      unfold nextE
      go_wp2_with fail
      go_roundw
      case rel => exact ⟨k + 1, d, hkk, by go_num, rfl, HD, HO8.out⟩
      case measure => simp [intOf]; omega
    | none =>
      have hkk : m = k + 1 := by
        have := List.getElem?_eq_none_iff.1 hd
        rw [HM.out] at this
        omega
      have HLAST := Lib.hid hd
      clear hd
      have HKK := Lib.hid hkk
      obtain ⟨A9, c9, rfl, hsl9, _⟩ := HO8.out.form
      have HSI : Hid (SlI w8 A9 (k + 1) (R.map W)) := Lib.hid ⟨by
        have : R.take (k + 1) = R := List.take_of_length_le (by rw [HM.out]; omega)
        rw [this] at hsl9
        exact hsl9, by rw [List.length_map, HM.out]; exact hkk⟩
      have HK18 := Lib.hid HO8.out.2
      have g2 : (((k + 1 : Nat) : Int) != (m : Int)) = false := by rw [hkk]; simp
      have g2' : (((k : Int) + 1) != (m : Int)) = false := by rw [hkk]; simp
      clear k8 hsl9 hkk HO7 HO8
      unfold nextE
      go_wp2_with fail
      obtain ⟨wo, hwo⟩ : ∃ wo : World, wo = w8 := ⟨_, rfl⟩
      subst hwo
      go_loopw [65] (fun i wr => ∃ j : Nat, j ≤ m ∧ i = .int .i64 j ∧ Kept wo wr) (fun i _ => m - (intOf i).toNat)
      case atStart => exact ⟨0, Nat.zero_le _, rfl, Kept.refl _⟩
      case round =>
        obtain ⟨j, hj, rfl, hkw⟩ := hrel
        by_cases hlt : j < m
        · obtain ⟨b2, off2, y, eA, hb2, hy, d0, d1⟩ := cn_cells (HSL.out.kept (HK18.out.trans hkw)) HYL.out j hlt
          injection eA with eA
          injection eA with eA1 eA2
          subst eA1 eA2
          have HIN := Lib.hid (show hasI (R.map W) (W y.2) = true from hasI_iff.2 (List.mem_map.2 ⟨y.2, HP.out.mem_iff.1 (List.mem_map.2 ⟨y, List.mem_of_getElem? hy, rfl⟩), rfl⟩))
          have j1 : (0 : Int) ≤ (j : Int) := by omega
          have j2 : (j : Int) < (m : Int) := by omega
          have hy1 := W_lt y.2
          have hy2 := W_nonneg y.2
          clear hy
          go_wp2_with fail
          refine (has_any A9 (k + 1) c9 (R.map W) (W y.2) _ (HSI.out.kept (hkw.alloc _)) (by omega)).mono ?_
          rintro e w9 ⟨rfl, rfl⟩
          rw [HIN.out]
          go_wp2_with fail
          go_roundw
          case rel => exact ⟨j + 1, by omega, by go_num, hkw.alloc _⟩
          case measure => simp [intOf]; omega
        · go_wp2_with fail
          refine (nextX_ok n A len cp rows x _ (hr1.out.kept (HK18.out.trans hkw)) HT.out).mono ?_
          rintro e w9 ⟨rfl, k9⟩
          rw [HNXT.out, HLAST.out]
          unfold nextE
          have K9 := Lib.hid (((K1.out.trans HK18.out).trans hkw).trans k9)
          clear k9
          go_wp2_with fail
          go_ret
          exact ⟨rfl, K9.out⟩
theorem conceptNext_walk (n : Int) (A : Option Addr) (len cp : Nat) (rows : List (BitVec 32)) (w : World) (_wn : (Lit.int .i64 n).wf = true) (hl : len ≤ maxLen) (hr : SlW w A len rows) :
    Calls Try.prog 11 #[.int .i64 n, .slice A len cp] w fun e w' => e = .returned (.bool true) ∧ Kept w w' := by
  by_cases hc : tabF n rows 0#32 [] = 0
  · have hz := tabF_zero hc
    obtain ⟨nn, rfl⟩ := Int.eq_ofNat_of_zero_le (show 0 ≤ n by omega)
    exact yes nn A len cp rows w hl hr hc
  · have hne : (tabF n rows 0#32 [] != 0) = true := by simpa using hc
    have hnz : (tabF n rows 0#32 [0#32] == 0) = false := by
      rw [beq_eq_false_iff_ne]
      intro h
      have hz := tabF_zero h
      exact hc (tabF_ok hz.1 hz.2.1 hz.2.2.1 hz.2.2.2.1 rfl hz.2.2.2.2.2)
    clear hc
    go_enter Try.func11, Try.ntmps11
    go_wp2_with fail
    refine (all_bad n A len cp rows _ hr hne).mono ?_
    rintro e w1 ⟨rfl, k1⟩
    go_wp2_with fail
    refine (tabled_any _ _ _ _ _ 0#32 0#32 _ (hr.kept k1)).mono ?_
    rintro e w2 ⟨rfl, rfl⟩
    go_wp2_with fail
    go_ret
    exact ⟨rfl, k1⟩
end conceptNextDone
end Go.Proofs.Ytmdlfngdmlhpmaa
