/- The walks of package veil, and of what the statements ask of rows. -/
import Derived.Test.YtodkpojmonikiaaVeilP
import Derived.Test.YtodkpojmonikiaaKnow2
import Derived.WalkLawsBesides
namespace Go.Proofs.Ytodkpojmonikiaa
open Go Go.RowKit
set_option linter.unusedVariables false

theorem wid_eq {rs : List Rv} (h : 0 < rs.length) : wid rs = rs[0].2.1 := by
  unfold wid
  rw [List.getD_eq_getElem?_getD, List.getElem?_eq_getElem h]
  rfl
/-- the first row's cell -/
theorem SlM.first {w : World} {A : Option Addr} {n : Nat} {rs : List Rv} (h : SlM w A n rs) (hn : 0 < n) : ∃ b off A1 c1, A = some ⟨b, off, none⟩ ∧ b < w.heap.size ∧ w.cell? ⟨b, off, none⟩ = some (.slice A1 (wid rs) c1) := by
  obtain ⟨b, off, hl, e, hb, hc, _⟩ := h.get 0 hn
  exact ⟨b, off, rs[0].1, rs[0].2.2.1, e, hb, by rw [wid_eq hl]; simpa using hc⟩
theorem veilLen1_any (A0 : Option Addr) (n0 c0 : Nat) (rs0 : List Rv) (p : Addr) (r : Rv) (w : World) (hp : w.cell? p = some (.slice A0 n0 c0)) (h0 : SlM w A0 n0 rs0) (hpos : 0 < n0) :
    Calls Try.prog 84 #[.slice r.1 r.2.1 r.2.2.1, .pointer (some p)] w fun e w' => e = .returned (.bool (neLen (widI rs0) r)) ∧ w = w' := by
  obtain ⟨b, off, A1, c1, rfl, hb, hc⟩ := h0.first hpos
  clear h0
  go_enter Try.func84, Try.ntmps84
  go_wp2
  go_ret
  exact ⟨rfl, rfl⟩
theorem veilLenIndex_any (A0 : Option Addr) (n0 c0 : Nat) (rs0 : List Rv) (p : Addr) (A : Option Addr) (n c : Nat) (xs : List Rv) (w : World) (hs : SlM w A n xs) (hn : n ≤ 1000) (hp : w.cell? p = some (.slice A0 n0 c0)) (h0 : SlM w A0 n0 rs0) (hpos : 0 < n0) :
    Calls Try.prog 92 #[.slice A n c, .func (.func 84) #[] #[.pointer (some p)]] w fun e w' => e = .returned (.int .i64 (firstI (neLen (widI rs0)) xs)) ∧ w = w' := by
  go_enter Try.func92, Try.ntmps92
  go_wp2_with fail
  go_loop [8] (fun t => ∃ q : Nat, q ≤ n ∧ t = .int .i64 q ∧ Hid ((xs.take q).any (neLen (widI rs0)) = false)) (fun t => n - (intOf t).toNat)
  case atStart => exact ⟨0, Nat.zero_le _, rfl, Lib.hid rfl⟩
  case round =>
    obtain ⟨q, hq, rfl, HN⟩ := hrel
    by_cases hlt : q < n
    · obtain ⟨b, off, hk, rfl, hb, cq, hrow⟩ := hs.get q hlt
      have hsn := Lib.hid (any_snoc (neLen (widI rs0)) xs q hk)
      have hhit := Lib.hid (firstI_hit (neLen (widI rs0)) xs q hk HN.out)
      cases hb1 : (neLen (widI rs0)) xs[q]
      · have HB := Lib.hid hb1
        clear hb1
        go_wp2_with fail
        refine (veilLen1_any A0 n0 c0 rs0 p _ _ hp h0 hpos).mono ?_
        rintro e w' ⟨rfl, rfl⟩
        rw [HB.out]
        go_wp2_with fail
        go_round
        case rel => exact ⟨q + 1, by omega, by go_num, Lib.hid (by rw [hsn.out, HN.out, HB.out]; rfl)⟩
        case measure => simp [intOf]; omega
      · have HB := Lib.hid hb1
        clear hb1
        go_wp2_with fail
        refine (veilLen1_any A0 n0 c0 rs0 p _ _ hp h0 hpos).mono ?_
        rintro e w' ⟨rfl, rfl⟩
        rw [HB.out]
        go_wp2_with fail
        go_ret
        exact ⟨by rw [hhit.out HB.out]; rfl, rfl⟩
    · have HK := Lib.hid (take_all xs q (by rw [hs.2.1]; omega))
      go_wp2_with fail
      go_ret
      exact ⟨by rw [firstI_none _ _ (by rw [← HK.out]; exact HN.out)]; rfl, rfl⟩
theorem veilLenContains_any (A0 : Option Addr) (n0 c0 : Nat) (rs0 : List Rv) (p : Addr) (A : Option Addr) (n c : Nat) (xs : List Rv) (w : World) (hs : SlM w A n xs) (hn : n ≤ 1000) (hp : w.cell? p = some (.slice A0 n0 c0)) (h0 : SlM w A0 n0 rs0) (hpos : 0 < n0) :
    Calls Try.prog 76 #[.slice A n c, .func (.func 84) #[] #[.pointer (some p)]] w fun e w' => e = .returned (.bool (xs.any (neLen (widI rs0)))) ∧ w = w' := by
  have H := Lib.hid (firstI_ge (neLen (widI rs0)) xs)
  go_enter Try.func76, Try.ntmps76
  go_wp2_with fail
  refine (veilLenIndex_any A0 n0 c0 rs0 p _ _ _ xs _ hs hn hp h0 hpos).mono ?_
  rintro e w' ⟨rfl, rfl⟩
  go_wp2_with fail
  go_ret
  exact ⟨by rw [← H.out]; rfl, rfl⟩

theorem guardsV {len m : Nat} (hbad : len < 1 ∨ 8 < len ∨ 6 < m) : decide ((len : Int) < 1) = true ∨ (decide ((len : Int) < 1) = false ∧ decide (8 < (len : Int)) = true) ∨ (decide ((len : Int) < 1) = false ∧ decide (8 < (len : Int)) = false ∧ decide (6 < (m : Int)) = true) := by
  simp only [decide_eq_true_eq, decide_eq_false_iff_not]
  omega
set_option maxHeartbeats 800000 in
theorem veilWrong_any (A : Option Addr) (len c : Nat) (rs : List Rv) (hid : BitVec 32) (w : World) (hs : SlM w A len rs) :
    Calls Try.prog 61 #[.slice A len c, .int .u32 (W hid)] w fun e w' => e = .returned (.int .i64 (veilF rs hid)) ∧ Kept w w' := by
  have hka : Kept w (w.alloc (.cells #[.slice A len c] 27)) := (Kept.refl _).alloc _
  have bx := Box.new w #[.slice A len c] 27 w.heap.size rfl
  by_cases hbad : len < 1 ∨ 8 < len ∨ 6 < wid rs
  · have HF := Lib.hid (show veilF rs hid = 1 by unfold veilF; rw [if_pos (by rw [hs.len]; exact hbad)])
    by_cases hz : len < 1
    · have d1 : decide ((len : Int) < 1) = true := by simp; omega
      clear hbad bx hs hz
      go_enter Try.func61, Try.ntmps61
      go_wp2
      go_ret
      exact ⟨by rw [HF.out]; rfl, hka⟩
    · have d1 : decide ((len : Int) < 1) = false := by simp; omega
      obtain ⟨b, off, A1, c1, rfl, hb, hc⟩ := (hs.kept hka).first (by omega)
      by_cases h8 : 8 < len
      · have d2 : decide (8 < (len : Int)) = true := by simp; omega
        clear hbad bx hs hz h8 hc hb
        go_enter Try.func61, Try.ntmps61
        go_wp2
        go_ret
        exact ⟨by rw [HF.out]; rfl, hka⟩
      · have d2 : decide (8 < (len : Int)) = false := by simp; omega
        have d3 : decide (6 < ((wid rs : Nat) : Int)) = true := by simp; omega
        have hpos : 0 < len := by omega
        clear hbad bx hs hz h8
        go_enter Try.func61, Try.ntmps61
        go_wp2
        go_ret
        exact ⟨by rw [HF.out]; rfl, hka⟩
  · have d1 : decide ((len : Int) < 1) = false := by simp; omega
    have d2 : decide (8 < (len : Int)) = false := by simp; omega
    have d3 : decide (6 < ((wid rs : Nat) : Int)) = false := by simp; omega
    have hm6 : wid rs ≤ 6 := by omega
    have HF := Lib.hid (show veilF rs hid = if rs.any (neLen (widI rs)) = true then 3 else if fitB (wid rs) hid then 0 else 4 by unfold veilF; rw [if_neg (by rw [hs.len]; exact hbad)])
    have hpos : 0 < len := by omega
    have hl8 : len ≤ 8 := by omega
    clear hbad
    obtain ⟨b, off, A1, c1, rfl, hb, hc⟩ := (hs.kept hka).first hpos
    go_enter Try.func61, Try.ntmps61
    go_wp2_with fail
    refine (veilLenContains_any _ len c rs ⟨w.heap.size, 0, none⟩ _ _ _ rs _ (hs.kept hka) (by omega) (bx.at_ 0 rfl) (hs.kept hka) hpos).mono ?_
    rintro e w1 ⟨rfl, rfl⟩
    have e0 := bx.at_ 0 rfl
    cases ha : rs.any (neLen (widI rs))
    · cases hf : fitB (wid rs) hid
      · have HV := Lib.hid (show veilF rs hid = 4 by rw [HF.out, ha, hf]; rfl)
        clear ha
        go_wp2_with fail
        go_ret
        exact ⟨by rw [HV.out]; rfl, hka⟩
      · have HV := Lib.hid (show veilF rs hid = 0 by rw [HF.out, ha, hf]; rfl)
        clear ha
        go_wp2_with fail
        go_ret
        exact ⟨by rw [HV.out]; rfl, hka⟩
    · have HV := Lib.hid (show veilF rs hid = 3 by rw [HF.out, ha]; rfl)
      clear ha
      go_wp2_with fail
      go_ret
      exact ⟨by rw [HV.out]; rfl, hka⟩
set_option maxHeartbeats 800000 in
theorem rowsCheck_any (A : Option Addr) (len c : Nat) (rs : List Rv) (hid : BitVec 32) (w : World) (hs : SlM w A len rs) :
    Calls Try.prog 63 #[.slice A len c, .int .u32 (W hid)] w fun e w' => e = .returned (.int .i64 (veilF rs hid)) ∧ w = w' := by
  by_cases hbad : len < 1 ∨ 8 < len ∨ 6 < wid rs
  · have HF := Lib.hid (show veilF rs hid = 1 by unfold veilF; rw [if_pos (by rw [hs.len]; exact hbad)])
    by_cases hz : len < 1
    · have d1 : decide ((len : Int) < 1) = true := by simp; omega
      clear hbad hs hz
      go_enter Try.func63, Try.ntmps63
      go_wp2
      go_ret
      exact ⟨by rw [HF.out]; rfl, rfl⟩
    · have d1 : decide ((len : Int) < 1) = false := by simp; omega
      obtain ⟨b, off, A1, c1, rfl, hb, hc⟩ := hs.first (by omega)
      by_cases h8 : 8 < len
      · have d2 : decide (8 < (len : Int)) = true := by simp; omega
        clear hbad hs hz h8 hc hb
        go_enter Try.func63, Try.ntmps63
        go_wp2
        go_ret
        exact ⟨by rw [HF.out]; rfl, rfl⟩
      · have d2 : decide (8 < (len : Int)) = false := by simp; omega
        have d3 : decide (6 < ((wid rs : Nat) : Int)) = true := by simp; omega
        have hpos : 0 < len := by omega
        clear hbad hs hz h8
        go_enter Try.func63, Try.ntmps63
        go_wp2
        go_ret
        exact ⟨by rw [HF.out]; rfl, rfl⟩
  · have d1 : decide ((len : Int) < 1) = false := by simp; omega
    have d2 : decide (8 < (len : Int)) = false := by simp; omega
    have d3 : decide (6 < ((wid rs : Nat) : Int)) = false := by simp; omega
    have hm6 : wid rs ≤ 6 := by omega
    have HF := Lib.hid (show veilF rs hid = if rs.any (neLen (widI rs)) = true then 3 else if fitB (wid rs) hid then 0 else 4 by unfold veilF; rw [if_neg (by rw [hs.len]; exact hbad)])
    have hpos : 0 < len := by omega
    have hl8 : len ≤ 8 := by omega
    have HL := Lib.hid hs.len
    clear hbad
    obtain ⟨b, off, A1, c1, rfl, hb, hc⟩ := hs.first hpos
    go_enter Try.func63, Try.ntmps63
    go_wp2_with fail
    clear d1 d2 d3
    go_loop [24] (fun t => ∃ q : Nat, q ≤ len ∧ t = .int .i64 q ∧ Hid ((rs.take q).any (neLen (widI rs)) = false)) (fun t => len - (intOf t).toNat)
    case atStart => exact ⟨0, Nat.zero_le _, rfl, Lib.hid rfl⟩
    case round =>
      obtain ⟨q, hq, rfl, hno⟩ := hrel
      by_cases hlt : q < len
      · obtain ⟨b', off', hk, e', hb', cq, _⟩ := hs.get q hlt
        injection e' with e'
        injection e' with e1 e2
        subst e1 e2
        have HS := Lib.hid (any_snoc (neLen (widI rs)) rs q hk)
        have HE := Lib.hid (show neLen (widI rs) rs[q] = true → rs.any (neLen (widI rs)) = true from fun h => List.any_eq_true.2 ⟨_, List.getElem_mem hk, h⟩)
        have HN := Lib.hid (show neLen (widI rs) rs[q] = ((rs[q].2.1 : Int) != ((wid rs : Nat) : Int)) from rfl)
        generalize rs[q] = r at cq HS HE HN
        cases hne : (r.2.1 : Int) != ((wid rs : Nat) : Int)
        · have HV := Lib.hid (HN.out.trans hne)
          go_wp2_with fail
          go_round
          case rel => exact ⟨q + 1, by omega, by go_num, Lib.hid (by rw [HS.out, hno.out, HV.out]; rfl)⟩
          case measure => simp [intOf]; omega
        · have HV := Lib.hid (show veilF rs hid = 3 by rw [HF.out, HE.out (HN.out.trans hne)]; rfl)
          go_wp2_with fail
          go_ret
          exact ⟨by rw [HV.out]; rfl, rfl⟩
      · have HA := Lib.hid (show rs.any (neLen (widI rs)) = false by have h := hno.out; rwa [take_all rs q (by rw [HL.out]; omega)] at h)
        go_wp2_with fail
        refine (fits_any (wid rs) (by omega) hid _).mono ?_
        rintro e w1 ⟨rfl, rfl⟩
        cases hf : fitB (wid rs) hid
        · have HV := Lib.hid (show veilF rs hid = 4 by rw [HF.out, HA.out, hf]; rfl)
          go_wp2_with fail
          go_ret
          exact ⟨by rw [HV.out]; rfl, rfl⟩
        · have HV := Lib.hid (show veilF rs hid = 0 by rw [HF.out, HA.out, hf]; rfl)
          go_wp2_with fail
          go_ret
          exact ⟨by rw [HV.out]; rfl, rfl⟩
theorem veiled_any (A : Option Addr) (len c : Nat) (rs : List Rv) (hid : BitVec 32) (w : World) (hs : SlM w A len rs) :
    Calls Try.prog 31 #[.slice A len c, .int .u32 (W hid)] w fun e w' => e = .returned (.bool (veilF rs hid == 0)) ∧ w = w' := by
  go_enter Try.func31, Try.ntmps31
  go_wp2_with fail
  refine (rowsCheck_any _ _ _ rs hid _ hs).mono ?_
  rintro e w1 ⟨rfl, rfl⟩
  go_wp2_with fail
  go_ret
  exact ⟨rfl, rfl⟩
set_option maxHeartbeats 400000 in
theorem alike_any (A : Option Addr) (n c : Nat) (xs : List Int) (A2 : Option Addr) (c2 : Nat) (ys : List Int) (hid : BitVec 32) (w : World) (hx : SlI w A n xs) (hy : SlI w A2 n ys) (hn : n ≤ 32) :
    Calls Try.prog 86 #[.slice A n c, .slice A2 n c2, .int .u32 (W hid)] w fun e w' => e = .returned (.bool (alikeTo xs ys hid n)) ∧ w = w' := by
  go_enter Try.func86, Try.ntmps86
  go_wp2_with fail
  go_loop [11] (fun t => ∃ k : Nat, k ≤ n ∧ t = .int .i64 k ∧ Hid (alikeTo xs ys hid k = true)) (fun t => n - (intOf t).toNat)
  case atStart => exact ⟨0, Nat.zero_le _, rfl, Lib.hid rfl⟩
  case round =>
    obtain ⟨k, hk, rfl, hall⟩ := hrel
    by_cases hlt : k < n
    · obtain ⟨b, off, rfl, hb, cx⟩ := hx.getN k hlt
      obtain ⟨b2, off2, rfl, hb2, cy⟩ := hy.getN k hlt
      have HS := Lib.hid (alikeTo_succ xs ys hid k)
      have HN := Lib.hid (alikeTo_no (xs := xs) (ys := ys) (hid := hid) hlt)
      generalize iat xs k = x at cx HS HN
      generalize iat ys k = y at cy HS HN
      have hi1 : (0 : Int) ≤ (k : Int) := by omega
      have hi2 : (k : Int) < (n : Int) := by omega
      cases hb1 : hid.getLsbD k
      · cases hne : x != y
        · have HV := Lib.hid (show (hid.getLsbD k || x == y) = true by rw [hb1]; simpa using hne)
          go_wp2_with fail
          go_round
          case rel => exact ⟨k + 1, by omega, by go_num, Lib.hid (by rw [HS.out, hall.out, HV.out]; rfl)⟩
          case measure => simp [intOf]; omega
        · have HV := Lib.hid (HN.out (show (hid.getLsbD k || x == y) = false by rw [hb1]; simpa using hne))
          go_wp2_with fail
          go_ret
          exact ⟨by rw [HV.out]; rfl, rfl⟩
      · have HV := Lib.hid (show (hid.getLsbD k || x == y) = true by rw [hb1]; rfl)
        go_wp2_with fail
        go_round
        case rel => exact ⟨k + 1, by omega, by go_num, Lib.hid (by rw [HS.out, hall.out, HV.out]; rfl)⟩
        case measure => simp [intOf]; omega
    · have HK := Lib.hid (show alikeTo xs ys hid n = true by have h := hall.out; rwa [show k = n by omega] at h)
      go_wp2_with fail
      go_ret
      exact ⟨by rw [HK.out]; rfl, rfl⟩
/-- the rows' numbers -/
def vnums (rs : List Rv) : List (List Int) := rs.map (·.2.2.2)
theorem vnums_at (rs : List Rv) (k : Nat) (h : k < rs.length) : (vnums rs).getD k [] = rs[k].2.2.2 := by
  unfold vnums
  rw [List.getD_eq_getElem?_getD, List.getElem?_map, List.getElem?_eq_getElem h]
  rfl
theorem vnums_len (rs : List Rv) : (vnums rs).length = rs.length := by simp [vnums]
/-- a new slice of numbers -/
def RetInts (w : World) (xs : List Int) (e : Ending) (w' : World) : Prop := ∃ A c, e = .returned (.slice A xs.length c) ∧ SlI w' A xs.length xs ∧ Kept w w'
set_option maxHeartbeats 800000 in
theorem pick_any (m : Nat) (A : Option Addr) (len c : Nat) (rs : List Rv) (hid : BitVec 32) (A2 : Option Addr) (c2 : Nat) (one : List Int) (w : World) (hs : SlM w A len rs) (ho : SlI w A2 m one) (hm : m ≤ 32) (hl : len ≤ 8) (hrl : ∀ r ∈ rs, r.2.1 = m) :
    Calls Try.prog 66 #[.slice A len c, .int .u32 (W hid), .slice A2 m c2] w (RetInts w (pickTo m (vnums rs) hid one len)) := by
  have HRL := Lib.hid hrl
  clear hrl
  go_enter Try.func66, Try.ntmps66
  go_wp2_with fail
  go_loopw [7, 12] (fun v t wr => ∃ k : Nat, k ≤ len ∧ t = .int .i64 k ∧ Own w wr 3 1 v (pickTo m (vnums rs) hid one k).length ((pickTo m (vnums rs) hid one k).map iv)) (fun _ t _ => len - (intOf t).toNat)
  case atStart => exact ⟨0, Nat.zero_le _, rfl, Own.start (Kept.refl _)⟩
  case round =>
    obtain ⟨k, hk, rfl, hown⟩ := hrel
    by_cases hlt : k < len
    · obtain ⟨b, off, hkl, rfl, hb, cq, hrow, _⟩ := (hs.kept hown.2).get k hlt
      have HS := Lib.hid (pickTo_succ m (vnums rs) hid one k)
      have HN := Lib.hid (vnums_at rs k hkl)
      have HM := Lib.hid (HRL.out _ (List.getElem_mem hkl))
      have hle := pickTo_len m (vnums rs) hid one k
      generalize rs[k] = r at cq hrow HN HM
      obtain ⟨Ar, lr, cr, xs⟩ := r
      simp only at cq hrow HN HM
      rw [HM.out] at cq hrow
      go_wp2_with fail
      refine (alike_any _ m _ xs _ _ one hid _ hrow (ho.kept hown.2) hm).mono ?_
      rintro e w3 ⟨rfl, rfl⟩
      cases ha : alikeTo xs one hid m
      · have HA := Lib.hid ha
        go_wp2_with fail
        go_roundw
        case rel => exact ⟨k + 1, by omega, by go_num, by rw [HS.out, HN.out, HA.out]; simpa using hown⟩
        case measure => simp [intOf]; omega
      · have HA := Lib.hid ha
        go_wp2_with (at_builtin; refine wpList_push rfl _ _ 22 rfl 3 Try.underlying22 info_i64 rfl (by decide) (by decide) _ _ _ _ hown #[.int .i64 k] _ _ 1 1 rfl rfl rfl rfl (one_i64 _) (by omega) ?_; intro v' w7 hown7 _)
        go_roundw
        case rel => exact ⟨k + 1, by omega, by go_num, by rw [HS.out, HN.out, HA.out, if_pos rfl, List.length_append, List.map_append]; exact hown7⟩
        case measure => simp [intOf]; omega
    · have HK := Lib.hid (show k = len by omega)
      rw [HK.out] at hown
      obtain ⟨A3, c3, rfl, hsl, _⟩ := hown.form
      have FIN := Lib.hid (show RetInts w (pickTo m (vnums rs) hid one len) (.returned (.slice A3 (pickTo m (vnums rs) hid one len).length c3)) wr from ⟨A3, c3, rfl, ⟨hsl, rfl⟩, hown.2⟩)
      go_wp2_with fail
      go_ret
      exact FIN.out
set_option maxHeartbeats 800000 in
theorem crowd_any (m : Nat) (A : Option Addr) (len c : Nat) (rs : List Rv) (hid : BitVec 32) (w : World) (hs : SlM w A len rs) (hm : m ≤ 32) (hl : len ≤ 8) (hrl : ∀ r ∈ rs, r.2.1 = m) :
    Calls Try.prog 62 #[.slice A len c, .int .u32 (W hid)] w fun e w' => e = .returned (.int .i64 (crowdN m (vnums rs) hid : Nat)) ∧ Kept w w' := by
  have HRL := Lib.hid hrl
  have HL := Lib.hid (show (vnums rs).length = len by rw [vnums_len, hs.len])
  clear hrl
  go_enter Try.func62, Try.ntmps62
  go_wp2_with fail
  go_loopw [5, 12] (fun v t wr => ∃ (k f : Nat), k ≤ len ∧ t = .int .i64 k ∧ v = .int .i64 f ∧ Hid (f = crowdTo m (vnums rs) hid k) ∧ Kept w wr) (fun _ t _ => len - (intOf t).toNat)
  case atStart => exact ⟨0, len, Nat.zero_le _, rfl, rfl, Lib.hid HL.out.symm, Kept.refl _⟩
  case round =>
    obtain ⟨k, f, hk, rfl, rfl, HF, hkw⟩ := hrel
    by_cases hlt : k < len
    · obtain ⟨b, off, hkl, rfl, hb, cq, hrow, _⟩ := (hs.kept hkw).get k hlt
      have HN := Lib.hid (vnums_at rs k hkl)
      have HM := Lib.hid (HRL.out _ (List.getElem_mem hkl))
      generalize rs[k] = r at cq hrow HN HM
      obtain ⟨Ar, lr, cr, xs⟩ := r
      simp only at cq hrow HN HM
      rw [HM.out] at cq hrow
      have HC := Lib.hid (show crowdTo m (vnums rs) hid (k + 1) = min f (pickTo m (vnums rs) hid xs len).length by
        show min _ _ = _
        rw [← HF.out, HN.out]
        unfold pickN
        rw [HL.out])
      go_wp2_with fail
      refine (pick_any m _ _ _ rs hid _ _ xs _ (hs.kept hkw) hrow hm hl HRL.out).mono ?_
      rintro e w3 ⟨A3, c3, rfl, hp, k3⟩
      clear hp
      generalize (pickTo m (vnums rs) hid xs len).length = g at HC
      by_cases hgf : g < f
      · have d1 : decide ((g : Int) < (f : Int)) = true := by simp; omega
        have HV := Lib.hid (show min f g = g by omega)
        go_wp2_with fail
        go_roundw
        case rel => exact ⟨k + 1, g, by omega, by go_num, rfl, Lib.hid (by rw [HC.out, HV.out]), hkw.trans k3⟩
        case measure => simp [intOf]; omega
      · have d1 : decide ((g : Int) < (f : Int)) = false := by simp; omega
        have HV := Lib.hid (show min f g = f by omega)
        go_wp2_with fail
        go_roundw
        case rel => exact ⟨k + 1, f, by omega, by go_num, rfl, Lib.hid (by rw [HC.out, HV.out]), hkw.trans k3⟩
        case measure => simp [intOf]; omega
    · have HV := Lib.hid (show f = crowdN m (vnums rs) hid by rw [HF.out]; unfold crowdN; rw [HL.out, show k = len by omega])
      go_wp2_with fail
      go_ret
      exact ⟨by rw [← HV.out]; rfl, hkw⟩
theorem crowdX_ok (A : Option Addr) (len c : Nat) (rs : List Rv) (hid : BitVec 32) (w : World) (hs : SlM w A len rs) (hc : veilF rs hid = 0) :
    Calls Try.prog 30 #[.slice A len c, .int .u32 (W hid)] w fun e w' => e = .returned (.tuple #[.int .i64 (crowdN (wid rs) (vnums rs) hid : Nat), .int .i64 0]) ∧ Kept w w' := by
  have hz := veilF_zero hc
  have hl8 : len ≤ 8 := by have := hz.1.2.1; rw [hs.len] at this; exact this
  have hm6 := hz.1.2.2
  have HRL := Lib.hid hz.2.1
  have HC := Lib.hid hc
  clear hc hz
  go_enter Try.func30, Try.ntmps30
  go_wp2_with fail
  refine (veilWrong_any _ _ _ rs hid _ hs).mono ?_
  rintro e w1 ⟨rfl, k1⟩
  rw [HC.out]
  go_wp2_with fail
  refine (crowd_any (wid rs) _ _ _ rs hid _ (hs.kept k1) (by omega) hl8 HRL.out).mono ?_
  rintro e w2 ⟨rfl, k2⟩
  go_wp2_with fail
  go_ret2
  exact ⟨rfl, k1.trans k2⟩
theorem crowdX_no (A : Option Addr) (len c : Nat) (rs : List Rv) (hid : BitVec 32) (w : World) (hs : SlM w A len rs) (hc : (veilF rs hid != 0) = true) :
    Calls Try.prog 30 #[.slice A len c, .int .u32 (W hid)] w fun e w' => e = .returned (.tuple #[.int .i64 0, .int .i64 (veilF rs hid)]) ∧ Kept w w' := by
  go_enter Try.func30, Try.ntmps30
  go_wp2_with fail
  refine (veilWrong_any _ _ _ rs hid _ hs).mono ?_
  rintro e w1 ⟨rfl, k1⟩
  go_wp2_with fail
  go_ret2
  exact ⟨rfl, k1⟩
end Go.Proofs.Ytodkpojmonikiaa
