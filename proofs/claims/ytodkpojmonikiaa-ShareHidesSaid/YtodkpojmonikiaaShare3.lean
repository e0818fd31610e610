/- The walk of share.Join, at shares that were dealt. -/
import Derived.Test.YtodkpojmonikiaaShare2
namespace Go.Proofs.Ytodkpojmonikiaa
open Go Go.RowKit
set_option linter.unusedVariables false

/-- no part is that -/
def badV (x : Int) : Bool := decide (x < -1) || decide (255 < x)
theorem joinV1_any (x : Int) (w : World) : Calls Try.prog 75 #[.int .i64 x] w fun e w' => e = .returned (.bool (badV x)) ∧ w = w' := by
  have HB := Lib.hid (show badV x = (decide (x < -1) || decide (255 < x)) from rfl)
  cases h1 : decide (x < -1)
  · go_enter Try.func75, Try.ntmps75
    go_wp2
    go_ret
    exact ⟨by rw [HB.out, h1]; rfl, rfl⟩
  · go_enter Try.func75, Try.ntmps75
    go_wp2
    go_ret
    exact ⟨by rw [HB.out, h1]; rfl, rfl⟩
theorem joinVIndex_any  (A : Option Addr) (n c : Nat) (xs : List Int) (w : World) (hs : SlI w A n xs) (hn : n ≤ 1000)  :
    Calls Try.prog 91 #[.slice A n c, .func (.func 75) #[] #[]] w fun e w' => e = .returned (.int .i64 (firstI badV xs)) ∧ w = w' := by
  go_enter Try.func91, Try.ntmps91
  go_wp2_with fail
  go_loop [8] (fun t => ∃ q : Nat, q ≤ n ∧ t = .int .i64 q ∧ Hid ((xs.take q).any badV = false)) (fun t => n - (intOf t).toNat)
  case atStart => exact ⟨0, Nat.zero_le _, rfl, Lib.hid rfl⟩
  case round =>
    obtain ⟨q, hq, rfl, HN⟩ := hrel
    by_cases hlt : q < n
    · obtain ⟨b, off, hk, rfl, hb, cq⟩ := hs.get q hlt
      have hsn := Lib.hid (any_snoc badV xs q hk)
      have hhit := Lib.hid (firstI_hit badV xs q hk HN.out)
      cases hb1 : badV xs[q]
      · have HB := Lib.hid hb1
        clear hb1
        go_wp2_with fail
        refine (joinV1_any _ _).mono ?_
        rintro e w' ⟨rfl, rfl⟩
        rw [HB.out]
        go_wp2_with fail
        go_round
        case rel => exact ⟨q + 1, by omega, by go_num, Lib.hid (by rw [hsn.out, HN.out, HB.out]; rfl)⟩
        case measure => simp [intOf]; omega
      · have HB := Lib.hid hb1
        clear hb1
        go_wp2_with fail
        refine (joinV1_any _ _).mono ?_
        rintro e w' ⟨rfl, rfl⟩
        rw [HB.out]
        go_wp2_with fail
        go_ret
        exact ⟨by rw [hhit.out HB.out]; rfl, rfl⟩
    · have HK := Lib.hid (take_all xs q (by rw [hs.2]; omega))
      go_wp2_with fail
      go_ret
      exact ⟨by rw [firstI_none _ _ (by rw [← HK.out]; exact HN.out)]; rfl, rfl⟩
theorem joinVContains_any  (A : Option Addr) (n c : Nat) (xs : List Int) (w : World) (hs : SlI w A n xs) (hn : n ≤ 1000)  :
    Calls Try.prog 74 #[.slice A n c, .func (.func 75) #[] #[]] w fun e w' => e = .returned (.bool (xs.any badV)) ∧ w = w' := by
  have H := Lib.hid (firstI_ge badV xs)
  go_enter Try.func74, Try.ntmps74
  go_wp2_with fail
  refine (joinVIndex_any  _ _ _ xs _ hs hn ).mono ?_
  rintro e w' ⟨rfl, rfl⟩
  go_wp2_with fail
  go_ret
  exact ⟨by rw [← H.out]; rfl, rfl⟩

def badR (r : Rv) : Bool := r.2.2.2.any badV
theorem joinR1_any (p : Addr) (A0 : Option Addr) (n0 c0 : Nat) (r : Rv) (w : World) (hp : w.cell? p = some (.slice A0 n0 c0)) (hr : RowOk w r) (hl : r.2.1 = n0) (hn : n0 ≤ 1000) :
    Calls Try.prog 73 #[.slice r.1 r.2.1 r.2.2.1, .pointer (some p)] w fun e w' => e = .returned (.bool (badR r)) ∧ w = w' := by
  obtain ⟨A, m, c, xs⟩ := r
  have hl : m = n0 := hl
  subst hl
  have hs : SlI w A m xs := hr.1
  have HB := Lib.hid (show badR (A, m, c, xs) = xs.any badV from rfl)
  have hne : ((m : Int) != (m : Int)) = false := by simp
  clear hr
  show Calls Try.prog 73 #[.slice A m c, .pointer (some p)] w _
  go_enter Try.func73, Try.ntmps73
  go_wp2_with fail
  refine (joinVContains_any A m c xs _ hs hn).mono ?_
  rintro e w' ⟨rfl, rfl⟩
  go_wp2_with fail
  go_ret
  exact ⟨by rw [HB.out]; rfl, rfl⟩
theorem joinRIndex_any (p : Addr) (A0 : Option Addr) (n0 c0 : Nat) (A : Option Addr) (n c : Nat) (xs : List Rv) (w : World) (hs : SlM w A n xs) (hn : n ≤ 1000) (hp : w.cell? p = some (.slice A0 n0 c0)) (hall : Hid (∀ r ∈ xs, r.2.1 = n0)) (hn0 : n0 ≤ 1000) :
    Calls Try.prog 92 #[.slice A n c, .func (.func 73) #[] #[.pointer (some p)]] w fun e w' => e = .returned (.int .i64 (firstI badR xs)) ∧ w = w' := by
  go_enter Try.func92, Try.ntmps92
  go_wp2_with fail
  go_loop [8] (fun t => ∃ q : Nat, q ≤ n ∧ t = .int .i64 q ∧ Hid ((xs.take q).any badR = false)) (fun t => n - (intOf t).toNat)
  case atStart => exact ⟨0, Nat.zero_le _, rfl, Lib.hid rfl⟩
  case round =>
    obtain ⟨q, hq, rfl, HN⟩ := hrel
    by_cases hlt : q < n
    · obtain ⟨b, off, hk, rfl, hb, cq, hrow⟩ := hs.get q hlt
      have hsn := Lib.hid (any_snoc badR xs q hk)
      have hhit := Lib.hid (firstI_hit badR xs q hk HN.out)
      cases hb1 : badR xs[q]
      · have HB := Lib.hid hb1
        clear hb1
        go_wp2_with fail
        refine (joinR1_any p A0 n0 c0 xs[q] _ hp hrow (hall.out xs[q] (List.getElem_mem hk)) hn0).mono ?_
        rintro e w' ⟨rfl, rfl⟩
        rw [HB.out]
        go_wp2_with fail
        go_round
        case rel => exact ⟨q + 1, by omega, by go_num, Lib.hid (by rw [hsn.out, HN.out, HB.out]; rfl)⟩
        case measure => simp [intOf]; omega
      · have HB := Lib.hid hb1
        clear hb1
        go_wp2_with fail
        refine (joinR1_any p A0 n0 c0 xs[q] _ hp hrow (hall.out xs[q] (List.getElem_mem hk)) hn0).mono ?_
        rintro e w' ⟨rfl, rfl⟩
        rw [HB.out]
        go_wp2_with fail
        go_ret
        exact ⟨by rw [hhit.out HB.out]; rfl, rfl⟩
    · have HK := Lib.hid (take_all xs q (by rw [hs.2.1]; omega))
      go_wp2_with fail
      go_ret
      exact ⟨by rw [firstI_none _ _ (by rw [← HK.out]; exact HN.out)]; rfl, rfl⟩
theorem joinRContains_any (p : Addr) (A0 : Option Addr) (n0 c0 : Nat) (A : Option Addr) (n c : Nat) (xs : List Rv) (w : World) (hs : SlM w A n xs) (hn : n ≤ 1000) (hp : w.cell? p = some (.slice A0 n0 c0)) (hall : Hid (∀ r ∈ xs, r.2.1 = n0)) (hn0 : n0 ≤ 1000) :
    Calls Try.prog 76 #[.slice A n c, .func (.func 73) #[] #[.pointer (some p)]] w fun e w' => e = .returned (.bool (xs.any badR)) ∧ w = w' := by
  have H := Lib.hid (firstI_ge badR xs)
  go_enter Try.func76, Try.ntmps76
  go_wp2_with fail
  refine (joinRIndex_any p A0 n0 c0 _ _ _ xs _ hs hn hp hall hn0).mono ?_
  rintro e w' ⟨rfl, rfl⟩
  go_wp2_with fail
  go_ret
  exact ⟨by rw [← H.out]; rfl, rfl⟩

theorem badV_shV (L : List (BitVec 32)) (p : List By) (i k : Nat) : badV (shV L p i k) = false := by
  unfold shV badV
  split
  · rfl
  · have := (bth p k).isLt
    simp
    omega
theorem rows_ok {n : Nat} {L : List (BitVec 32)} {p : List By} {rows : List Rv} (h : rows.map (·.2.2.2) = (List.range n).map (shRow L p)) : rows.any badR = false := by
  rw [List.any_eq_false]
  intro r hr
  have : r.2.2.2 ∈ rows.map (·.2.2.2) := List.mem_map.2 ⟨r, hr, rfl⟩
  rw [h] at this
  obtain ⟨i, _, e⟩ := List.mem_map.1 this
  unfold badR
  rw [← e, Bool.not_eq_true, List.any_eq_false]
  intro x hx
  unfold shRow at hx
  obtain ⟨k, _, rfl⟩ := List.mem_map.1 hx
  rw [badV_shV]
  simp
theorem rows_len {w : World} {A : Option Addr} {n : Nat} {L : List (BitVec 32)} {p : List By} {rows : List Rv} (hs : SlM w A n rows) (h : rows.map (·.2.2.2) = (List.range n).map (shRow L p)) : ∀ r ∈ rows, r.2.1 = L.length := by
  intro r hr
  have h1 := (hs.2.2 r hr).1.2
  have : r.2.2.2 ∈ rows.map (·.2.2.2) := List.mem_map.2 ⟨r, hr, rfl⟩
  rw [h] at this
  obtain ⟨i, _, e⟩ := List.mem_map.1 this
  rw [← h1, ← e]
  simp [shRow]
theorem rows_at {n i : Nat} {L : List (BitVec 32)} {p : List By} {rows : List Rv} (h : rows.map (·.2.2.2) = (List.range n).map (shRow L p)) (hi : i < rows.length) (hin : i < n) : rows[i].2.2.2 = shRow L p i := by
  have h1 : (rows.map (·.2.2.2))[i]? = some rows[i].2.2.2 := by rw [List.getElem?_map, List.getElem?_eq_getElem hi]; rfl
  rw [h, List.getElem?_map, List.getElem?_range hin] at h1
  exact (Option.some.inj h1).symm
theorem shRow_at (L : List (BitVec 32)) (p : List By) (i : Nat) {k : Nat} (hk : k < L.length) : iat (shRow L p i) k = shV L p i k := by
  have hl : k < (shRow L p i).length := by simpa [shRow] using hk
  rw [iat_eq _ _ hl]
  simp [shRow]
/-- what Join hands back -/
def joinF (L : List (BitVec 32)) (n : Nat) (sets : List (BitVec 32)) (s : By) (who : BitVec 32) : Int × Int :=
  if fitB n who = false then (0, 4) else if lostB sets who then (0, 7) else (B8 s, 0)
set_option maxRecDepth 100000 in
set_option maxHeartbeats 4000000 in
theorem join_good (n : Nat) (A : Option Addr) (len c : Nat) (sets : List (BitVec 32)) (s : By) (d : List By) (A3 : Option Addr) (c3 : Nat) (rows : List Rv) (who : BitVec 32) (w : World) (hs : SlW w A len sets) (hr : SlM w A3 n rows)
    (h0 : setsF n sets = 0) (hno : noneB n (mostL n sets) = false) (hm : d.length + 1 = (mostL n sets).length) (hrows : rows.map (·.2.2.2) = (List.range n).map (shRow (mostL n sets) (partsF s d))) :
    Calls Try.prog 40 #[.int .i64 n, .slice A len c, .slice A3 n c3, .int .u32 (W who)] w fun e w' => e = .returned (.tuple #[.int .i64 (joinF (mostL n sets) n sets s who).1, .int .i64 (joinF (mostL n sets) n sets s who).2]) ∧ Kept w w' := by
  obtain ⟨nn, e, hn1, hn6, _, _⟩ := setsF_zero h0
  obtain rfl : n = nn := by omega
  clear e
  have H0 := Lib.hid h0
  have HNO := Lib.hid hno
  have hmost : (mostL n sets).length ≤ 64 := by
    have h1 : (mostL n sets).length ≤ (words n).length := List.length_filter_le _ _
    rw [words_length] at h1
    have := pow_le n hn6
    omega
  have HLEN := Lib.hid (rows_len hr hrows)
  have HOKR := Lib.hid (rows_ok hrows)
  have HRL := Lib.hid hr.2.1
  have HROWS := Lib.hid hrows
  have HLOST := Lib.hid (fun (hf : fitB n who = true) => lost_iff_most (n := n) (sets := sets) (by omega) hf)
  have HPD := Lib.hid (fun (hf : fitB n who = true) k => partTo_done (L := mostL n sets) (p := partsF s d) hf k)
  have HPL := Lib.hid (show (partsF s d).length = (mostL n sets).length by rw [partsF_length, hm])
  have HALL := Lib.hid (parts_all s d)
  have HJ := Lib.hid (show joinF (mostL n sets) n sets s who = if fitB n who = false then (0, 4) else if lostB sets who then (0, 7) else (B8 s, 0) from rfl)
  clear h0 hno hm hrows
  obtain ⟨P, hP⟩ : ∃ P, partsF s d = P := ⟨_, rfl⟩
  obtain ⟨L, hL⟩ : ∃ L, mostL n sets = L := ⟨_, rfl⟩
  rw [hL] at HNO hmost HLEN HROWS HLOST HPD HPL HJ ⊢
  rw [hP] at HROWS HPD HPL HALL
  have HLL := Lib.hid hL
  clear hL hP
  obtain ⟨R, hR⟩ : ∃ R, joinF L n sets s who = R := ⟨_, rfl⟩
  rw [hR] at HJ ⊢
  clear hR
  go_enter Try.func40, Try.ntmps40
  go_wp2_with fail
  refine (lost_any n A len c sets _ hs).mono ?_
  rintro e w1 ⟨k1, ⟨hz, _⟩ | ⟨_, A1, c1, rfl, hl⟩⟩
  · rw [H0.out] at hz; cases hz
  rw [Int.toNat_natCast, HLL.out] at hl ⊢
  have hka : Kept w1 (w1.alloc (.cells #[.slice A1 L.length c1] 40)) := (Kept.refl _).alloc _
  have bx := Box.new w1 #[.slice A1 L.length c1] 40 w1.heap.size rfl
  have cb := bx.at_ 0 rfl
  have hbl := bx.1
  have hl1000 : L.length ≤ 1000 := by omega
  have HS1 := Lib.hid (hl.kept hka)
  have HRW := Lib.hid (hr.kept (k1.trans hka))
  have K1 := Lib.hid (k1.trans hka)
  obtain ⟨w2, hw2⟩ : ∃ w2, w1.alloc (.cells #[.slice A1 L.length c1] 40) = w2 := ⟨_, rfl⟩
  rw [hw2] at cb hbl HS1 HRW K1
  have hnn : ((n : Int) != (n : Int)) = false := by simp
  clear bx hka k1 hl hr hs
  go_wp2_with fail
  refine (none_any n hn6 A1 c1 L _ HS1.out hl1000 false HNO.out).mono ?_
  rintro e w3 ⟨rfl, k3⟩
  have cb3 := (k3.cell (p := ⟨w1.heap.size, 0, none⟩) hbl).trans cb
  have HS3 := Lib.hid (HS1.out.kept k3)
  have HR3 := Lib.hid (HRW.out.kept k3)
  have K3 := Lib.hid (K1.out.trans k3)
  clear k3 cb hbl
  go_wp2_with fail
  refine (joinRContains_any ⟨w1.heap.size, 0, none⟩ A1 L.length c1 A3 n c3 rows _ HR3.out (by omega) cb3 HLEN hl1000).mono ?_
  rintro e w4 ⟨rfl, rfl⟩
  rw [HOKR.out]
  cases hfit : fitB n who
  · have FIN := Lib.hid (show R = (0, 4) by rw [HJ.out, hfit]; rfl)
    have hn31 : n ≤ 31 := by omega
    go_wp2_with fail
    go_ret2
    exact ⟨by rw [FIN.out]; rfl, K3.out⟩
  · have HF := Lib.hid hfit
    have hn31 : n ≤ 31 := by omega
    go_wp2_with fail
    go_loop [13, 50] (fun o t => ∃ k : Nat, k ≤ L.length ∧ t = .int .i64 k ∧ o = .int .i64 (B8 (xorF 0#8 (P.take k))) ∧ Hid (∀ j, j < k → subB who (nth L j) = false)) (fun _ t => L.length - (intOf t).toNat)
    case atStart => exact ⟨0, Nat.zero_le _, rfl, rfl, Lib.hid (fun j hj => absurd hj (Nat.not_lt_zero _))⟩
    case round =>
      obtain ⟨k, hk, rfl, rfl, HN⟩ := hrel
      by_cases hlt : k < L.length
      · have HLT := Lib.hid hlt
        have HXT := Lib.hid (xorF_take 0#8 P k (by rw [HPL.out]; exact hlt))
        go_wp2_with fail
        go_loop [15, 55] (fun p t => ∃ i : Nat, i ≤ n ∧ t = .int .i64 i ∧ p = .int .i64 (partTo L P who k i)) (fun _ t => n - (intOf t).toNat)
        case atStart => exact ⟨0, Nat.zero_le _, rfl, rfl⟩
        case round =>
          obtain ⟨i, hi, rfl, rfl⟩ := hrel
          by_cases hlt2 : i < n
          · obtain ⟨br, or_, hil, rfl, hbr, cr, hrow⟩ := HR3.out.get i hlt2
            have hrl := HLEN.out _ (List.getElem_mem hil)
            have hra := rows_at HROWS.out hil hlt2
            have HPS := Lib.hid (show partTo L P who k (i + 1) = if who.getLsbD i && decide (partTo L P who k i < 0) then shV L P i k else partTo L P who k i from rfl)
            generalize rows[i] = r at hrl hra hrow cr
            obtain ⟨Ai, mi, ci, xs⟩ := r
            have hrl2 : mi = L.length := hrl
            have hra2 : xs = shRow L P i := hra
            have hsi : SlI w3 Ai mi xs := hrow.1
            have cr2 : w3.cell? ⟨br, or_ + i, none⟩ = some (.slice Ai mi ci) := cr
            clear hrow hra hrl cr
            subst hrl2
            obtain ⟨bx, ox, rfl, hbx, cx⟩ := hsi.getN k hlt
            rw [hra2, shRow_at L P i hlt] at cx
            generalize partTo L P who k i = q at HPS ⊢
            generalize shV L P i k = z at cx HPS
            have i1 : (0 : Int) ≤ (i : Int) := by omega
            have i2 : (i : Int) < (n : Int) := by omega
            have i3 : (0 : Int) ≤ (k : Int) := by omega
            have hkl := HLT.out
            have i4 : (k : Int) < (L.length : Int) := by omega
            have hi31 : i ≤ 31 := by omega
            clear hsi hra2 hkl
            cases hb : who.getLsbD i
            · have HE := Lib.hid (show partTo L P who k (i + 1) = q by rw [HPS.out, hb]; rfl)
              go_wp2_with fail
              go_round
              case rel => exact ⟨i + 1, by omega, by go_num, by rw [HE.out]⟩
              case measure => simp [intOf]; omega
            · cases hq : decide (q < 0)
              · have HE := Lib.hid (show partTo L P who k (i + 1) = q by rw [HPS.out, hb, hq]; rfl)
                go_wp2_with fail
                go_round
                case rel => exact ⟨i + 1, by omega, by go_num, by rw [HE.out]⟩
                case measure => simp [intOf]; omega
              · have HE := Lib.hid (show partTo L P who k (i + 1) = z by rw [HPS.out, hb, hq]; rfl)
                go_wp2_with fail
                go_round
                case rel => exact ⟨i + 1, by omega, by go_num, by rw [HE.out]⟩
                case measure => simp [intOf]; omega
          · obtain rfl : i = n := by omega
            have hpd := HPD.out HF.out k
            rw [hpd]
            have hkl := HLT.out
            cases hsub : subB who (nth L k)
            · have HSUB := Lib.hid hsub
              have e1 : (if (false = true) then (-1 : Int) else ((bth P k).toNat : Int)) = B8 (bth P k) := rfl
              rw [e1]
              clear hpd hsub e1
              go_wp2_with fail
              go_round
              case rel => exact ⟨k + 1, by omega, by go_num, by rw [HXT.out], Lib.hid (fun j hj => by
                by_cases e : j = k
                · subst e; exact HSUB.out
                · exact HN.out j (by omega))⟩
              case measure => simp [intOf]; omega
            · have e1 : (if (true = true) then (-1 : Int) else ((bth P k).toNat : Int)) = -1 := rfl
              have FIN := Lib.hid (show R = (0, 7) by
                have hl2 : lostB sets who = true := (HLOST.out HF.out).2 ⟨k, hkl, hsub⟩
                rw [HJ.out, HF.out, hl2]; rfl)
              rw [e1]
              clear hpd hsub e1
              go_wp2_with fail
              go_ret2
              exact ⟨by rw [FIN.out]; rfl, K3.out⟩
      · obtain rfl : k = L.length := by omega
        have HTK := Lib.hid (show P.take L.length = P from take_all _ _ (by rw [HPL.out]; omega))
        have FIN := Lib.hid (show R = (B8 s, 0) by
          have hl2 : lostB sets who = false := by
            cases hl2 : lostB sets who
            · rfl
            · obtain ⟨j, hj, hs⟩ := (HLOST.out HF.out).1 hl2
              rw [HN.out j hj] at hs
              cases hs
          rw [HJ.out, HF.out, hl2]; rfl)
        rw [HTK.out, HALL.out]
        go_wp2_with fail
        go_ret2
        exact ⟨by rw [FIN.out]; rfl, K3.out⟩
end Go.Proofs.Ytodkpojmonikiaa
