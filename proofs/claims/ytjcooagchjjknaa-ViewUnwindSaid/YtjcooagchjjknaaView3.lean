/- The walk of view.Check. -/
import Derived.Test.YtjcooagchjjknaaView2
import Derived.Test.YtjcooagchjjknaaViewC
namespace Go.Proofs.Ytjcooagchjjknaa
open Go Go.RowKit
set_option linter.unusedVariables false
set_option linter.unusedSimpArgs false

def rx2 (r : Rw2) : Rx := (r.1, r.2.1, r.2.2.1, r.2.2.2.map rwv)
def rx1 (r : Rv) : Rx := (r.1, r.2.1, r.2.2.1, r.2.2.2.map iv)
theorem totR_const {rs : List Rx} {k : Nat} (h : ∀ r ∈ rs, r.2.1 = k) : totR rs = rs.length * k := by
  unfold totR
  induction rs with
  | nil => simp
  | cons r l ih =>
    rw [List.map_cons, List.sum_cons, ih (fun x hx => h x (List.mem_cons_of_mem _ hx)), h r List.mem_cons_self, List.length_cons, Nat.add_mul]
    omega
theorem catR_rx2 (rs : List Rw2) : catR (rs.map rx2) = (rs.flatMap fun r => r.2.2.2).map rwv := by
  unfold catR
  rw [List.flatMap_map, List.map_flatMap]
  rfl
theorem catR_rx1 (rs : List Rv) : catR (rs.map rx1) = (rs.flatMap fun r => r.2.2.2).map iv := by
  unfold catR
  rw [List.flatMap_map, List.map_flatMap]
  rfl
theorem RxOk.of2 {w : World} {r : Rw2} (h : R2Ok w r) : RxOk w (rx2 r) := ⟨h.1.1, fun u hu => by
  obtain ⟨x, _, rfl⟩ := List.mem_map.1 hu
  rfl⟩
theorem RxOk.of1 {w : World} {r : Rv} (h : RowOk w r) : RxOk w (rx1 r) := ⟨h.1.1, fun u hu => by
  obtain ⟨x, _, rfl⟩ := List.mem_map.1 hu
  rfl⟩
theorem goes_any (m : Mc) (l : List Int) : l.all (goesB m) = !(l.any (notGoes m)) := by
  induction l with
  | nil => rfl
  | cons t l ih =>
    rw [List.all_cons, List.any_cons, ih, Bool.not_or]
    congr 1
    unfold goesB notGoes
    rw [Bool.not_or]
    congr 1
    · rw [← decide_not]; congr 1; apply propext; omega
    · rw [← decide_not]; congr 1; apply propext; omega
/-- what a shaped machine's lists are -/
theorem shaped_lists {m : Mc} {w : World} (h : McOk w m) (hb : bigB m = false) (hs : shapedB m = true) : ∃ N U A b o, 1 ≤ N ∧ N ≤ 6 ∧ 1 ≤ U ∧ U ≤ 3 ∧ 1 ≤ A ∧ A ≤ 2 ∧ m.next.1 = some ⟨b, o, none⟩ ∧ m.next.2.1 = N ∧ m.next.2.2.2.length = N ∧ b < w.heap.size ∧ (∀ k (hk : k < (m.next.2.2.2.map rx2).length), w.cell? ⟨b, o + k, none⟩ = some (rxv (m.next.2.2.2.map rx2)[k])) ∧ (∀ r ∈ m.next.2.2.2.map rx2, RxOk w r) ∧ totR (m.next.2.2.2.map rx2) = N * U ∧
    (∀ r ∈ (m.next.2.2.2.flatMap fun x => x.2.2.2).map rx1, RxOk w r) ∧ totR ((m.next.2.2.2.flatMap fun x => x.2.2.2).map rx1) = N * U * A ∧ (m.next.2.2.2.flatMap fun x => x.2.2.2).length = N * U := by
  unfold bigB at hb
  rw [decide_eq_false_iff_not] at hb
  obtain ⟨N, hN⟩ := Int.eq_ofNat_of_zero_le (show 0 ≤ m.n by omega)
  obtain ⟨U, hU⟩ := Int.eq_ofNat_of_zero_le (show 0 ≤ m.us by omega)
  obtain ⟨A, hA⟩ := Int.eq_ofNat_of_zero_le (show 0 ≤ m.as by omega)
  unfold shapedB at hs
  rw [Bool.and_eq_true, Bool.and_eq_true, beq_iff_eq, beq_iff_eq, List.all_eq_true] at hs
  obtain ⟨⟨e1, e2⟩, hst⟩ := hs
  have ln : m.next.2.1 = N := by omega
  have hl : m.next.2.2.2.length = N := by rw [h.1.2.1, ln]
  have hrow : ∀ r ∈ m.next.2.2.2, r.2.1 = U ∧ ∀ r' ∈ r.2.2.2, r'.2.1 = A := by
    intro r hr
    obtain ⟨s, hs, rfl⟩ := List.getElem_of_mem hr
    have er : rowAt m s = m.next.2.2.2[s] := by
      unfold rowAt
      rw [List.getD_eq_getElem?_getD, List.getElem?_eq_getElem hs]
      rfl
    have := hst s (List.mem_range.2 (by omega))
    unfold stB at this
    rw [Bool.and_eq_true, Bool.and_eq_true, beq_iff_eq, beq_iff_eq, List.all_eq_true, er] at this
    refine ⟨by omega, fun r' hr' => ?_⟩
    have := this.2 r' hr'
    unfold actsB at this
    rw [beq_iff_eq] at this
    omega
  have h1 := h.1
  obtain ⟨b, o, hk0, e, hb0, _⟩ := h1.get 0 (by omega)
  have t1 : totR (m.next.2.2.2.map rx2) = N * U := by
    rw [totR_const (k := U), List.length_map, hl]
    intro r hr
    obtain ⟨x, hx, rfl⟩ := List.mem_map.1 hr
    exact (hrow x hx).1
  have t2 : (m.next.2.2.2.flatMap fun x => x.2.2.2).length = N * U := by
    rw [← t1]
    unfold totR
    rw [List.length_flatMap, List.map_map]
    congr 1
    apply List.map_congr_left
    intro x hx
    exact (h1.2.2 x hx).1.2.1
  refine ⟨N, U, A, b, o, by omega, by omega, by omega, by omega, by omega, by omega, e, ln, hl, hb0, ?_, ?_, t1, ?_, ?_, t2⟩
  · intro k hk
    rw [List.length_map] at hk
    obtain ⟨b', o', hk', e', _, hc, _⟩ := h1.get k (by omega)
    rw [e] at e'
    injection e' with e'
    injection e' with ea eb
    subst ea eb
    rw [hc, List.getElem_map]
    rfl
  · intro r hr
    obtain ⟨x, hx, rfl⟩ := List.mem_map.1 hr
    exact RxOk.of2 (h1.2.2 x hx)
  · intro r hr
    obtain ⟨x, hx, rfl⟩ := List.mem_map.1 hr
    obtain ⟨y, hy, hxy⟩ := List.mem_flatMap.1 hx
    exact RxOk.of1 ((h1.2.2 y hy).1.2.2 x hxy)
  · rw [totR_const (k := A), List.length_map, t2]
    intro r hr
    obtain ⟨x, hx, rfl⟩ := List.mem_map.1 hr
    obtain ⟨y, hy, hxy⟩ := List.mem_flatMap.1 hx
    exact (hrow y hy).2 x hxy
set_option maxRecDepth 100000 in
set_option maxHeartbeats 4000000 in
theorem viewCheck_any (m : Mc) (w : World) (h : McOk w m) :
    Calls Try.prog 51 #[.agg (mcA m)] w fun e w' => e = .returned (.int .i64 (viewF m)) ∧ Kept w w' := by
  have hka : Kept w (w.alloc (.cells (mcA m) 63)) := (Kept.refl _).alloc _
  have bx := Box.new w (mcA m) 63 w.heap.size rfl
  have HM := Lib.hid (h.kept hka)
  have HKA := Lib.hid hka
  obtain ⟨w1, hw1⟩ : ∃ w1, w.alloc (.cells (mcA m) 63) = w1 := ⟨_, rfl⟩
  rw [hw1] at bx HM HKA
  have HBX := Lib.hid bx
  have b0 : w1.cell? ⟨w.heap.size, 0, none⟩ = some (.int .i64 m.n) := bx.at_ 0 rfl
  have b1 : w1.cell? ⟨w.heap.size, 1, none⟩ = some (.int .i64 m.us) := bx.at_ 1 rfl
  have b2 : w1.cell? ⟨w.heap.size, 2, none⟩ = some (.int .i64 m.as) := bx.at_ 2 rfl
  have b3 := bx.at_ 3 (u := .slice m.next.1 m.next.2.1 m.next.2.2.1) rfl
  have b4 := bx.at_ 4 (u := .slice m.sees.1 m.sees.2.1 m.sees.2.2.1) rfl
  have HSC := Lib.hid (fun hb => shaped_any m w1 HM.out hb)
  have HVF := Lib.hid (show viewF m = if bigB m = true then 1 else if shapedB m = false then 3 else if (allTo m).all (goesB m) = false then 2 else 0 from rfl)
  have HBB := Lib.hid (show bigB m = decide (m.n < 1 ∨ 6 < m.n ∨ m.us < 1 ∨ 3 < m.us ∨ m.as < 1 ∨ 2 < m.as) from rfl)
  clear h hka bx
  unfold mcA at hw1 HSC ⊢
  generalize hv : viewF m = vf at HVF ⊢
  clear hv
  cases hbg : bigB m with
  | true =>
    have HR := Lib.hid (show vf = 1 by rw [HVF.out, hbg]; rfl)
    have hor : m.n < 1 ∨ 6 < m.n ∨ m.us < 1 ∨ 3 < m.us ∨ m.as < 1 ∨ 2 < m.as := by rw [HBB.out] at hbg; simpa using hbg
    clear hbg HSC HVF HBB
    generalize m.n = mn at b0 hw1 hor ⊢
    generalize m.us = mu at b1 hw1 hor ⊢
    generalize m.as = ma at b2 hw1 hor ⊢
    have HOR := Lib.hid hor
    clear hor
    cases c0 : decide (mn < 1)
    case true => (go_enter Try.func51, Try.ntmps51; go_wp2_with fail; go_ret; exact ⟨by rw [HR.out]; rfl, HKA.out⟩)
    cases c1 : decide (6 < mn)
    case true => (go_enter Try.func51, Try.ntmps51; go_wp2_with fail; go_ret; exact ⟨by rw [HR.out]; rfl, HKA.out⟩)
    cases c2 : decide (mu < 1)
    case true => (go_enter Try.func51, Try.ntmps51; go_wp2_with fail; go_ret; exact ⟨by rw [HR.out]; rfl, HKA.out⟩)
    cases c3 : decide (3 < mu)
    case true => (go_enter Try.func51, Try.ntmps51; go_wp2_with fail; go_ret; exact ⟨by rw [HR.out]; rfl, HKA.out⟩)
    cases c4 : decide (ma < 1)
    case true => (go_enter Try.func51, Try.ntmps51; go_wp2_with fail; go_ret; exact ⟨by rw [HR.out]; rfl, HKA.out⟩)
    cases c5 : decide (2 < ma)
    case true => (go_enter Try.func51, Try.ntmps51; go_wp2_with fail; go_ret; exact ⟨by rw [HR.out]; rfl, HKA.out⟩)
    exfalso
    simp only [decide_eq_false_iff_not] at c0 c1 c2 c3 c4 c5
    have := HOR.out
    omega
  | false =>
    have hno : ¬(m.n < 1 ∨ 6 < m.n ∨ m.us < 1 ∨ 3 < m.us ∨ m.as < 1 ∨ 2 < m.as) := by rw [HBB.out] at hbg; simpa using hbg
    have d0 : decide (m.n < 1) = false := by rw [decide_eq_false_iff_not]; omega
    have d1 : decide (6 < m.n) = false := by rw [decide_eq_false_iff_not]; omega
    have d2 : decide (m.us < 1) = false := by rw [decide_eq_false_iff_not]; omega
    have d3 : decide (3 < m.us) = false := by rw [decide_eq_false_iff_not]; omega
    have d4 : decide (m.as < 1) = false := by rw [decide_eq_false_iff_not]; omega
    have d5 : decide (2 < m.as) = false := by rw [decide_eq_false_iff_not]; omega
    have HBG := Lib.hid hbg
    have HSC2 := Lib.hid (HSC.out hbg)
    clear hbg HSC HBB hno
    go_enter Try.func51, Try.ntmps51
    go_wp2_with fail
    refine HSC2.out.mono ?_
    rintro e w2 ⟨rfl, hk2⟩
    cases hsb : shapedB m with
    | false =>
      have HR := Lib.hid (show vf = 3 by rw [HVF.out, HBG.out, hsb]; rfl)
      clear hsb
      go_wp2_with fail
      go_ret
      exact ⟨by rw [HR.out]; rfl, HKA.out.trans hk2⟩
    | true =>
      obtain ⟨N, U, A, b, o, p1, p2, p3, p4, p5, p6, en, ln, ll, hb, hc1, hr1, ht1, hr2, ht2, hl2⟩ := shaped_lists (HM.out.kept hk2) HBG.out hsb
      have HL := Lib.hid (goes_any m (allTo m))
      have HR := Lib.hid (show vf = if (allTo m).all (goesB m) = false then 2 else 0 by rw [HVF.out, HBG.out, hsb]; rfl)
      have hm1 : N * U ≤ 18 := Nat.mul_le_mul p2 p4
      have hm2 : N * U * A ≤ 36 := Nat.mul_le_mul hm1 p6
      have hm3 : 0 < N * U := Nat.mul_pos (by omega) (by omega)
      have hm4 : 0 < N * U * A := Nat.mul_pos hm3 (by omega)
      have HC := Lib.hid (concat_rows b o N m.next.2.2.1 (m.next.2.2.2.map rx2) w2 hb (by rw [List.length_map]; exact ll) hc1 hr1 (by omega) (by omega) (by omega))
      have HR2 := Lib.hid hr2
      have HT2 := Lib.hid ht2
      have HL2 := Lib.hid hl2
      rw [ht1, catR_rx2] at HC
      have q3 := (hk2.cell (p := ⟨w.heap.size, 3, none⟩) HBX.out.1).trans b3
      have q0 := (hk2.cell (p := ⟨w.heap.size, 0, none⟩) HBX.out.1).trans b0
      have HQ0 := Lib.hid q0
      have HBL2 := Lib.hid (Nat.lt_of_lt_of_le HBX.out.1 hk2.size)
      have HAT := Lib.hid (show allTo m = (m.next.2.2.2.flatMap fun x => x.2.2.2).flatMap fun r => r.2.2.2 from rfl)
      have HK2 := Lib.hid hk2
      rw [en, ln] at q3
      clear hsb hc1 hr1 ht1 hr2 ht2 hl2 b0 b1 b2 b3 b4 hk2
      generalize (m.next.2.2.2.flatMap fun x => x.2.2.2) = rows at HR2 HT2 HL2 HC HAT
      generalize hNU : N * U = NU at *
      clear hNU
      generalize hNA : NU * A = NA at *
      clear hNA
      go_wp2_with fail
      refine HC.out.mono ?_
      rintro e w3 ⟨A1, c1, rfl, hown1⟩
      have hform := hown1.form
      have hsl1 := own_sl1 hown1
      obtain ⟨b1, o1, rfl, hb1, hcs1⟩ := hsl1.2 (by omega)
      have HC2 := Lib.hid (concat_ints b1 o1 NU c1 (rows.map rx1) w3 hb1 (by rw [List.length_map]; exact HL2.out) (by
        intro k hk
        rw [List.length_map] at hk
        have := hcs1 k (rxv (rows.map rx1)[k]) (by rw [List.getElem?_map, List.getElem?_eq_getElem hk, List.getElem_map]; rfl)
        simpa using this) (fun r hr => (HR2.out r hr).kept hown1.kept0) (by omega) (by rw [HT2.out]; exact hm4) (by rw [HT2.out]; omega))
      rw [HT2.out, catR_rx1, ← HAT.out] at HC2
      have HK3 := Lib.hid hown1.kept0
      clear hform hsl1 hcs1 hown1
      go_wp2_with fail
      refine HC2.out.mono ?_
      rintro e w4 ⟨A2, c2, rfl, hown2⟩
      have hsl2 := own_sl1 hown2
      have HK4 := Lib.hid hown2.kept0
      have HV := Lib.hid (vckContains_any m w.heap.size A2 NA c2 (allTo m) w4 ⟨hsl2, by have := hsl2.1; simpa using this⟩ (by omega) ((hown2.kept0.cell (p := ⟨w.heap.size, 0, none⟩) (Nat.lt_of_lt_of_le HBL2.out HK3.out.size)).trans ((HK3.out.cell (p := ⟨w.heap.size, 0, none⟩) HBL2.out).trans HQ0.out)))
      clear hsl2 hown2
      cases hany : (allTo m).any (notGoes m) with
      | true =>
        have HE := Lib.hid (show vf = 2 by rw [HR.out, HL.out, hany]; rfl)
        rw [hany] at HV
        clear hany
        go_wp2_with fail
        refine HV.out.mono ?_
        rintro e w5 ⟨rfl, rfl⟩
        go_wp2_with fail
        go_ret
        exact ⟨by rw [HE.out]; rfl, HKA.out.trans (HK2.out.trans (HK3.out.trans HK4.out))⟩
      | false =>
        have HE := Lib.hid (show vf = 0 by rw [HR.out, HL.out, hany]; rfl)
        rw [hany] at HV
        clear hany
        go_wp2_with fail
        refine HV.out.mono ?_
        rintro e w5 ⟨rfl, rfl⟩
        go_wp2_with fail
        go_ret
        exact ⟨by rw [HE.out]; rfl, HKA.out.trans (HK2.out.trans (HK3.out.trans HK4.out))⟩
end Go.Proofs.Ytjcooagchjjknaa
