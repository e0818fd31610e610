/- The walk of the statement ViewUnwind (printed by genviewunwind.py). -/
import Derived.Test.YtjcooagchjjknaaView14
namespace Go.Proofs.Ytjcooagchjjknaa
open Go Go.RowKit
set_option linter.unusedVariables false
set_option linter.unusedSimpArgs false

/-- does an act of a hidden one leave the part? -/
def stayB (nx : Nx) (hid : BitVec 32) (p : Nat → Nat) (s u a : Nat) : Bool := !hid.getLsbD u || p (nx s u a) == p s
def stillTo (U A : Nat) (nx : Nx) (hid : BitVec 32) (p : Nat → Nat) (s u a : Nat) : Bool := ((List.range s).all fun i => (List.range U).all fun c => (List.range A).all fun d => stayB nx hid p i c d) && (((List.range u).all fun c => (List.range A).all fun d => stayB nx hid p s c d) && (List.range a).all fun d => stayB nx hid p s u d)
theorem stillTo_act (U A : Nat) (nx : Nx) (hid : BitVec 32) (p : Nat → Nat) (s u a : Nat) : stillTo U A nx hid p s u (a + 1) = (stillTo U A nx hid p s u a && stayB nx hid p s u a) := by
  unfold stillTo
  rw [all_rangeV (fun d => stayB nx hid p s u d) a, Bool.and_assoc, Bool.and_assoc]
theorem stillTo_user (U A : Nat) (nx : Nx) (hid : BitVec 32) (p : Nat → Nat) (s u : Nat) : stillTo U A nx hid p s (u + 1) 0 = stillTo U A nx hid p s u A := by
  unfold stillTo
  rw [all_rangeV (fun c => (List.range A).all fun d => stayB nx hid p s c d) u]
  simp
theorem stillTo_state (U A : Nat) (nx : Nx) (hid : BitVec 32) (p : Nat → Nat) (s : Nat) : stillTo U A nx hid p (s + 1) 0 0 = stillTo U A nx hid p s U 0 := by
  unfold stillTo
  rw [all_rangeV (fun i => (List.range U).all fun c => (List.range A).all fun d => stayB nx hid p i c d) s]
  simp
theorem stillTo_all {N U A : Nat} {nx : Nx} {hid : BitVec 32} {p : Nat → Nat} (h : stillTo U A nx hid p N 0 0 = true) : ∀ s u a, s < N → u < U → a < A → hid.getLsbD u = true → p (nx s u a) = p s := by
  intro s u a hs hu ha hb
  unfold stillTo at h
  rw [Bool.and_eq_true] at h
  have h1 := List.all_eq_true.1 h.1 s (List.mem_range.2 hs)
  have h2 := List.all_eq_true.1 h1 u (List.mem_range.2 hu)
  have h3 := List.all_eq_true.1 h2 a (List.mem_range.2 ha)
  unfold stayB at h3
  rw [hb] at h3
  simpa using h3
set_option maxRecDepth 100000 in
set_option maxHeartbeats 8000000 in
theorem viewUnwind_walk (m : Mc) (hid : BitVec 32) (w : World) (h : McOk w m) :
    Calls Try.prog 12 #[.agg (mcA m), .int .u32 (W hid)] w fun e w' => e = .returned (.bool true) ∧ Kept w w' := by
  have hka : Kept w (w.alloc (.cells (mcA m) 63)) := (Kept.refl _).alloc _
  have bx := Box.new w (mcA m) 63 w.heap.size rfl
  have HM := Lib.hid (h.kept hka)
  have HKA := Lib.hid hka
  obtain ⟨w1, hw1⟩ : ∃ w1, w.alloc (.cells (mcA m) 63) = w1 := ⟨_, rfl⟩
  rw [hw1] at bx HM HKA
  have b0 : w1.cell? ⟨w.heap.size, 0, none⟩ = some (.int .i64 m.n) := bx.at_ 0 rfl
  have b1 : w1.cell? ⟨w.heap.size, 1, none⟩ = some (.int .i64 m.us) := bx.at_ 1 rfl
  have b2 : w1.cell? ⟨w.heap.size, 2, none⟩ = some (.int .i64 m.as) := bx.at_ 2 rfl
  have b3 := bx.at_ 3 (u := .slice m.next.1 m.next.2.1 m.next.2.2.1) rfl
  have b4 := bx.at_ 4 (u := .slice m.sees.1 m.sees.2.1 m.sees.2.2.1) rfl
  have HREF := Lib.hid (fun W (hW : McOk W m) => refView_any m W hW)
  clear h hka bx
  by_cases hv : viewF m = 0
  · obtain ⟨N, U, A, hg⟩ := HM.out.good hv
    have HG := Lib.hid hg
    have HV := Lib.hid hv
    have hus := hg.us
    have hmn := hg.n
    have hwf : wrongF m hid = if fitB U hid = false then 4 else 0 := wrongF_fit hv hus
    have HFIT := Lib.hid (fun W => vfits_any U (by have := hg.u1; omega) hid W)
    clear hv
    cases hf : fitB U hid with
    | false =>
      rw [hf] at hwf HFIT
      simp only [if_true] at hwf
      have HP := Lib.hid (parts_bad m hid w1 HM.out (by rw [hwf]; omega))
      have HL := Lib.hid (fun W (hW : McOk W m) => vleak_bad m hid W hW (by rw [hwf]; omega))
      rw [hwf] at HP HL
      clear hwf hf hg hmn
      unfold mcA at hw1 HP HL HREF ⊢
      rw [hus] at b1 hw1 HP HL HREF ⊢
      clear hus
      go_enter Try.func12, Try.ntmps12
      go_wp2_with fail
      refine HP.out.mono ?_
      rintro e w2 ⟨rfl, hk2⟩
      have HK2 := Lib.hid hk2
      have c0 := (hk2.cell (cell_lt b0)).trans b0
      have c1 := (hk2.cell (cell_lt b1)).trans b1
      have c2 := (hk2.cell (cell_lt b2)).trans b2
      have c3 := (hk2.cell (cell_lt b3)).trans b3
      have c4 := (hk2.cell (cell_lt b4)).trans b4
      have HL2 := Lib.hid (HL.out w2 (HM.out.kept hk2))
      clear b0 b1 b2 b3 b4 hk2
      go_wp2_with fail
      refine HL2.out.mono ?_
      rintro e w3 ⟨rfl, hk3⟩
      have HK3 := Lib.hid (HK2.out.trans hk3)
      have d0 := (hk3.cell (cell_lt c0)).trans c0
      have d1 := (hk3.cell (cell_lt c1)).trans c1
      have d2 := (hk3.cell (cell_lt c2)).trans c2
      have d3 := (hk3.cell (cell_lt c3)).trans c3
      have d4 := (hk3.cell (cell_lt c4)).trans c4
      have HCK := Lib.hid (HREF.out w3 (HM.out.kept HK3.out))
      clear c0 c1 c2 c3 c4 hk3
      go_wp2_with fail
      refine HCK.out.mono ?_
      rintro e w4 ⟨v, rfl, hv, hk4⟩
      obtain rfl : v = 0 := hv.2 HV.out
      have HK4 := Lib.hid (HK3.out.trans hk4)
      have e0 := (hk4.cell (cell_lt d0)).trans d0
      have e1 := (hk4.cell (cell_lt d1)).trans d1
      have e2 := (hk4.cell (cell_lt d2)).trans d2
      have e3 := (hk4.cell (cell_lt d3)).trans d3
      have e4 := (hk4.cell (cell_lt d4)).trans d4
      clear d0 d1 d2 d3 d4 hk4 hv
      go_wp2_with fail
      refine (HFIT.out _).mono ?_
      rintro e w5 ⟨rfl, rfl⟩
      go_wp2_with fail
      go_ret
      exact ⟨rfl, HKA.out.trans HK4.out⟩
    | true =>
      rw [hf] at hwf HFIT
      simp only [Bool.true_eq_false, if_false] at hwf
      have HP := Lib.hid (parts_any m N U A hid w1 HM.out hg hwf)
      have HL := Lib.hid (fun W (hW : McOk W m) (hWg : MachG W m N U A) => vleak_any m N U A hid W hW hWg hwf)
      have HSE := Lib.hid (fun W s t (hs : s < N) (ht : t < N) (hW : MachG W m N U A) => refSees_any m N U A hid s t hs ht W hW)
      obtain ⟨b, o, en, hb, hcn⟩ := hg.next
      have hls := hg.ln
      have has := hg.as
      have hn6 := hg.n1.2
      have hn1 := hg.n1.1
      have hu3 := hg.u1.2
      have ha2 := hg.a1.2
      have HLT := Lib.hid hg.lt
      have HN := Lib.hid hcn
      clear hwf hf hg hb hcn
      unfold mcA at hw1 HP HL HREF HSE ⊢
      rw [hus] at b1 hw1 HP HL HREF HSE ⊢
      rw [hmn] at b0 hw1 HP HL HREF HSE ⊢
      rw [has] at b2 hw1 HP HL HREF HSE ⊢
      rw [hls, en] at b3 hw1 HP HL HREF HSE ⊢
      clear hus hmn has hls en
      go_enter Try.func12, Try.ntmps12
      go_wp2_with fail
      refine HP.out.mono ?_
      rintro e w2 ⟨hk2, p, Bq, cq, hpi, rfl, hps⟩
      have HPI := Lib.hid hpi
      have HPS := Lib.hid hps
      have HK2 := Lib.hid hk2
      have c0 := (hk2.cell (cell_lt b0)).trans b0
      have c1 := (hk2.cell (cell_lt b1)).trans b1
      have c2 := (hk2.cell (cell_lt b2)).trans b2
      have c3 := (hk2.cell (cell_lt b3)).trans b3
      have c4 := (hk2.cell (cell_lt b4)).trans b4
      have HL2 := Lib.hid (HL.out w2 (HM.out.kept hk2) (HG.out.kept hk2))
      clear b0 b1 b2 b3 b4 hk2 hpi hps
      go_wp2_with fail
      refine HL2.out.mono ?_
      rintro e w3 ⟨hk3, hret⟩
      obtain ⟨f, LB, ln, lc, rfl, hdis⟩ : ∃ (f : Int) (LB : Option Addr) (ln lc : Nat), e = .returned (.tuple #[.slice LB ln lc, .int .i64 f]) ∧ ((f = 5 ∧ ln = 0) ∨ ¬ Tight U A (nxF m) (seF m) hid) := by
        rcases hret with ⟨_, rfl⟩ | ⟨l, B, c, hl, rfl, _⟩
        · exact ⟨5, none, 0, 0, rfl, .inl ⟨rfl, rfl⟩⟩
        · exact ⟨0, B, l.length, c, rfl, .inr fun h => tight_leaks h hl⟩
      have HDIS := Lib.hid hdis
      have HK3 := Lib.hid (HK2.out.trans hk3)
      have d0 := (hk3.cell (cell_lt c0)).trans c0
      have d1 := (hk3.cell (cell_lt c1)).trans c1
      have d2 := (hk3.cell (cell_lt c2)).trans c2
      have d3 := (hk3.cell (cell_lt c3)).trans c3
      have d4 := (hk3.cell (cell_lt c4)).trans c4
      have HCK := Lib.hid (HREF.out w3 (HM.out.kept HK3.out))
      have HPS3 := Lib.hid (HPS.out.kept hk3)
      clear c0 c1 c2 c3 c4 hk3 hret hdis HPS
      go_wp2_with fail
      refine HCK.out.mono ?_
      rintro e w4 ⟨v, rfl, hv, hk4⟩
      obtain rfl : v = 0 := hv.2 HV.out
      have HK4 := Lib.hid (HK3.out.trans hk4)
      have e0 := (hk4.cell (cell_lt d0)).trans d0
      have e1 := (hk4.cell (cell_lt d1)).trans d1
      have e2 := (hk4.cell (cell_lt d2)).trans d2
      have e3 := (hk4.cell (cell_lt d3)).trans d3
      have e4 := (hk4.cell (cell_lt d4)).trans d4
      have HPC := Lib.hid (show ∀ k, k < N → w4.cell? ⟨Bq, k, none⟩ = some (.int .i64 (p k : Int)) from fun k hk => by
        obtain ⟨b', o', e, _, hc⟩ := (HPS3.out.kept hk4).2 (by omega)
        injection e with e
        injection e with ea eb
        subst ea eb
        have := hc k _ (prV_at p hk)
        rw [Nat.zero_add] at this
        exact this)
      have HE0 := Lib.hid e0
      have HE1 := Lib.hid e1
      have HE2 := Lib.hid e2
      have HE3 := Lib.hid e3
      have HE4 := Lib.hid e4
      have hnn : ((N : Int) != (N : Int)) = false := by simp
      clear d0 d1 d2 d3 d4 hk4 hv
      go_wp2_with fail
      refine (HFIT.out _).mono ?_
      rintro e w5 ⟨rfl, rfl⟩
      go_wp2_with fail
      clear e0 e1 e2 e3 e4 hnn
      go_loopw [9, 10] (fun v t wr => ∃ s : Nat, s ≤ N ∧ t = .int .i64 (s : Nat) ∧ v = .bool (stillTo U A (nxF m) hid p s 0 0) ∧ Kept w4 wr) (fun _ t _ => N - (intOf t).toNat)
      case atStart => exact ⟨0, Nat.zero_le _, rfl, rfl, Kept.refl _⟩
      case round =>
        obtain ⟨s, hs, rfl, rfl, hkw⟩ := hrel
        have r0 := (hkw.cell (cell_lt HE0.out)).trans HE0.out
        generalize hsb : stillTo U A (nxF m) hid p s 0 0 = sb
        have HSB := Lib.hid hsb
        clear hsb
        by_cases hlt : s < N
        · have hps := HPI.out.can s hlt
          have hlk := (alike_iff.1 (HPI.out.like hlt)).2.1
          have z0 := kw_cell r0
          have z1 := kw_cell ((hkw.cell (cell_lt HE1.out)).trans HE1.out)
          have z2 := kw_cell ((hkw.cell (cell_lt HE2.out)).trans HE2.out)
          have z3 := kw_cell ((hkw.cell (cell_lt HE3.out)).trans HE3.out)
          have z4 := kw_cell ((hkw.cell (cell_lt HE4.out)).trans HE4.out)
          have zp := kw_cell ((hkw.cell (cell_lt (HPC.out s hlt))).trans (HPC.out s hlt))
          have HKW := Lib.hid hkw
          have HLTS := Lib.hid hlt
          have HSS := Lib.hid (fun (x : KW wr) => HSE.out x.val s (p s) hlt (by omega) (HG.out.kept (HK4.out.trans (hkw.trans (KW.kept x)))))
          rw [hlk] at HSS
          have i1 : (0 : Int) ≤ (s : Int) := by omega
          have i2 : (s : Int) < (N : Int) := by omega
          have x1 : decide ((p s : Int) < 0) = false := by simp
          have x2 : decide ((s : Int) < (p s : Int)) = false := by rw [decide_eq_false_iff_not]; omega
          have x3 : decide (s < p s) = false := by rw [decide_eq_false_iff_not]; omega
          have x4 : ¬ s < p s := by omega
          have x5 : ¬ ((s : Int) < (p s : Int)) := by omega
          have x6 : p s ≤ s := by omega
          generalize hpse : p s = ps at zp x1 x2 x3 x4 x5 x6 HSS
          have HPSE := Lib.hid hpse
          clear hpse hps hlk hkw
          go_wp2_with fail
          refine wp_region_kept (by kernel_rfl) (by kernel_rfl) ?_
          repeat (go_big_quiet_step ((go_at_call 32; exact kept_of (HSS.out _))))
          refine wpQuiet_nil ?_
          intro w5 k5
          have HK5 := Lib.hid (HKW.out.trans k5)
          clear z0 z1 z2 z3 z4 zp x1 x2 x3 x4 x5 x6 k5
          have s1 := (HK5.out.cell (cell_lt HE1.out)).trans HE1.out
          clear r0
          go_wp2_with fail
          clear s1
          go_loopw [9, 11] (fun v t wq => ∃ u : Nat, u ≤ U ∧ t = .int .i64 (u : Nat) ∧ v = .bool (stillTo U A (nxF m) hid p s u 0) ∧ Kept w4 wq) (fun _ t _ => U - (intOf t).toNat)
          case atStart => exact ⟨0, Nat.zero_le _, rfl, by rw [← HSB.out], HK5.out⟩
          case round =>
            obtain ⟨u, hu, rfl, rfl, hkq⟩ := hrel
            have r1 := (hkq.cell (cell_lt HE1.out)).trans HE1.out
            generalize hub : stillTo U A (nxF m) hid p s u 0 = ub
            have HUB := Lib.hid hub
            clear hub
            by_cases hlu : u < U
            · have HLU := Lib.hid hlu
              have HKQ := Lib.hid hkq
              have s2 := (hkq.cell (cell_lt HE2.out)).trans HE2.out
              clear hkq
              go_wp2_with fail
              clear r1 s2
              go_loopw [9, 12] (fun v t wy => ∃ a : Nat, a ≤ A ∧ t = .int .i64 (a : Nat) ∧ v = .bool (stillTo U A (nxF m) hid p s u a) ∧ Kept w4 wy) (fun _ t _ => A - (intOf t).toNat)
              case atStart => exact ⟨0, Nat.zero_le _, rfl, by rw [HUB.out], HKQ.out⟩
              case round =>
                obtain ⟨a, ha, rfl, rfl, hky⟩ := hrel
                have r2 := (hky.cell (cell_lt HE2.out)).trans HE2.out
                have HACT := Lib.hid (stillTo_act U A (nxF m) hid p s u a)
                generalize hob : stillTo U A (nxF m) hid p s u a = ob at HACT ⊢
                have HOB := Lib.hid hob
                clear hob
                by_cases hla : a < A
                · have HLA := Lib.hid hla
                  have HST := Lib.hid (show stayB (nxF m) hid p s u a = (!hid.getLsbD u || p (nxF m s u a) == p s) from rfl)
                  obtain ⟨sb1, so1, sc1, hsb1, k1, hk1⟩ := HN.out s HLTS.out
                  obtain ⟨sb2, so2, sc2, hsb2, k2, hk2⟩ := hk1 u HLU.out
                  have k3 := hk2 a hla
                  have hKY := HK4.out.trans hky
                  have z3 := kw_cell ((hky.cell (cell_lt HE3.out)).trans HE3.out)
                  have z4 := kw_cell ((hKY.cell (cell_lt k1)).trans k1)
                  have z5 := kw_cell ((hKY.cell (cell_lt k2)).trans k2)
                  have z6 := kw_cell ((hKY.cell (cell_lt k3)).trans k3)
                  have hx1 := HLT.out s u a HLTS.out HLU.out hla
                  have y1 := kw_cell ((hky.cell (cell_lt (HPC.out _ hx1))).trans (HPC.out _ hx1))
                  have y2 := kw_cell ((hky.cell (cell_lt (HPC.out s HLTS.out))).trans (HPC.out s HLTS.out))
                  have HBT := Lib.hid (fun W => vbit_any hid u (by have := HLU.out; omega) W)
                  generalize nxF m s u a = n1 at z6 y1 hx1 HST
                  generalize p n1 = p1 at y1 HST
                  generalize p s = p2 at y2 HST
                  have i1 : (0 : Int) ≤ (s : Int) := by omega
                  have i2 : (s : Int) < (N : Int) := by have := HLTS.out; omega
                  have i5 : (0 : Int) ≤ (u : Int) := by omega
                  have i6 : (u : Int) < (U : Int) := by have := HLU.out; omega
                  have i7 : (0 : Int) ≤ (a : Int) := by omega
                  have i8 : (a : Int) < (A : Int) := by omega
                  have i9 : (0 : Int) ≤ (n1 : Int) := by omega
                  have i10 : (n1 : Int) < (N : Int) := by omega
                  have HKY := Lib.hid hky
                  clear hKY hk1 hk2 k1 k2 k3 hsb1 hsb2 hx1 hky
                  cases ob with
                  | false =>
                    have HVV := Lib.hid (show stillTo U A (nxF m) hid p s u (a + 1) = false by rw [HACT.out]; rfl)
                    go_wp2_with fail
                    refine wp_region_kept (by kernel_rfl) (by kernel_rfl) ?_
                    repeat (go_big_quiet_step ((go_at_call 33; exact kept_of_same (HBT.out _))))
                    refine wpQuiet_nil ?_
                    intro w6 k6
                    clear z3 z4 z5 z6 y1 y2 r2
                    have K6 := Lib.hid (HKY.out.trans k6)
                    clear k6
                    go_wp2_with fail
                    go_roundw
                    case rel => exact ⟨a + 1, HLA.out, by go_num, by rw [HVV.out], K6.out⟩
                    case measure => have := HLA.out; simp [intOf]; omega
                  | true =>
                    cases hbit : hid.getLsbD u with
                    | false =>
                      rw [hbit] at HBT HST
                      clear hbit
                      have HVV := Lib.hid (show stillTo U A (nxF m) hid p s u (a + 1) = true by rw [HACT.out, HST.out]; rfl)
                      go_wp2_with fail
                      refine wp_region_kept (by kernel_rfl) (by kernel_rfl) ?_
                      repeat (go_big_quiet_step ((go_at_call 33; exact kept_of_same (HBT.out _))))
                      refine wpQuiet_nil ?_
                      intro w6 k6
                      clear z3 z4 z5 z6 y1 y2 r2
                      have K6 := Lib.hid (HKY.out.trans k6)
                      clear k6
                      go_wp2_with fail
                      go_roundw
                      case rel => exact ⟨a + 1, HLA.out, by go_num, by rw [HVV.out], K6.out⟩
                      case measure => have := HLA.out; simp [intOf]; omega
                    | true =>
                      rw [hbit] at HBT HST
                      clear hbit
                      cases hpp : (p1 == p2) with
                      | true =>
                        have hpi : ((p1 : Int) == (p2 : Int)) = true := by rw [beq_iff_eq] at hpp ⊢; omega
                        rw [hpp] at HST
                        clear hpp
                        have HVV := Lib.hid (show stillTo U A (nxF m) hid p s u (a + 1) = true by rw [HACT.out, HST.out]; rfl)
                        go_wp2_with fail
                        refine wp_region_kept (by kernel_rfl) (by kernel_rfl) ?_
                        repeat (go_big_quiet_step ((go_at_call 33; exact kept_of_same (HBT.out _))))
                        refine wpQuiet_nil ?_
                        intro w6 k6
                        clear z3 z4 z5 z6 y1 y2 r2
                        have K6 := Lib.hid (HKY.out.trans k6)
                        clear k6
                        go_wp2_with fail
                        go_roundw
                        case rel => exact ⟨a + 1, HLA.out, by go_num, by rw [HVV.out], K6.out⟩
                        case measure => have := HLA.out; simp [intOf]; omega
                      | false =>
                        have hpi : ((p1 : Int) == (p2 : Int)) = false := by rw [beq_eq_false_iff_ne] at hpp ⊢; omega
                        rw [hpp] at HST
                        clear hpp
                        have HVV := Lib.hid (show stillTo U A (nxF m) hid p s u (a + 1) = false by rw [HACT.out, HST.out]; rfl)
                        go_wp2_with fail
                        refine wp_region_kept (by kernel_rfl) (by kernel_rfl) ?_
                        repeat (go_big_quiet_step ((go_at_call 33; exact kept_of_same (HBT.out _))))
                        refine wpQuiet_nil ?_
                        intro w6 k6
                        clear z3 z4 z5 z6 y1 y2 r2
                        have K6 := Lib.hid (HKY.out.trans k6)
                        clear k6
                        go_wp2_with fail
                        go_roundw
                        case rel => exact ⟨a + 1, HLA.out, by go_num, by rw [HVV.out], K6.out⟩
                        case measure => have := HLA.out; simp [intOf]; omega
                · have HVV := Lib.hid (show stillTo U A (nxF m) hid p s (u + 1) 0 = ob by
                    rw [stillTo_user, ← HOB.out, show a = A by omega])
                  have HKY := Lib.hid hky
                  clear hky
                  go_wp2_with fail
                  go_roundw
                  case rel => exact ⟨u + 1, HLU.out, by go_num, by rw [HVV.out], HKY.out⟩
                  case measure => have := HLU.out; simp [intOf]; omega
            · have HVV := Lib.hid (show stillTo U A (nxF m) hid p (s + 1) 0 0 = ub by
                rw [stillTo_state, ← HUB.out, show u = U by omega])
              have HKQ := Lib.hid hkq
              clear hkq
              go_wp2_with fail
              go_roundw
              case rel => exact ⟨s + 1, HLTS.out, by go_num, by rw [HVV.out], HKQ.out⟩
              case measure => have := HLTS.out; simp [intOf]; omega
        · have HKW := Lib.hid hkw
          clear hkw
          cases sb with
          | false =>
            go_wp2_with fail
            go_ret
            exact ⟨rfl, HKA.out.trans (HK4.out.trans HKW.out)⟩
          | true =>
            have HT := Lib.hid (show Tight U A (nxF m) (seF m) hid from HPI.out.tight (by omega) HLT.out (stillTo_all (by rw [← HSB.out, show s = N by omega])))
            have hfl : f = 5 ∧ ln = 0 := by
              rcases HDIS.out with h | h
              · exact h
              · exact absurd HT.out h
            obtain ⟨rfl, rfl⟩ := hfl
            go_wp2_with fail
            go_ret
            exact ⟨rfl, HKA.out.trans (HK4.out.trans HKW.out)⟩
  · have HP := Lib.hid (parts_bad m hid w1 HM.out (by rw [wrongF_bad hv]; exact hv))
    have HL := Lib.hid (fun W (hW : McOk W m) => vleak_bad m hid W hW (by rw [wrongF_bad hv]; exact hv))
    rw [wrongF_bad hv] at HL HP
    have HV := Lib.hid hv
    clear hv
    unfold mcA at hw1 HL HP HREF ⊢
    generalize viewF m = vf at HV HL HP HREF
    have n0 : (vf != 0) = true := by rw [bne_iff_ne]; exact HV.out
    go_enter Try.func12, Try.ntmps12
    go_wp2_with fail
    refine HP.out.mono ?_
    rintro e w2 ⟨rfl, hk2⟩
    have HK2 := Lib.hid hk2
    have c0 := (hk2.cell (cell_lt b0)).trans b0
    have c1 := (hk2.cell (cell_lt b1)).trans b1
    have c2 := (hk2.cell (cell_lt b2)).trans b2
    have c3 := (hk2.cell (cell_lt b3)).trans b3
    have c4 := (hk2.cell (cell_lt b4)).trans b4
    have HL2 := Lib.hid (HL.out w2 (HM.out.kept hk2))
    clear b0 b1 b2 b3 b4 hk2
    go_wp2_with fail
    refine HL2.out.mono ?_
    rintro e w3 ⟨rfl, hk3⟩
    have HK3 := Lib.hid (HK2.out.trans hk3)
    have d0 := (hk3.cell (cell_lt c0)).trans c0
    have d1 := (hk3.cell (cell_lt c1)).trans c1
    have d2 := (hk3.cell (cell_lt c2)).trans c2
    have d3 := (hk3.cell (cell_lt c3)).trans c3
    have d4 := (hk3.cell (cell_lt c4)).trans c4
    have HCK := Lib.hid (HREF.out w3 (HM.out.kept HK3.out))
    clear c0 c1 c2 c3 c4 hk3
    go_wp2_with fail
    refine HCK.out.mono ?_
    rintro e w4 ⟨v, rfl, hv, hk4⟩
    have nv : (v != 0) = true := by rw [bne_iff_ne]; intro e; exact HV.out (hv.1 e)
    clear d0 d1 d2 d3 d4 hv
    go_wp2_with fail
    go_ret
    exact ⟨rfl, HKA.out.trans (HK3.out.trans hk4)⟩
end Go.Proofs.Ytjcooagchjjknaa
