/- The walk of grant.Play, where nothing is wrong and no deed drops rights. -/
import Derived.Test.YtekpifobhgjepaaGrantB
namespace Go.Proofs.Ytekpifobhgjepaa
open Go Go.RowKit
set_option linter.unusedVariables false
set_option linter.unusedSimpArgs false

/-- what Play hands back -/
def Graphed (w' : World) (n nd : Nat) (g0 : Mx) (e : Ending) : Prop :=
  ∃ (AC AE : Option Addr) (cC cE N : Nat) (m : Mx) (rep : Nat → Nat), e = .returned (.tuple #[.agg #[.slice AC nd cC, .int .i64 N, .slice AE (edL m 14 N).length cE], .int .i64 0]) ∧ SlE w' AE (edL m 14 N).length (edL m 14 N) ∧ GInv n g0 N m rep ∧ N ≤ 14
/-- between two deeds -/
def PlK (w : World) (O G n : Nat) (g0 : Mx) (q : Nat) (wr : World) : Prop :=
  ∃ (VC : Value) (cs : List Value) (N : Nat) (m : Mx) (rep : Nat → Nat), Row w wr O 74 [VC, .int .i64 0, .slice none 0 0] ∧ Row w wr w.heap.size 74 [.slice none 0 0, .int .i64 0, .slice none 0 0] ∧ Own w wr 24 1 VC q cs ∧ GSt w wr G N m ∧ GInv n g0 N m rep ∧ N ≤ 14
/-- while the edges are told -/
def PlE (w : World) (O G g c N : Nat) (Bs : Nat → Nat) (m : Mx) (nd : Nat) (VC : Value) (cs : List Value) (E : List Ed) (wr : World) : Prop :=
  ∃ VE, Row w wr O 74 [VC, .int .i64 N, VE] ∧ Row w wr w.heap.size 74 [.slice none 0 0, .int .i64 0, .slice none 0 0] ∧ Own w wr 24 1 VC nd cs ∧ GStB w wr G g c N Bs m ∧ Own w wr 97 3 VE E.length (edCells E)
set_option maxRecDepth 100000 in
set_option maxHeartbeats 8000000 in
theorem play_good (n : Nat) (A : Option Addr) (len cp : Nat) (es : List Ed) (A3 : Option Addr) (nd c3 : Nat) (ds : List De) (w : World) (hs : SlE w A len es) (hd : SlD w A3 nd ds) (h0 : edgeF n es = 0) (hnd : nd ≤ 30) (hk4 : ∀ d ∈ ds, d.1 ≠ 4) :
    Calls Try.prog 34 #[.int .i64 n, .slice A len cp, .slice A3 nd c3] w fun e w' => Kept w w' ∧ Graphed w' n nd (gE es) e := by
  have hz := edgeF_zero h0
  have H0 := Lib.hid h0
  have HD1 := Lib.hid hd
  have HK4 := Lib.hid hk4
  have dn : decide (30 < (nd : Int)) = false := by simp; omega
  have hka : Kept w (w.alloc (.cells #[.slice none 0 0, .int .i64 0, .slice none 0 0] 74)) := (Kept.refl _).alloc _
  have HKA := Lib.hid hka
  have HV := Lib.hid (Row.new (Kept.refl w) 74 [.slice none 0 0, .int .i64 0, .slice none 0 0] w.heap.size rfl)
  have HBLD := Lib.hid (build_any n A len cp es _ (hs.kept hka))
  have HGS := Lib.hid (show GInv n (gE es) n (gE es) id from GInv.start (fun v _ => (gE_out (n := n) hz.2.2.2).1 v) (fun u v _ hv => (gE_out (n := n) hz.2.2.2).2 u v hv))
  have hn6 : n ≤ 6 := by omega
  have hn1 : 1 ≤ n := by omega
  clear hk4 h0 hd hs hka hz
  go_enter Try.func34, Try.ntmps34
  go_wp2_with fail
  refine HBLD.out.mono ?_
  rintro e w1 (⟨_, g, c, Bs, rfl, hg⟩ | ⟨hne, _⟩)
  case inr => rw [H0.out] at hne; cases hne
  rw [Int.toNat_natCast] at hg
  have HK1 := Lib.hid (HKA.out.trans hg.1.kept0)
  have HV1 := Lib.hid (HV.out.kept hg.1.kept0)
  have HG1 := Lib.hid (hg.baseG HKA.out)
  obtain ⟨G, hG⟩ : ∃ G, w1.heap.size = G := ⟨_, rfl⟩
  have hGr := Row.new HK1.out 92 [.slice (some ⟨g, 0, none⟩) n c] G hG
  have hst0 : GSt w (w1.alloc (.cells #[.slice (some ⟨g, 0, none⟩) n c] 92)) G n (gE es) := ⟨g, c, Bs, hGr, HG1.out.kept ((Kept.refl _).alloc _)⟩
  have hO2 : (w1.alloc (.cells #[.slice (some ⟨g, 0, none⟩) n c] 92)).heap.size = G + 1 := by simp [hG]
  have hOr := Row.new hGr.kept0 74 [.slice none 0 0, .int .i64 0, .slice none 0 0] (G + 1) hO2
  have hst1 := hst0.kept ((Kept.refl (w1.alloc (.cells #[.slice (some ⟨g, 0, none⟩) n c] 92))).alloc (.cells #[.slice none 0 0, .int .i64 0, .slice none 0 0] 74))
  have HV2 := Lib.hid (HV1.out.kept (((Kept.refl w1).alloc (.cells #[.slice (some ⟨g, 0, none⟩) n c] 92)).alloc (.cells #[.slice none 0 0, .int .i64 0, .slice none 0 0] 74)))
  have HST := Lib.hid (show PlK w (G + 1) G n (gE es) 0 ((w1.alloc (.cells #[.slice (some ⟨g, 0, none⟩) n c] 92)).alloc (.cells #[.slice none 0 0, .int .i64 0, .slice none 0 0] 74)) from ⟨_, [], n, gE es, id, hOr, HV2.out, Own.start hOr.kept0, hst1, HGS.out, by omega⟩)
  have HVO := Lib.hid (show w.heap.size ≠ G + 1 from by have := HV1.out.lt; omega)
  clear hg hGr hst0 hOr hst1 hO2
  go_wp2_with fail
  go_loopw [33] (fun t wr => ∃ q : Nat, q ≤ nd ∧ t = .int .i64 (q : Nat) ∧ PlK w (G + 1) G n (gE es) q wr) (fun t _ => nd - (intOf t).toNat)
  case atStart => exact ⟨0, Nat.zero_le _, rfl, HST.out⟩
  case round =>
    obtain ⟨q, hq, rfl, VC, cs, N, m, rp, hrow, hrv, hco, hgst, hinv, hN⟩ := hrel
    by_cases hlt : q < nd
    · obtain ⟨AC, cC, rfl, _, _⟩ := hco.form
      obtain ⟨b, off, hkq, rfl, hb, d0, d1, d2, d3, d4, d5⟩ := (HD1.out.kept hco.kept0).get q hlt
      have hk4 := HK4.out _ (List.getElem_mem hkq)
      generalize ds[q] = d at d0 d1 d2 d3 d4 d5 hk4
      obtain ⟨kd, by_, to_, lv, pt, vl⟩ := d
      simp only at d0 d1 d2 d3 d4 d5
      have hq1 : (0 : Int) ≤ (q : Int) := by omega
      have hq2 : (q : Int) < (nd : Int) := by omega
      have hkb := (Kept.refl wr).alloc (.cells #[.int .i64 kd, .int .i64 by_, .int .i64 to_, .int .i64 lv, .int .u32 (W pt), .int .i64 vl] 71)
      obtain ⟨gg, cc, BB, hgs⟩ := hgst
      have HDD := Lib.hid (fun w' (k : Kept (wr.alloc (.cells #[.int .i64 kd, .int .i64 by_, .int .i64 to_, .int .i64 lv, .int .u32 (W pt), .int .i64 vl] 71)) w') => do_any (kd, by_, to_, lv, pt, vl) hk4 (hgs.kept (hkb.trans k)) hinv hN)
      have HCO := Lib.hid (hco.kept hkb)
      have HRO := Lib.hid (hrow.kept hkb)
      have HRV := Lib.hid (hrv.kept hkb)
      have bx := Box.new wr #[.int .i64 kd, .int .i64 by_, .int .i64 to_, .int .i64 lv, .int .u32 (W pt), .int .i64 vl] 71 wr.heap.size rfl
      have x0 := bx.at_ 0 rfl
      have x1 := bx.at_ 1 rfl
      have x2 := bx.at_ 2 rfl
      have x3 := bx.at_ 3 rfl
      have x4 := bx.at_ 4 rfl
      have x5 := bx.at_ 5 rfl
      have o0 := (hrow.kept hkb).cell 0 rfl
      clear bx hrow hrv hco hkb hgs hinv hN hk4
      go_wp2_with fail
      go_region_law
        (first
         | (go_simp; go_at_call 52
            refine (HDD.out _ (by repeat first | with_reducible exact Kept.refl _ | with_reducible refine Kept.drew ?_ | with_reducible refine Kept.alloc ?_ _)).mono ?_
            rintro e w6 ⟨code, N6, m6, rp6, rfl, hkeep, hgst6, hinv6, hN6⟩
            have HG6 := Lib.hid hgst6
            have HI6 := Lib.hid hinv6
            have HN6 := Lib.hid hN6
            have HK6 := Lib.hid hkeep.1
            have CO6 := Lib.hid (hkeep.2.1 _ _ _ _ _ okErrno (HCO.out.kept (by repeat first | with_reducible exact Kept.refl _ | with_reducible refine Kept.drew ?_ | with_reducible refine Kept.alloc ?_ _)))
            have HO6 := Lib.hid (hkeep.2.2 _ _ _ okGraph (HRO.out.kept (by repeat first | with_reducible exact Kept.refl _ | with_reducible refine Kept.drew ?_ | with_reducible refine Kept.alloc ?_ _)))
            have HV6 := Lib.hid (hkeep.2.2 _ _ _ okGraph (HRV.out.kept (by repeat first | with_reducible exact Kept.refl _ | with_reducible refine Kept.drew ?_ | with_reducible refine Kept.alloc ?_ _)))
            have o0 := HO6.out.cell 0 rfl
            have o0a := (HO6.out.alloc' (.cells #[.int .i64 code] 24)).cell 0 rfl
            clear hkeep hgst6 hinv6 hN6)
         | (refine step_pushAt (by rfl) _ _ 72 (by rfl) (.slice AC q cC) (by rfl) _ 1 1 (by rfl) 24 Try.underlying72 info_errnoG rfl (by decide) (by decide) _ q cs (CO6.out.kept (by repeat first | with_reducible exact Kept.refl _ | with_reducible refine Kept.drew ?_ | with_reducible refine Kept.alloc ?_ _)) #[.int .i64 code] (own_slG (Own.made HK6.out 24 #[.int .i64 code] 1 1 _ rfl rfl (by decide))) (by intro u hu; simp at hu; subst hu; rfl) (by decide) (by omega) ?_
            intro v7 w7 hown7 hgr7 hat7
            have HO7 := Lib.hid ((HO6.out.alloc' (.cells #[.int .i64 code] 24)).grown hgr7 ((CO6.out.alloc (.cells #[.int .i64 code] 24)).far (HO6.out.alloc' (.cells #[.int .i64 code] 24)) (by decide)) (CO6.out.alloc (.cells #[.int .i64 code] 24)).since)
            have HV7 := Lib.hid ((HV6.out.alloc' (.cells #[.int .i64 code] 24)).grown hgr7 ((CO6.out.alloc (.cells #[.int .i64 code] 24)).far (HV6.out.alloc' (.cells #[.int .i64 code] 24)) (by decide)) (CO6.out.alloc (.cells #[.int .i64 code] 24)).since)
            have HG7 := Lib.hid ((HG6.out.kept ((Kept.refl w6).alloc (.cells #[.int .i64 code] 24))).grown (CO6.out.alloc (.cells #[.int .i64 code] 24)) okErrno hgr7)
            have O7 := Lib.hid hown7
            obtain ⟨A7, c7, rfl, _, _⟩ := hown7.form
            have o0 := HO7.out.cell 0 rfl
            have f0 := HO7.out.free 0
            clear hown7 hgr7 hat7))
      all_goals
        go_wp2_with fail
        go_roundw
        case rel => exact ⟨q + 1, by omega, by go_num, .slice A7 (q + 1) c7, _, N6, m6, rp6, HO7.out.set 0 _, HV7.out.other (p := ⟨G + 1, 0, none⟩) _ HVO.out HO7.out.2.1, O7.out.setRow HO7.out (by decide) 0 _, HG7.out.setRow HO7.out okGraph 0 _, HI6.out, HN6.out⟩
        case measure => simp [intOf]; omega
    · obtain rfl : q = nd := by omega
      obtain ⟨AC, cC, rfl, _, _⟩ := hco.form
      obtain ⟨gg, cc, BB, hgs⟩ := hgst
      have g0c := hgs.1.cell 0 rfl
      have o1 := hrow.cell 1 rfl
      have f1 := hrow.free 1
      have HG8 := Lib.hid (hgs.setRow hrow okGraph 1 (.int .i64 N))
      have HR8 := Lib.hid (hrow.set 1 (.int .i64 N))
      have HC8 := Lib.hid (hco.setRow hrow (by decide) 1 (.int .i64 N))
      have HV8 := Lib.hid (hrv.other (p := ⟨G + 1, 1, none⟩) (.int .i64 N) HVO.out hrow.2.1)
      have HI := Lib.hid hinv
      have HNN := Lib.hid hN
      obtain ⟨w8, hw8⟩ : ∃ w8, wr.setCell ⟨G + 1, 1, none⟩ (.int .i64 N) = w8 := ⟨_, rfl⟩
      rw [hw8] at HG8 HR8 HC8 HV8
      have g8c := HG8.out.1.cell 0 rfl
      have HP8 := Lib.hid (show PlE w (G + 1) G gg cc N BB m q (.slice AC q cC) cs (edL m 14 0) w8 from ⟨.slice none 0 0, HR8.out, HV8.out, HC8.out, HG8.out, Own.start HR8.out.kept0⟩)
      clear hrow hrv hco hgs hinv hN
      go_wp2_with fail
      go_loopw [50] (fun t wr => ∃ i : Nat, i ≤ N ∧ t = .int .i64 (i : Nat) ∧ PlE w (G + 1) G gg cc N BB m q (.slice AC q cC) cs (edL m 14 i) wr) (fun t _ => N - (intOf t).toNat)
      case atStart => exact ⟨0, Nat.zero_le _, rfl, HP8.out⟩
      case round =>
        obtain ⟨i, hi, rfl, hpl⟩ := hrel
        have HPL := Lib.hid hpl
        obtain ⟨VE, hrow, hrv, hco, hgs, hoe⟩ := hpl
        by_cases hlt : i < N
        · have ri := (hgs.at_ hlt (show 0 < 14 by omega)).1
          have hi1 : (0 : Int) ≤ (i : Int) := by omega
          have hi2 : (i : Int) < (N : Int) := by omega
          have HN14 := HNN.out
          have HES := Lib.hid (show edL m 14 i ++ rowE m i 0 = edL m 14 i by simp [rowE])
          clear hrow hrv hco hgs hoe
          go_wp2_with fail
          go_loopw [57] (fun t wr => ∃ j : Nat, j ≤ 14 ∧ t = .int .i64 (j : Nat) ∧ PlE w (G + 1) G gg cc N BB m q (.slice AC q cC) cs (edL m 14 i ++ rowE m i j) wr) (fun t _ => 14 - (intOf t).toNat)
          case atStart => exact ⟨0, Nat.zero_le _, rfl, by rw [HES.out]; exact HPL.out⟩
          case round =>
            obtain ⟨j, hj, rfl, hpl⟩ := hrel
            have HPL2 := Lib.hid hpl
            by_cases hlt2 : j < 14
            · obtain ⟨VE2, hrow, hrv, hco, hgs, hoe⟩ := hpl
              have cij := (hgs.at_ hlt hlt2).2.1
              have hj1 : (0 : Int) ≤ (j : Int) := by omega
              have hj2 : (j : Int) < 14 := by omega
              have HRS := Lib.hid (show edL m 14 i ++ rowE m i (j + 1) = (edL m 14 i ++ rowE m i j) ++ if m i j != 0#32 then [((i : Int), (j : Int), m i j)] else [] by rw [rowE_succ, List.append_assoc])
              have hlen : (edL m 14 i ++ rowE m i j).length ≤ 1000 := by
                have h1 := edL_len m 14 i
                have h2 := rowE_len m i j
                have h3 := HNN.out
                rw [List.length_append]
                omega
              generalize m i j = x at cij HRS
              generalize edL m 14 i ++ rowE m i j = E at hoe HPL2 HRS hlen
              cases hx : (x != 0#32)
              · have HE' := Lib.hid (show edL m 14 i ++ rowE m i (j + 1) = E by rw [HRS.out, hx]; simp)
                clear hrow hrv hco hgs hoe
                go_wp2_with fail
                go_roundw
                case rel => exact ⟨j + 1, by omega, by go_num, by rw [HE'.out]; exact HPL2.out⟩
                case measure => simp [intOf]; omega
              · have HE' := Lib.hid (show edL m 14 i ++ rowE m i (j + 1) = E ++ [((i : Int), (j : Int), x)] by rw [HRS.out, hx]; simp)
                obtain ⟨AE, cE, rfl, _, _⟩ := hoe.form
                have o2 := hrow.cell 2 rfl
                have HOE := Lib.hid hoe
                have HROW := Lib.hid hrow
                have HRV := Lib.hid hrv
                have HCO := Lib.hid hco
                have HGS := Lib.hid hgs
                clear hrow hrv hco hgs
                go_wp2_with (at_builtin; refine wpList_push rfl _ _ 62 rfl 97 Try.underlying62 info_edgeG rfl (by decide) (by decide) _ _ _ _ hoe #[.int .i64 (i : Int), .int .i64 (j : Int), .int .u32 (W x)] _ _ 1 1 rfl rfl rfl rfl (one_edgeG _ _ _) (by omega) ?_; intro v7 w7 hown7 hgr7; obtain ⟨A7, c7, rfl, _, _⟩ := hown7.form; have R7 := Lib.hid ((HROW.out.alloc' (.cells #[.int .i64 (i : Int), .int .i64 (j : Int), .int .u32 (W x)] 97)).grown hgr7 ((HOE.out.alloc (.cells #[.int .i64 (i : Int), .int .i64 (j : Int), .int .u32 (W x)] 97)).far (HROW.out.alloc' (.cells #[.int .i64 (i : Int), .int .i64 (j : Int), .int .u32 (W x)] 97)) (by decide)) HOE.out.since); have m7 := R7.out.cell 2 rfl; have z7 := R7.out.free 2)
                have KA : Kept wr (wr.alloc (.cells #[.int .i64 (i : Int), .int .i64 (j : Int), .int .u32 (W x)] 97)) := (Kept.refl _).alloc _
                have OA := HOE.out.kept KA
                have V7 := Lib.hid (((HRV.out.kept KA).grown hgr7 (OA.far (HRV.out.kept KA) (by decide)) OA.since).other (p := ⟨G + 1, 2, none⟩) (.slice A7 (E.length + 1) c7) HVO.out R7.out.2.1)
                have C7 := Lib.hid (((HCO.out.kept KA).grown hgr7 ((HCO.out.kept KA).far2 OA (by decide)) OA.since).setRow R7.out (by decide) 2 (.slice A7 (E.length + 1) c7))
                have G7 := Lib.hid (((HGS.out.kept KA).grown OA okEdge hgr7).setRow R7.out okGraph 2 (.slice A7 (E.length + 1) c7))
                have E7 := Lib.hid (hown7.setRow R7.out (by decide) 2 (.slice A7 (E.length + 1) c7))
                have R8 := Lib.hid (R7.out.set 2 (.slice A7 (E.length + 1) c7))
                have HPN := Lib.hid (show PlE w (G + 1) G gg cc N BB m q (.slice AC q cC) cs (E ++ [((i : Int), (j : Int), x)]) (w7.setCell ⟨G + 1, 2, none⟩ (.slice A7 (E.length + 1) c7)) from ⟨_, R8.out, V7.out, C7.out, G7.out, by rw [edCells_snoc, List.length_append]; exact E7.out⟩)
                clear hown7 hgr7 KA OA hoe
                go_wp2_with fail
                go_roundw
                case rel => exact ⟨j + 1, by omega, by go_num, by rw [HE'.out]; exact HPN.out⟩
                case measure => simp [intOf]; omega
            · obtain rfl : j = 14 := by omega
              have HE' := Lib.hid (edL_succ m 14 i)
              clear hpl
              go_wp2_with fail
              go_roundw
              case rel => exact ⟨i + 1, by omega, by go_num, by rw [HE'.out]; exact HPL2.out⟩
              case measure => simp [intOf]; omega
        · obtain rfl : i = N := by omega
          obtain ⟨AE, cE, rfl, _, _⟩ := hoe.form
          have o0 := hrow.cell 0 rfl
          have o1 := hrow.cell 1 rfl
          have o2 := hrow.cell 2 rfl
          have v0 := hrv.cell 0 rfl
          have v1 := hrv.cell 1 rfl
          have v2 := hrv.cell 2 rfl
          have f0 := hrv.free 0
          have f1 := hrv.free 1
          have f2 := hrv.free 2
          have R1 := hrv.set 0 (.slice AC q cC)
          have R2 := R1.set 1 (.int .i64 i)
          have R3 := R2.set 2 (.slice AE (edL m 14 i).length cE)
          have E1 := hoe.setRow hrv (by decide) 0 (.slice AC q cC)
          have E2 := E1.setRow R1 (by decide) 1 (.int .i64 i)
          have E3 := E2.setRow R2 (by decide) 2 (.slice AE (edL m 14 i).length cE)
          have Y0 := Lib.hid (R3.cell 0 rfl)
          have Y1 := Lib.hid (R3.cell 1 rfl)
          have Y2 := Lib.hid (R3.cell 2 rfl)
          have FIN := Lib.hid (show Kept w (((wr.setCell ⟨w.heap.size, 0, none⟩ (.slice AC q cC)).setCell ⟨w.heap.size, 1, none⟩ (.int .i64 i)).setCell ⟨w.heap.size, 2, none⟩ (.slice AE (edL m 14 i).length cE)) ∧ Graphed (((wr.setCell ⟨w.heap.size, 0, none⟩ (.slice AC q cC)).setCell ⟨w.heap.size, 1, none⟩ (.int .i64 i)).setCell ⟨w.heap.size, 2, none⟩ (.slice AE (edL m 14 i).length cE)) n q (gE es) (.returned (.tuple #[.agg #[.slice AC q cC, .int .i64 i, .slice AE (edL m 14 i).length cE], .int .i64 0])) from
            ⟨R3.kept0, AC, AE, cC, cE, i, m, rp, rfl, ⟨own_slG E3, rfl⟩, HI.out, HNN.out⟩)
          clear hrow hrv hco hgs hoe R1 R2 R3 E1 E2 E3
          go_wp2_with fail
          exact bodyPost_ret (v := .tuple #[.agg #[.slice AC q cC, .int .i64 i, .slice AE (edL m 14 i).length cE], .int .i64 0]) (by simp [results, Try.results34, go_sem, Y0.out, Y1.out, Y2.out]) rfl FIN.out
end Go.Proofs.Ytekpifobhgjepaa
