/- The walk of wall.Play. -/
import Derived.Test.YtnnddjanbfamkaaWall5
import Derived.Test.YtnnddjanbfamkaaLat2
import Derived.Deep.RegionHeld3
namespace Go.Proofs.Ytnnddjanbfamkaa
open Go Go.RowKit
set_option linter.unusedVariables false

theorem info_errno : (Try.prog.info? 25).map (fun i => (i.zero, i.size, i.bytes)) = some (some (.int .i64 0), 1, 8) := by kernel_rfl
theorem own_slW {w0 w : World} {E : TypeId} {s n c : Nat} {A : Option Addr} {xs : List Value} (h : Own w0 w E s (.slice A n c) n xs) : Sl w s A n xs := by
  obtain ⟨A2, c2, e, hsl, _⟩ := h.form
  injection e with e
  subst e
  exact hsl
theorem row_ne {w0 w : World} {B D : Nat} {e1 e2 : TypeId} {xs ys : List Value} (h : Row w0 w B e1 xs) (k : Row w0 w D e2 ys) (hne : e1 ≠ e2) : B ≠ D := by
  intro e
  obtain ⟨c, h3, _⟩ := h.1
  obtain ⟨c', h4, _⟩ := k.1
  rw [e, h4] at h3
  injection h3 with h3
  injection h3 with _ h3
  exact hne h3.symm
theorem state_made (w1 : World) (X who : Nat) (hX : w1.heap.size = X) (vs : List Value) :
    Row w1 ((((w1.alloc (.cells (rep who (.int .u32 0)) 22)).alloc (.cells (rep who (.int .u32 0)) 22)).alloc (.cells vs.toArray 96)).drew) X 22 (rowsV who fun _ => 0#32) ∧
    Row w1 ((((w1.alloc (.cells (rep who (.int .u32 0)) 22)).alloc (.cells (rep who (.int .u32 0)) 22)).alloc (.cells vs.toArray 96)).drew) (X + 1) 22 (rowsV who fun _ => 0#32) ∧
    Row w1 ((((w1.alloc (.cells (rep who (.int .u32 0)) 22)).alloc (.cells (rep who (.int .u32 0)) 22)).alloc (.cells vs.toArray 96)).drew) (X + 1 + 1) 96 vs := by
  rw [rep_rows]
  refine ⟨?_, ?_, ?_⟩
  · exact (Row.new (Kept.refl w1) _ _ _ hX).kept ((((Kept.refl _).alloc _).alloc _).drew)
  · exact (Row.new ((Kept.refl w1).alloc _) _ _ _ (by simp [hX])).kept (((Kept.refl _).alloc _).drew)
  · exact (Row.new (((Kept.refl w1).alloc _).alloc _) _ _ _ (by simp [hX])).drew
theorem WSt.grown {w0 w w' : World} {S R K : Nat} {AF : Option Addr} {cf : Nat} {Af : Option Addr} {lf c1 : Nat} {Ac : Option Addr} {m cc who : Nat} {r k f : Nat → BitVec 32} {v : Value} {n : Nat} {xs : List Value} (h : WSt w0 w S R K AF cf Af lf c1 Ac m cc who r k f) (o : Own w0 w 25 1 v n xs) (hg : w.grownBy w' v.ownBlock) : WSt w0 w' S R K AF cf Af lf c1 Ac m cc who r k f :=
  ⟨h.st.grown hg (o.far h.st (by decide)) o.since, h.rd.grown hg (o.far h.rd (by decide)) o.since, h.kn.grown hg (o.far h.kn (by decide)) o.since, h.fr.grown hg (h.fr.far2 o (by decide)) o.since, h.ne, h.far⟩
theorem Row.base {w w1 w2 : World} {B : Nat} {e : TypeId} {xs : List Value} (h : Row w1 w2 B e xs) (k : Kept w w1) : Row w w2 B e xs := ⟨h.1, Nat.le_trans k.size h.2.1, k.trans h.2.2⟩
theorem Own.base {w w1 w2 : World} {E : TypeId} {s n : Nat} {v : Value} {xs : List Value} (h : Own w1 w2 E s v n xs) (k : Kept w w1) : Own w w2 E s v n xs := by
  refine ⟨⟨h.1.1, ?_⟩, k.trans h.2⟩
  rcases h.1.2 with hn | ⟨g, cap, cur, hv, hb, rest⟩
  · exact .inl hn
  · exact .inr ⟨g, cap, cur, hv, Nat.le_trans k.size hb, rest⟩
/-- what Play hands back where nothing is wrong -/
def Walled (w' : World) (who lf nd : Nat) (firm clss : List Int) (e : Ending) : Prop :=
  ∃ (AC AR AF : Option Addr) (cC cR cF : Nat) (r k f : Nat → BitVec 32), e = .returned (.tuple #[.agg #[.slice AC nd cC, .slice AR who cR, .slice AF lf cF], .int .i64 0]) ∧ SlW w' AR who ((List.range who).map r) ∧ SlW w' AF lf ((List.range lf).map f) ∧ WInv firm clss r k f
set_option maxRecDepth 100000 in
set_option maxHeartbeats 8000000 in
theorem play_good (who : Nat) (A : Option Addr) (lf c : Nat) (firm : List Int) (A2 : Option Addr) (m c2 : Nat) (clss : List Int) (A3 : Option Addr) (nd c3 : Nat) (ds : List De) (w : World) (hs : SlI w A lf firm) (hc : SlI w A2 m clss) (hd : SlD w A3 nd ds) (h1 : 1 ≤ who) (h5 : who ≤ 5) (hnd : nd ≤ 30) (h0 : firmF firm clss = 0) :
    Calls Try.prog 34 #[.int .i64 who, .slice A lf c, .slice A2 m c2, .slice A3 nd c3] w fun e w' => Kept w w' ∧ Walled w' who lf nd firm clss e := by
  obtain ⟨hl8, hm8, hok⟩ := firmF_zero h0
  rw [hs.2] at hl8
  rw [hc.2] at hok
  have hka : Kept w (w.alloc (.cells #[.slice none 0 0, .slice none 0 0, .slice none 0 0] 66)) := (Kept.refl _).alloc _
  have hbx := Box.new w #[.slice none 0 0, .slice none 0 0, .slice none 0 0] 66 w.heap.size rfl
  have HWR := Lib.hid (wallWrong_any A lf c firm A2 m c2 clss _ (hs.kept hka) (hc.kept hka))
  rw [h0] at HWR
  have hmk := run_make1 (P := Try.prog) 39 22 Try.underlying39 info_u32 rfl (by decide) who (by omega)
  have HOK := Lib.hid hok
  have g1 : decide (who < 1) = false := by simp; omega
  have g2 : decide (5 < who) = false := by simp; omega
  have g3 : decide (30 < nd) = false := by simp; omega
  have e1 : decide ((who : Int) < 1) = false := by simp; omega
  have e2 : decide (5 < (who : Int)) = false := by simp; omega
  have e3 : decide (30 < (nd : Int)) = false := by simp; omega
  clear h0 hok
  go_enter Try.func34, Try.ntmps34
  go_wp2_with fail
  refine HWR.out.mono ?_
  rintro e w1 ⟨rfl, k1⟩
  obtain ⟨V, hV⟩ : ∃ V : Nat, w.heap.size = V := ⟨_, rfl⟩
  rw [hV] at hbx
  have HVB := Lib.hid (hbx.kept k1)
  have HVR := Lib.hid (show Row w w1 V 66 [.slice none 0 0, .slice none 0 0, .slice none 0 0] from (Row.new (Kept.refl w) 66 [.slice none 0 0, .slice none 0 0, .slice none 0 0] V hV).kept k1)
  have HK1 := Lib.hid (hka.trans k1)
  clear hbx hka k1 HWR
  obtain ⟨X, hX⟩ : ∃ X : Nat, w1.heap.size = X := ⟨_, rfl⟩
  have HX := Lib.hid hX
  go_wp2_with fail
  go_region
  all_goals
    first
    | (obtain ⟨w2, hw2⟩ : ∃ w2, (((w1.alloc (.cells (rep who (.int .u32 0)) 22)).alloc (.cells (rep who (.int .u32 0)) 22)).alloc (.cells #[.slice A lf c, .slice A2 m c2, .slice (some ⟨X, 0, none⟩) who who, .slice (some ⟨(X + 1), 0, none⟩) who who, .slice none 0 0] 96)).drew = w2 := ⟨_, rfl⟩
       rw [hw2]
       have hst := state_made w1 X who HX.out [.slice A lf c, .slice A2 m c2, .slice (some ⟨X, 0, none⟩) who who, .slice (some ⟨(X + 1), 0, none⟩) who who, .slice none 0 0]
       have HST := Lib.hid (show ∃ RR KK, RR ≠ KK ∧ Row w1 w2 RR 22 (rowsV who fun _ => 0#32) ∧ Row w1 w2 KK 22 (rowsV who fun _ => 0#32) ∧ Row w1 w2 (X + 1 + 1) 96 [.slice A lf c, .slice A2 m c2, .slice (some ⟨RR, 0, none⟩) who who, .slice (some ⟨KK, 0, none⟩) who who, .slice none 0 0] from ⟨X, (X + 1), by omega, hw2 ▸ hst.1, hw2 ▸ hst.2.1, hw2 ▸ hst.2.2⟩)
       clear hw2 hst)
    | (obtain ⟨w2, hw2⟩ : ∃ w2, (((w1.alloc (.cells (rep who (.int .u32 0)) 22)).alloc (.cells (rep who (.int .u32 0)) 22)).alloc (.cells #[.slice A lf c, .slice A2 m c2, .slice (some ⟨(X + 1), 0, none⟩) who who, .slice (some ⟨X, 0, none⟩) who who, .slice none 0 0] 96)).drew = w2 := ⟨_, rfl⟩
       rw [hw2]
       have hst := state_made w1 X who HX.out [.slice A lf c, .slice A2 m c2, .slice (some ⟨(X + 1), 0, none⟩) who who, .slice (some ⟨X, 0, none⟩) who who, .slice none 0 0]
       have HST := Lib.hid (show ∃ RR KK, RR ≠ KK ∧ Row w1 w2 RR 22 (rowsV who fun _ => 0#32) ∧ Row w1 w2 KK 22 (rowsV who fun _ => 0#32) ∧ Row w1 w2 (X + 1 + 1) 96 [.slice A lf c, .slice A2 m c2, .slice (some ⟨RR, 0, none⟩) who who, .slice (some ⟨KK, 0, none⟩) who who, .slice none 0 0] from ⟨(X + 1), X, by omega, hw2 ▸ hst.2.1, hw2 ▸ hst.1, hw2 ▸ hst.2.2⟩)
       clear hw2 hst)
    obtain ⟨RR, KK, hne, hR, hK, hS⟩ := HST.out
    clear HST hX
    generalize X + 1 + 1 = S at hS ⊢
    go_wp2_with fail
    go_loopw [45] (fun t wr => ∃ (i : Nat) (AF : Option Addr) (cF : Nat), i ≤ lf ∧ t = .int .i64 i ∧ Row w1 wr S 96 [.slice A lf c, .slice A2 m c2, .slice (some ⟨RR, 0, none⟩) who who, .slice (some ⟨KK, 0, none⟩) who who, .slice AF i cF] ∧ Row w1 wr RR 22 (rowsV who fun _ => 0#32) ∧ Row w1 wr KK 22 (rowsV who fun _ => 0#32) ∧ Own w1 wr 22 1 (.slice AF i cF) i (rowsV i fun q => 1#32 <<< q) ∧ ∀ g, AF = some ⟨g, 0, none⟩ → g ≠ RR ∧ g ≠ KK) (fun t _ => lf - (intOf t).toNat)
    case atStart => exact ⟨0, none, 0, Nat.zero_le _, rfl, hS, hR, hK, Own.start hS.kept0, fun g h => by cases h⟩
    case round =>
      clear hS hR hK
      obtain ⟨i, AF, cF, hi, rfl, hS, hR, hK, hF, hfar⟩ := hrel
      by_cases hlti : i < lf
      · have hi1 : (0 : Int) ≤ (i : Int) := by omega
        have hi2 : (i : Int) < (lf : Int) := by omega
        have HS := Lib.hid hS
        have HR := Lib.hid hR
        have HKK := Lib.hid hK
        have HF := Lib.hid hF
        have hAF : ∀ B2, (∀ g, AF = some ⟨g, 0, none⟩ → g ≠ B2) → some B2 ≠ (Value.slice AF i cF).ownBlock := fun B2 h e => by
          rcases hF.1.2 with ⟨e2, _⟩ | ⟨g, cap, cur, e2, _⟩
          · injection e2 with e2; subst e2; cases e
          · injection e2 with e2; subst e2
            injection e with e
            exact h g rfl e.symm
        have FR := Lib.hid (hAF RR fun g h => (hfar g h).1)
        have FK := Lib.hid (hAF KK fun g h => (hfar g h).2)
        have HFS := Lib.hid (hF.far hS (by decide))
        have HLR := Lib.hid (show RR < wr.heap.size ∧ KK < wr.heap.size from ⟨hR.lt, hK.lt⟩)
        have HBX := Lib.hid (show Own w1 (wr.alloc (.cells #[.int .u32 (W (1#32 <<< i))] 22)) 22 1 (.slice (some ⟨wr.heap.size, 0, none⟩) 1 1) 1 [.int .u32 (W (1#32 <<< i))] from Own.made hS.kept0 22 #[.int .u32 (W (1#32 <<< i))] 1 1 _ rfl rfl (by decide))
        have s4 := hS.cell 4 rfl
        have f4 := hS.free 4
        have hsl := hS.lt
        clear hS hR hK hF hfar hAF
        go_wp2_with fail
        go_region_law
          ((refine step_pushAt (by rfl) _ _ 39 (by rfl) (.slice AF i cF) (by rfl) _ 1 1 (by rfl) 22 Try.underlying39 info_u32 rfl (by decide) (by decide) _ i (rowsV i fun q => 1#32 <<< q) (HF.out.kept (by repeat first | with_reducible exact Kept.refl _ | with_reducible refine Kept.drew ?_ | with_reducible refine Kept.alloc ?_ _)) #[.int .u32 (W (1#32 <<< i))] (own_slW (by with_reducible exact HBX.out.drew)) (by intro u hu; simp at hu; subst hu; rfl) (by decide) (by omega) ?_
            intro v7 w7 hown7 hgr7 hat7
            have S7 := Lib.hid ((HS.out.kept (by repeat first | with_reducible exact Kept.refl _ | with_reducible refine Kept.drew ?_ | with_reducible refine Kept.alloc ?_ _)).grown hgr7 HFS.out HF.out.since)
            have R7 := Lib.hid ((HR.out.kept (by repeat first | with_reducible exact Kept.refl _ | with_reducible refine Kept.drew ?_ | with_reducible refine Kept.alloc ?_ _)).grown hgr7 FR.out HF.out.since)
            have K7 := Lib.hid ((HKK.out.kept (by repeat first | with_reducible exact Kept.refl _ | with_reducible refine Kept.drew ?_ | with_reducible refine Kept.alloc ?_ _)).grown hgr7 FK.out HF.out.since)
            have FAR7 := Lib.hid (show ∀ B2, B2 < wr.heap.size → some B2 ≠ (Value.slice AF i cF).ownBlock → v7.ownBlock ≠ some B2 from fun B2 hlt hne2 e => by
              rcases hat7 with e3 | e3
              · rw [e3] at e; exact hne2 e.symm
              · rw [e3] at e; injection e with e; simp at e; omega)
            have O7 := Lib.hid hown7
            obtain ⟨A7, c7, rfl, _, _⟩ := hown7.form
            have s4 := S7.out.cell 4 rfl
            have f4 := S7.out.free 4
            have hsl := S7.out.lt
            clear hown7 hgr7 hat7))
        all_goals
          go_wp2_with fail
          go_roundw
          case rel => exact ⟨i + 1, A7, c7, by omega, by go_num, S7.out.set 4 _, R7.out.other (p := ⟨S, 4, none⟩) _ (row_ne R7.out S7.out (by decide)) S7.out.2.1, K7.out.other (p := ⟨S, 4, none⟩) _ (row_ne K7.out S7.out (by decide)) S7.out.2.1, by rw [rowsV_snoc]; exact O7.out.setRow S7.out (by decide) 4 _, fun g h => ⟨fun e => FAR7.out RR HLR.out.1 FR.out (by rw [h, e]; rfl), fun e => FAR7.out KK HLR.out.2 FK.out (by rw [h, e]; rfl)⟩⟩
          case measure => simp [intOf]; omega
      · obtain rfl : i = lf := by omega
        have hw0 : WSt w1 wr S RR KK AF cF A i c A2 m c2 who (fun _ => 0#32) (fun _ => 0#32) (fun q => 1#32 <<< q) := ⟨hS, hR, hK, hF, hne, hfar⟩
        have hi0 := WInv.start firm clss (by rw [hs.2]; exact hl8)
        have HSI := Lib.hid (hs.kept HK1.out)
        have HCI := Lib.hid (hc.kept HK1.out)
        have HDI := Lib.hid (fun w' (k : Kept w1 w') => hd.kept (HK1.out.trans k))
        clear hS hR hK hF hfar
        have HOKM := HOK
        go_wp2_with fail
        go_loopw [13, 62] (fun vc t wr2 => ∃ (q : Nat) (cs : List Value) (r k f : Nat → BitVec 32), q ≤ nd ∧ t = .int .i64 q ∧ WSt w1 wr2 S RR KK AF cF A i c A2 m c2 who r k f ∧ WInv firm clss r k f ∧ Own w1 wr2 25 1 vc q cs) (fun _ t _ => nd - (intOf t).toNat)
        case atStart => exact ⟨0, [], _, _, _, Nat.zero_le _, rfl, hw0, hi0, Own.start hw0.st.kept0⟩
        case round =>
          clear hw0 hi0
          obtain ⟨q, cs, r, k, f, hq, rfl, hw2, hi2, hco⟩ := hrel
          obtain ⟨AC, cC, rfl, _, _⟩ := hco.form
          by_cases hltq : q < nd
          · obtain ⟨b, off, hkq, rfl, hb, d0, d1, d2, d3, d4, d5⟩ := (HDI.out _ hw2.st.kept0).get q hltq
            generalize ds[q] = d at d0 d1 d2 d3 d4 d5
            obtain ⟨kd, by_, to_, lv, pt, vl⟩ := d
            simp only at d0 d1 d2 d3 d4 d5
            have hq1 : (0 : Int) ≤ (q : Int) := by omega
            have hq2 : (q : Int) < (nd : Int) := by omega
            have hka := (Kept.refl wr).alloc (.cells #[.int .i64 kd, .int .i64 by_, .int .i64 to_, .int .i64 lv, .int .u32 (W pt), .int .i64 vl] 75)
            have HDO := Lib.hid (do_any S RR KK AF cF A i c A2 m c2 who r k f firm clss (kd, by_, to_, lv, pt, vl) w1 _ (hw2.kept hka) hi2 HSI.out HCI.out hl8 HOKM.out)
            have HCO := Lib.hid (hco.kept hka)
            have bx := Box.new wr #[.int .i64 kd, .int .i64 by_, .int .i64 to_, .int .i64 lv, .int .u32 (W pt), .int .i64 vl] 75 wr.heap.size rfl
            have x0 := bx.at_ 0 rfl
            have x1 := bx.at_ 1 rfl
            have x2 := bx.at_ 2 rfl
            have x3 := bx.at_ 3 rfl
            have x4 := bx.at_ 4 rfl
            have x5 := bx.at_ 5 rfl
            clear bx hw2 hi2 hco hka
            go_wp2_with fail
            refine HDO.out.mono ?_
            rintro e w6 ⟨code, r', k', f', rfl, hw6, hi6, hkeep⟩
            have HW6 := Lib.hid hw6
            have HI6 := Lib.hid hi6
            have CO6 := Lib.hid (hkeep _ _ _ _ _ (by decide) HCO.out)
            clear hw6 hi6 hkeep x0 x1 x2 x3 x4 x5 d0 d1 d2 d3 d4 d5
            go_wp2_with (at_builtin; refine wpList_push rfl _ _ 38 rfl 25 Try.underlying38 info_errno rfl (by decide) (by decide) _ _ _ _ CO6.out #[.int .i64 code] 25 _ 1 1 rfl rfl rfl rfl (by intro u hu; simp at hu; subst hu; rfl) (by omega) ?_; intro v7 w7 hown7 hgr7; have O7 := Lib.hid hown7; have HW7 := Lib.hid (WSt.grown (HW6.out.kept ((Kept.refl w6).alloc (.cells #[.int .i64 code] 25))) (CO6.out.alloc (.cells #[.int .i64 code] 25)) hgr7); clear hown7 hgr7)
            go_roundw
            case rel => exact ⟨q + 1, _, r', k', f', by omega, by go_num, HW7.out, HI6.out, O7.out⟩
            case measure => simp [intOf]; omega
          · obtain rfl : q = nd := by omega
            have HW2 := Lib.hid hw2
            have HI2 := Lib.hid hi2
            have HCO := Lib.hid hco
            have RV := Lib.hid (HVR.out.kept hw2.st.kept0)
            have HVN := Lib.hid (show V ≠ S ∧ V ≠ RR ∧ V ≠ KK ∧ V < w1.heap.size from ⟨fun e => absurd HVR.out.lt (by rw [e]; exact Nat.not_lt.2 hw2.st.2.1), fun e => absurd HVR.out.lt (by rw [e]; exact Nat.not_lt.2 hw2.rd.2.1), fun e => absurd HVR.out.lt (by rw [e]; exact Nat.not_lt.2 hw2.kn.2.1), HVR.out.lt⟩)
            have s2 := hw2.st.cell 2 rfl
            have s4 := hw2.st.cell 4 rfl
            have v0 := RV.out.cell 0 rfl
            have v1 := RV.out.cell 1 rfl
            have v2 := RV.out.cell 2 rfl
            have f0 := RV.out.free 0
            have f1 := RV.out.free 1
            have f2 := RV.out.free 2
            clear hw2 hi2 hco
            go_wp2_with fail
            go_region
            have RR1 := Lib.hid (HW2.out.rd.base HK1.out)
            have FF1 := Lib.hid (HW2.out.fr.base HK1.out)
            obtain ⟨u0, hu0⟩ : ∃ u0 : Value, u0 = .slice AC q cC := ⟨_, rfl⟩
            have R1 := Lib.hid (RV.out.set 0 (.slice AC q cC))
            have R2 := Lib.hid (R1.out.set 1 (.slice (some ⟨RR, 0, none⟩) who who))
            have R3 := Lib.hid (R2.out.set 2 (.slice AF i cF))
            have A1 := Lib.hid (RR1.out.other (p := ⟨V, 0, none⟩) (.slice AC q cC) (Ne.symm HVN.out.2.1) HVR.out.2.1)
            have A2' := Lib.hid (A1.out.other (p := ⟨V, 1, none⟩) (.slice (some ⟨RR, 0, none⟩) who who) (Ne.symm HVN.out.2.1) HVR.out.2.1)
            have A3' := Lib.hid (A2'.out.other (p := ⟨V, 2, none⟩) (.slice AF i cF) (Ne.symm HVN.out.2.1) HVR.out.2.1)
            have B1 := Lib.hid (FF1.out.setRow RV.out (by decide) 0 (.slice AC q cC))
            have B2 := Lib.hid (B1.out.setRow R1.out (by decide) 1 (.slice (some ⟨RR, 0, none⟩) who who))
            have B3 := Lib.hid (B2.out.setRow R2.out (by decide) 2 (.slice AF i cF))
            have Y0 := Lib.hid (R3.out.cell 0 rfl)
            have Y1 := Lib.hid (R3.out.cell 1 rfl)
            have Y2 := Lib.hid (R3.out.cell 2 rfl)
            have FIN := Lib.hid (show Kept w ((((wr.setCell ⟨V, 0, none⟩ (.slice AC q cC)).setCell ⟨V, 1, none⟩ (.slice (some ⟨RR, 0, none⟩) who who)).setCell ⟨V, 2, none⟩ (.slice AF i cF)).drew) ∧ Walled ((((wr.setCell ⟨V, 0, none⟩ (.slice AC q cC)).setCell ⟨V, 1, none⟩ (.slice (some ⟨RR, 0, none⟩) who who)).setCell ⟨V, 2, none⟩ (.slice AF i cF)).drew) who i q firm clss (.returned (.tuple #[.agg #[.slice AC q cC, .slice (some ⟨RR, 0, none⟩) who who, .slice AF i cF], .int .i64 0])) from
              ⟨R3.out.kept0.drew, AC, _, AF, cC, who, cF, r, k, f, rfl, ⟨by rw [rowsV_words]; exact (A3'.out.drew).sl who (rowsV_length who r), by simp⟩, ⟨by rw [rowsV_words]; exact own_slW B3.out.drew, by simp⟩, HI2.out⟩)
            clear s2 s4 v0 v1 v2 f0 f1 f2 hu0
            go_wp2_with fail
            exact bodyPost_ret (v := .tuple #[.agg #[.slice AC q cC, .slice (some ⟨RR, 0, none⟩) who who, .slice AF i cF], .int .i64 0]) (by simp [results, Try.results34, go_sem, Y0.out, Y1.out, Y2.out]) rfl FIN.out
end Go.Proofs.Ytnnddjanbfamkaa
