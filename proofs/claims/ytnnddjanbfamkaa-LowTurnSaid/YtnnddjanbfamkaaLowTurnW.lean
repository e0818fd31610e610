/- LowTurn: the walk of the statement. -/
import Derived.Test.YtnnddjanbfamkaaMk8
import Derived.Test.YtnnddjanbfamkaaLow7
import Derived.Test.YtnnddjanbfamkaaLow9
import Derived.Test.YtnnddjanbfamkaaTurnL
import Derived.Test.YtnnddjanbfamkaaCodes
import Derived.Test.YtnnddjanbfamkaaWords
import Derived.BigQuiet
import Derived.Test.YtnnddjanbfamkaaDeed
namespace Go.Proofs.Ytnnddjanbfamkaa.lowTurnDone
open Go Go.RowKit
set_option linter.unusedVariables false

theorem marksF_zero {clear things : List Lab} {k : Nat} (h : marksF clear things k = 0) : 1 ≤ clear.length ∧ clear.length ≤ 5 ∧ things.length ≤ 8 ∧ k ≤ 30 := by
  unfold marksF at h
  split at h
  · cases h
  · omega
theorem labs_ok {clear things : List Lab} {k : Nat} (h : marksF clear things k = 0) : ∀ x ∈ clear ++ things, labOk x = true := by
  intro x hx
  unfold marksF at h
  split at h
  · cases h
  · split at h
    · cases h
    · rename_i h2
      have h3 : badL x = false := by
        cases hb : badL x
        · rfl
        · exact absurd (List.any_eq_true.2 ⟨x, hx, hb⟩) h2
      simpa [badL] using h3
theorem marksF_turn {clear things : List Lab} {k : Nat} (h : marksF clear things k = 0) : marksF clear (things.map turnL) k = 0 := by
  have ha := labs_ok h
  unfold marksF at h ⊢
  split at h
  · cases h
  · rw [if_neg (by rw [List.length_map]; assumption), if_neg]
    rw [Bool.not_eq_true, List.any_eq_false]
    intro x hx
    rcases List.mem_append.1 hx with hx | hx
    · have := ha x (List.mem_append_left _ hx)
      simp [badL, this]
    · obtain ⟨y, hy, rfl⟩ := List.mem_map.1 hx
      have := turn_ok (ha y (List.mem_append_right _ hy))
      simp [badL, this]
/-- the two ways side by side: codes, what came in, and the marks -/
theorem two_ways (nc nt : Nat) (things : List Lab) (ds : List De) (hnt : things.length = nt) (hok : ∀ x ∈ things, labOk x = true) :
    codesOf (lowDo nc nt (lab (List.replicate nc topL)) (lab things)) (low0 (List.replicate nc topL)) ds = codesOf (markDo nc nt (lab (List.replicate nc topL)) (lab (things.map turnL))) mark0 ds ∧
    (stOf (lowDo nc nt (lab (List.replicate nc topL)) (lab things)) (low0 (List.replicate nc topL)) ds).from_ = (stOf (markDo nc nt (lab (List.replicate nc topL)) (lab (things.map turnL))) mark0 ds).from_ ∧
    ∀ u, u < nc → labOk ((stOf (lowDo nc nt (lab (List.replicate nc topL)) (lab things)) (low0 (List.replicate nc topL)) ds).marks u) = true ∧ (stOf (markDo nc nt (lab (List.replicate nc topL)) (lab (things.map turnL))) mark0 ds).marks u = turnL ((stOf (lowDo nc nt (lab (List.replicate nc topL)) (lab things)) (low0 (List.replicate nc topL)) ds).marks u) := by
  have hc : ∀ u, u < nc → lab (List.replicate nc topL) u = topL := by
    intro u hu
    rw [lab_eq (by simpa using hu)]
    simp
  have ht : ∀ t, t < nt → lab (things.map turnL) t = turnL (lab things t) := by
    intro t h
    rw [lab_eq (by simpa [hnt] using h), lab_eq (by rw [hnt]; exact h)]
    simp
  have e1 : lowDo nc nt (lab (List.replicate nc topL)) (lab things) = lowDo nc nt (fun _ => topL) (lab things) := by
    funext s d
    exact lowDo_congr hc (fun _ _ => rfl) s d
  have e2 : markDo nc nt (lab (List.replicate nc topL)) (lab (things.map turnL)) = markDo nc nt (fun _ => topL) (fun t => turnL (lab things t)) := by
    funext s d
    exact markDo_congr hc ht s d
  have hto : ∀ t, t < nt → labOk (lab things t) = true := by
    intro t h
    rw [lab_eq (by rw [hnt]; exact h)]
    exact hok _ (List.getElem_mem _)
  rw [e1, e2]
  have hst : Twin nc nt (lab things) (low0 (List.replicate nc topL)) mark0 := by
    refine ⟨fun u hu => ?_, rfl, rfl⟩
    show labOk (lab (List.replicate nc topL) u) = true ∧ _
    rw [hc u hu]
    exact ⟨by decide, by show ((0 : Int), 0#32) = turnL (lab (List.replicate nc topL) u); rw [hc u hu]; exact turn_top.symm⟩
  obtain ⟨h1, h2⟩ := Twin.all hto ds _ _ hst
  exact ⟨h1, h2.into, h2.mark⟩
theorem replicate_lab (k : Nat) : labCells (List.replicate (k + 1) topL) = labCells (List.replicate k topL) ++ [.int .i64 3, .int .u32 31] := by
  rw [List.replicate_succ', labCells_snoc]
  rfl
set_option maxRecDepth 100000 in
set_option maxHeartbeats 8000000 in
theorem bad (A1 : Option Addr) (nc c1 : Nat) (A2 : Option Addr) (nt c2 : Nat) (things : List Lab) (A3 : Option Addr) (nd c3 : Nat) (w : World) (hreach : nc * 16 ≤ 140737488351232) (s2 : SlLab w A2 nt things) (h : marksF (List.replicate nc topL) things nd ≠ 0) :
    Calls Try.prog 8 #[.slice A1 nc c1, .slice A2 nt c2, .slice A3 nd c3] w fun e w' => e = .returned (.bool true) ∧ Kept w w' := by
  have HP := Lib.hid (fun A c w' (k : Kept w w') (s1 : SlLab w' A nc (List.replicate nc topL)) => play_bad A nc c _ A2 nt c2 things A3 nd c3 w' s1 (s2.kept k) h)
  have HK := Lib.hid (fun A c w' (k : Kept w w') (s1 : SlLab w' A nc (List.replicate nc topL)) => marked_any A nc c _ A2 nt c2 things nd w' s1 (s2.kept k))
  have h1 : (marksF (List.replicate nc topL) things nd == 0) = false := by simpa using h
  rw [h1] at HK
  clear h h1
  go_enter Try.func8, Try.ntmps8
  go_wp2_with fail
  go_loopw [7, 14] (fun v t wr => ∃ k : Nat, k ≤ nc ∧ t = .int .i64 k ∧ Own w wr 24 2 v k (labCells (List.replicate k topL))) (fun _ t _ => nc - (intOf t).toNat)
  case atStart => exact ⟨0, Nat.zero_le _, rfl, Own.start (Kept.refl _)⟩
  case round =>
    obtain ⟨k, hk, rfl, hown⟩ := hrel
    by_cases hlt : k < nc
    · have HS := Lib.hid (replicate_lab k)
      go_wp2_with (at_builtin; refine wpList_pushR rfl _ _ 36 rfl 24 Try.underlying36 info_label rfl (by decide) (by decide) _ _ _ _ hown #[.int .i64 3, .int .u32 31] _ _ 1 1 rfl rfl rfl rfl (one_lab2 _ _) (by omega) ?_; intro v' w7 hown7 _)
      go_roundw
      case rel => exact ⟨k + 1, by omega, by go_num, by rw [HS.out]; simpa using hown7⟩
      case measure => simp [intOf]; omega
    · obtain rfl : k = nc := by omega
      obtain ⟨AT, cT, rfl, hsl, _⟩ := hown.form
      have KT := Lib.hid hown.2
      have HT := Lib.hid (show SlLab wr AT k (List.replicate k topL) from ⟨hsl, by simp⟩)
      clear hown hsl
      go_wp2_with fail
      refine (HP.out _ cT _ KT.out HT.out).mono ?_
      rintro e w1 ⟨k1, code, hcode, rfl⟩
      have hc2 : (code != 0) = true := by simpa using hcode
      have k2 := k1.alloc (.cells #[.slice none 0 0, .slice none 0 0, .slice none 0 0] 41)
      go_wp2_with fail
      refine (HK.out _ cT _ (KT.out.trans k2) (HT.out.kept k2)).mono ?_
      rintro e w2 ⟨rfl, k3⟩
      have KF := Lib.hid (KT.out.trans (k2.trans k3))
      go_wp2_with fail
      go_ret
      exact ⟨rfl, KF.out⟩
set_option maxRecDepth 100000 in
set_option maxHeartbeats 16000000 in
theorem good (A1 : Option Addr) (nc c1 : Nat) (A2 : Option Addr) (nt c2 : Nat) (things : List Lab) (A3 : Option Addr) (nd c3 : Nat) (ds : List De) (w : World) (s2 : SlLab w A2 nt things) (hd : SlD w A3 nd ds) (h0 : marksF (List.replicate nc topL) things nd = 0) :
    Calls Try.prog 8 #[.slice A1 nc c1, .slice A2 nt c2, .slice A3 nd c3] w fun e w' => e = .returned (.bool true) ∧ Kept w w' := by
  obtain ⟨hn1, hn5, hn8, hn30⟩ := marksF_zero h0
  rw [List.length_replicate] at hn1 hn5
  rw [s2.2] at hn8
  have hok : ∀ x ∈ things, labOk x = true := fun x hx => labs_ok h0 x (List.mem_append_right _ hx)
  have HTW := Lib.hid (two_ways nc nt things ds s2.2 hok)
  have HP := Lib.hid (fun A c w' (k : Kept w w') (s1 : SlLab w' A nc (List.replicate nc topL)) => play_good A nc c _ A2 nt c2 things A3 nd c3 ds w' s1 (s2.kept k) (hd.kept k) h0 hn1 hn5 hn8 hn30 (fun w0 w S K AM AF cM cF s d hw hc hs => do_any S K A A2 AM AF nc c nt c2 cM cF s _ things d w0 w hw hc hs))
  have HK := Lib.hid (fun A c w' (k : Kept w w') (s1 : SlLab w' A nc (List.replicate nc topL)) => marked_any A nc c _ A2 nt c2 things nd w' s1 (s2.kept k))
  have HU := Lib.hid (fun w' (k : Kept w w') => turnLs_any A2 nt c2 things w' (s2.kept k) (by omega) hok)
  have HM := Lib.hid (fun A c A4 c4 w' (k : Kept w w') (s1 : SlLab w' A nc (List.replicate nc topL)) (s4 : SlLab w' A4 nt (things.map turnL)) => mplay_good A nc c _ A4 nt c4 _ A3 nd c3 ds w' s1 s4 (hd.kept k) (marksF_turn h0) hn1 hn5 hn8 hn30)
  have h2 : (marksF (List.replicate nc topL) things nd == 0) = true := by rw [h0]; rfl
  rw [h2] at HK
  generalize hcl : codesOf (lowDo nc nt (lab (List.replicate nc topL)) (lab things)) (low0 (List.replicate nc topL)) ds = cl at HTW HP
  generalize hsl : stOf (lowDo nc nt (lab (List.replicate nc topL)) (lab things)) (low0 (List.replicate nc topL)) ds = sl at HTW HP
  generalize hcm : codesOf (markDo nc nt (lab (List.replicate nc topL)) (lab (things.map turnL))) mark0 ds = cm at HTW HM
  generalize hsm : stOf (markDo nc nt (lab (List.replicate nc topL)) (lab (things.map turnL))) mark0 ds = sm at HTW HM
  clear hcl hsl hcm hsm h2 h0
  go_enter Try.func8, Try.ntmps8
  go_wp2_with fail
  go_loopw [7, 14] (fun v t wr => ∃ k : Nat, k ≤ nc ∧ t = .int .i64 k ∧ Own w wr 24 2 v k (labCells (List.replicate k topL))) (fun _ t _ => nc - (intOf t).toNat)
  case atStart => exact ⟨0, Nat.zero_le _, rfl, Own.start (Kept.refl _)⟩
  case round =>
    obtain ⟨k, hk, rfl, hown⟩ := hrel
    by_cases hlt : k < nc
    · have HS := Lib.hid (replicate_lab k)
      go_wp2_with (at_builtin; refine wpList_pushR rfl _ _ 36 rfl 24 Try.underlying36 info_label rfl (by decide) (by decide) _ _ _ _ hown #[.int .i64 3, .int .u32 31] _ _ 1 1 rfl rfl rfl rfl (one_lab2 _ _) (by omega) ?_; intro v' w7 hown7 _)
      go_roundw
      case rel => exact ⟨k + 1, by omega, by go_num, by rw [HS.out]; simpa using hown7⟩
      case measure => simp [intOf]; omega
    · obtain rfl : k = nc := by omega
      obtain ⟨AT, cT, rfl, hsl, _⟩ := hown.form
      have KT := Lib.hid hown.2
      have HT := Lib.hid (show SlLab wr AT k (List.replicate k topL) from ⟨hsl, by simp⟩)
      clear hown hsl
      go_wp2_with fail
      refine (HP.out _ cT _ KT.out HT.out).mono ?_
      rintro e w1 ⟨k1, AC, AM, AF, cC, cM, cF, rfl, hC, hM, hF⟩
      have kb := (Kept.refl w1).alloc (.cells #[.slice AC nd cC, .slice AM k cM, .slice AF nt cF] 41)
      have HB1 := Lib.hid (Box.new w1 #[.slice AC nd cC, .slice AM k cM, .slice AF nt cF] 41 w1.heap.size rfl)
      have K2 := Lib.hid (k1.trans kb)
      have C2 := Lib.hid (hC.kept kb)
      have M2 := Lib.hid (hM.kept kb)
      have F2 := Lib.hid (hF.kept kb)
      clear hC hM hF k1 kb
      go_wp2_with fail
      refine (HK.out _ cT _ (KT.out.trans K2.out) (HT.out.kept K2.out)).mono ?_
      rintro e w2 ⟨rfl, k2⟩
      have K3 := Lib.hid (K2.out.trans k2)
      go_wp2_with fail
      refine (HU.out _ (KT.out.trans K3.out)).mono ?_
      rintro e w3 ⟨A4, c4, rfl, s4, k3⟩
      have K4 := Lib.hid (K3.out.trans k3)
      have S4 := Lib.hid s4
      clear s4
      go_wp2_with fail
      refine (HM.out _ cT _ c4 _ (KT.out.trans K4.out) (HT.out.kept K4.out) S4.out).mono ?_
      rintro e w4 ⟨k4, BC, BM, BF, dC, dM, dF, rfl, hC, hM, hF⟩
      have kb := (Kept.refl w4).alloc (.cells #[.slice BC nd dC, .slice BM k dM, .slice BF nt dF] 41)
      have HB2 := Lib.hid (Box.new w4 #[.slice BC nd dC, .slice BM k dM, .slice BF nt dF] 41 w4.heap.size rfl)
      have kk := k2.trans (k3.trans (k4.trans kb))
      have K5 := Lib.hid (K4.out.trans (k4.trans kb))
      have C3 := Lib.hid (C2.out.kept kk)
      have M3 := Lib.hid (M2.out.kept kk)
      have F3 := Lib.hid (F2.out.kept kk)
      have HB1' := Lib.hid (HB1.out.kept kk)
      have D3 := Lib.hid (hC.kept kb)
      have N3 := Lib.hid (hM.kept kb)
      have G3 := Lib.hid (hF.kept kb)
      clear hC hM hF kk k4 kb k2 k3 HB1 C2 M2 F2 K2 K3 K4 HU HM HK HP
      obtain ⟨hcc, hff, hmm⟩ := HTW.out
      subst hcc
      have HFF := Lib.hid (show (List.range nt).map sm.from_ = (List.range nt).map sl.from_ by rw [hff])
      have HMT := Lib.hid (show ((List.range k).map sm.marks).map turnL = (List.range k).map sl.marks by
        rw [List.map_map]
        apply List.map_congr_left
        intro u hu
        obtain ⟨q1, q2⟩ := hmm u (List.mem_range.1 hu)
        show turnL (sm.marks u) = sl.marks u
        rw [q2]
        exact turn_turnL (labOk_iff.1 (show labOk ((sl.marks u).1, (sl.marks u).2) = true from q1)).2.2)
      have HMO := Lib.hid (show ∀ x ∈ (List.range k).map sm.marks, labOk x = true by
        intro x hx
        obtain ⟨u, hu, rfl⟩ := List.mem_map.1 hx
        obtain ⟨q1, q2⟩ := hmm u (List.mem_range.1 hu)
        rw [q2]
        exact turn_ok q1)
      rw [HFF.out] at G3
      generalize w1.heap.size = X1 at HB1'
      obtain ⟨W5, hW5⟩ : ∃ W5, w4.alloc (.cells #[.slice BC nd dC, .slice BM k dM, .slice BF nt dF] 41) = W5 := ⟨_, rfl⟩
      obtain ⟨X2, hX2⟩ : ∃ X2, w4.heap.size = X2 := ⟨_, rfl⟩
      rw [hW5] at HB2 K5 C3 M3 F3 HB1' D3 N3 G3
      rw [hX2] at HB2
      have HX := Lib.hid (show ∀ w', Kept W5 w' → w'.cell? ⟨X1, 0, none⟩ = some (.slice AC nd cC) ∧ w'.cell? ⟨X1, 1, none⟩ = some (.slice AM k cM) ∧ w'.cell? ⟨X1, 2, none⟩ = some (.slice AF nt cF) ∧ w'.cell? ⟨X2, 0, none⟩ = some (.slice BC nd dC) ∧ w'.cell? ⟨X2, 1, none⟩ = some (.slice BM k dM) ∧ w'.cell? ⟨X2, 2, none⟩ = some (.slice BF nt dF) from
        fun w' q => ⟨(HB1'.out.kept q).at_ 0 rfl, (HB1'.out.kept q).at_ 1 rfl, (HB1'.out.kept q).at_ 2 rfl, (HB2.out.kept q).at_ 0 rfl, (HB2.out.kept q).at_ 1 rfl, (HB2.out.kept q).at_ 2 rfl⟩)
      have HCo := Lib.hid (fun w' (q : Kept W5 w') => codes_same AC nd cC BC dC cl w' (C3.out.kept q) (D3.out.kept q) (by unfold maxLen; omega))
      have HWo := Lib.hid (fun w' (q : Kept W5 w') => words_any AF nt cF BF nt dF _ _ w' (F3.out.kept q) (G3.out.kept q) (by unfold maxLen; omega))
      simp only [wordsF_self] at HWo
      have HTu := Lib.hid (fun w' (q : Kept W5 w') => turnLs_any BM k dM _ w' (N3.out.kept q) (by omega) HMO.out)
      rw [HMT.out] at HTu
      have HLs := Lib.hid (fun A c w' (q : Kept W5 w') (s : SlLab w' A k ((List.range k).map sl.marks)) => labels_same AM k cM A c _ w' (M3.out.kept q) s (by unfold maxLen; omega))
      obtain ⟨a0, a1, a2, b0, b1, b2⟩ := HX.out _ (Kept.refl _)
      clear HFF HMT HMO hff hmm HB1' HB2 C3 D3 F3 G3 N3 M3 hd s2 hok S4 HT
      go_wp2_with fail
      go_region_law
        (first
         | (go_simp; go_at_call 24
            refine (HCo.out _ (by repeat first | with_reducible exact Kept.refl _ | with_reducible refine Kept.drew ?_)).mono ?_
            rintro e w6 ⟨rfl, k6⟩
            have KA := Lib.hid (show Kept W5 w6 from Kept.trans (by repeat first | with_reducible exact Kept.refl _ | with_reducible refine Kept.drew ?_) k6)
            obtain ⟨a0, a1, a2, b0, b1, b2⟩ := HX.out _ KA.out
            clear k6)
         | (go_simp; go_at_call 28
            refine (HWo.out _ KA.out).mono ?_
            rintro e w7 ⟨rfl, k7⟩
            have KB := Lib.hid (KA.out.trans k7)
            obtain ⟨a0, a1, a2, b0, b1, b2⟩ := HX.out _ KB.out
            clear k7)
         | (go_simp; go_at_call 27
            refine (HTu.out _ KB.out).mono ?_
            rintro e w8 ⟨A8, c8, rfl, s8, k8⟩
            have KC := Lib.hid (KB.out.trans k8)
            have S8 := Lib.hid s8
            obtain ⟨a0, a1, a2, b0, b1, b2⟩ := HX.out _ KC.out
            clear k8 s8)
         | (go_simp; go_at_call 29
            refine (HLs.out _ _ _ KC.out S8.out).mono ?_
            rintro e w9 ⟨rfl, k9⟩
            have KD := Lib.hid (KC.out.trans k9)
            clear k9))
      all_goals
        have KF := Lib.hid ((KT.out.trans K5.out).trans KD.out)
        clear HX HCo HWo HTu HLs HTW KA KB KC KD S8 KT K5
        go_wp2_with fail
        go_ret
        exact ⟨rfl, KF.out⟩
theorem lowTurn_walk (A1 : Option Addr) (nc c1 : Nat) (clear : List Lab) (A2 : Option Addr) (nt c2 : Nat) (things : List Lab) (A3 : Option Addr) (nd c3 : Nat) (ds : List De) (w : World) (hl1 : nc ≤ maxLen) (s1 : SlLab w A1 nc clear) (hl2 : nt ≤ maxLen) (s2 : SlLab w A2 nt things) (hl3 : nd ≤ maxLen) (hd : SlD w A3 nd ds) (hr : nc * 16 ≤ 140737488351232) :
    Calls Try.prog 8 #[.slice A1 nc c1, .slice A2 nt c2, .slice A3 nd c3] w fun e w' => e = .returned (.bool true) ∧ Below w.heap.size w w' := by
  suffices h : Calls Try.prog 8 #[.slice A1 nc c1, .slice A2 nt c2, .slice A3 nd c3] w fun e w' => e = .returned (.bool true) ∧ Kept w w' from h.mono fun e w' ⟨h1, h2⟩ => ⟨h1, h2.below⟩
  by_cases h0 : marksF (List.replicate nc topL) things nd = 0
  · exact good A1 nc c1 A2 nt c2 things A3 nd c3 ds w s2 hd h0
  · exact bad A1 nc c1 A2 nt c2 things A3 nd c3 w hr s2 h0
end Go.Proofs.Ytnnddjanbfamkaa.lowTurnDone
