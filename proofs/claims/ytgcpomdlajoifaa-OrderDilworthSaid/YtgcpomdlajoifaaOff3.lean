/- The walk of roles.Play. -/
import Derived.Test.YtgcpomdlajoifaaOff2
import Derived.Deep.RegionLaw
namespace Go.Proofs.Ytgcpomdlajoifaa
open Go Go.RowKit
set_option linter.unusedVariables false

theorem info_errnoR : (Try.prog.info? 24).map (fun i => (i.zero, i.size, i.bytes)) = some (some (.int .i64 0), 1, 8) := by kernel_rfl
theorem own_slR {w0 w : World} {E : TypeId} {s n c : Nat} {A : Option Addr} {xs : List Value} (h : Own w0 w E s (.slice A n c) n xs) : Sl w s A n xs := by
  obtain ⟨A2, c2, e, hsl, _⟩ := h.form
  injection e with e
  subst e
  exact hsl
theorem rep_rowsR (n : Nat) : rep n (.int .u32 0) = (rowsV n fun _ => 0#32).toArray := by
  unfold rep rowsV
  congr 1
  apply List.ext_getElem?
  intro i
  by_cases h : i < n
  · rw [List.getElem?_replicate, if_pos h, List.getElem?_map, List.getElem?_range h]
    rfl
  · rw [List.getElem?_replicate, if_neg h]
    symm
    rw [List.getElem?_eq_none_iff]
    simp
    omega
/-! ### sets that may be -/
def misR (n : Nat) (x : BitVec 32) : Bool := !fitB n x
theorem roP1_any (nn : Nat) (p : Addr) (x : BitVec 32) (w : World) (hp : w.cell? p = some (.int .i64 nn)) (hn6 : nn ≤ 6) :
    Calls Try.prog 59 #[.int .u32 (W x), .pointer (some p)] w fun e w' => e = .returned (.bool (misR nn x)) ∧ w = w' := by
  go_enter Try.func59, Try.ntmps59
  go_wp2
  go_ret
  exact ⟨rfl, rfl⟩
theorem roPIndex_any (nn : Nat) (p : Addr) (A : Option Addr) (n c : Nat) (xs : List (BitVec 32)) (w : World) (hs : SlW w A n xs) (hn : n ≤ 1000) (hp : w.cell? p = some (.int .i64 nn)) (hn6 : nn ≤ 6) :
    Calls Try.prog 64 #[.slice A n c, .func (.func 59) #[] #[.pointer (some p)]] w fun e w' => e = .returned (.int .i64 (firstI (misR nn) xs)) ∧ w = w' := by
  go_enter Try.func64, Try.ntmps64
  go_wp2_with fail
  go_loop [8] (fun t => ∃ q : Nat, q ≤ n ∧ t = .int .i64 q ∧ Hid ((xs.take q).any (misR nn) = false)) (fun t => n - (intOf t).toNat)
  case atStart => exact ⟨0, Nat.zero_le _, rfl, Lib.hid rfl⟩
  case round =>
    obtain ⟨q, hq, rfl, HN⟩ := hrel
    by_cases hlt : q < n
    · obtain ⟨b, off, hk, rfl, hb, cq⟩ := hs.get q hlt
      have hsn := Lib.hid (any_snoc (misR nn) xs q hk)
      have hhit := Lib.hid (firstI_hit (misR nn) xs q hk HN.out)
      cases hb1 : (misR nn) xs[q]
      · have HB := Lib.hid hb1
        clear hb1
        go_wp2_with fail
        refine (roP1_any nn p _ _ hp hn6).mono ?_
        rintro e w' ⟨rfl, rfl⟩
        rw [HB.out]
        go_wp2_with fail
        go_round
        case rel => exact ⟨q + 1, by omega, by go_num, Lib.hid (by rw [hsn.out, HN.out, HB.out]; rfl)⟩
        case measure => simp [intOf]; omega
      · have HB := Lib.hid hb1
        clear hb1
        go_wp2_with fail
        refine (roP1_any nn p _ _ hp hn6).mono ?_
        rintro e w' ⟨rfl, rfl⟩
        rw [HB.out]
        go_wp2_with fail
        go_ret
        exact ⟨by rw [hhit.out HB.out]; rfl, rfl⟩
    · have HK := Lib.hid (take_all xs q (by rw [hs.2]; omega))
      go_wp2_with fail
      go_ret
      exact ⟨by rw [firstI_none _ _ (by rw [← HK.out]; exact HN.out)]; rfl, rfl⟩
theorem roPContains_any (nn : Nat) (p : Addr) (A : Option Addr) (n c : Nat) (xs : List (BitVec 32)) (w : World) (hs : SlW w A n xs) (hn : n ≤ 1000) (hp : w.cell? p = some (.int .i64 nn)) (hn6 : nn ≤ 6) :
    Calls Try.prog 58 #[.slice A n c, .func (.func 59) #[] #[.pointer (some p)]] w fun e w' => e = .returned (.bool (xs.any (misR nn))) ∧ w = w' := by
  have H := Lib.hid (firstI_ge (misR nn) xs)
  go_enter Try.func58, Try.ntmps58
  go_wp2_with fail
  refine (roPIndex_any nn p _ _ _ xs _ hs hn hp hn6).mono ?_
  rintro e w' ⟨rfl, rfl⟩
  go_wp2_with fail
  go_ret
  exact ⟨by rw [← H.out]; rfl, rfl⟩

/-- what is wrong -/
noncomputable def offF (n : Int) (ps : List Pr) (odds : List (BitVec 32)) (users : Int) (nd : Nat) : Int :=
  if ordF n ps ≠ 0 then ordF n ps else if users < 1 ∨ 5 < users ∨ 30 < nd ∨ 10 < odds.length then 1 else if odds.any (misR n.toNat) then 4 else 0
section
variable {w0 w w' : World} {S G P : Nat} {Au : Option Addr} {n cu : Nat} {Ao : Option Addr} {no co : Nat} {VC : Value} {users : Nat} {s : RSt}
theorem OSt.grown {v : Value} {k : Nat} {xs : List Value} (h : OSt w0 w S G P Au n cu Ao no co VC users s) (o : Own w0 w 24 1 v k xs) (hg : w.grownBy w' v.ownBlock) : OSt w0 w' S G P Au n cu Ao no co VC users s :=
  ⟨h.st.grown hg (o.far h.st (by decide)) o.since, h.gv.grown hg (o.far h.gv (by decide)) o.since, h.pl.grown hg (o.far h.pl (by decide)) o.since, h.ne⟩
theorem OSt.setC (h : OSt w0 w S G P Au n cu Ao no co VC users s) (v : Value) : OSt w0 (w.setCell ⟨S, 2, none⟩ v) S G P Au n cu Ao no co v users s :=
  ⟨h.st.set 2 v, h.gv.other (p := ⟨S, 2, none⟩) _ (Ne.symm (row_neO h.st h.gv (by decide))) h.st.2.1, h.pl.other (p := ⟨S, 2, none⟩) _ (Ne.symm (row_neO h.st h.pl (by decide))) h.st.2.1, h.ne⟩
end
theorem office_made (w1 : World) (X who : Nat) (hX : w1.heap.size = X) (vs : List Value) :
    Row w1 ((((w1.alloc (.cells (rep who (.int .u32 0)) 29)).alloc (.cells (rep who (.int .u32 0)) 29)).alloc (.cells vs.toArray 90)).drew) X 29 (rowsV who fun _ => 0#32) ∧
    Row w1 ((((w1.alloc (.cells (rep who (.int .u32 0)) 29)).alloc (.cells (rep who (.int .u32 0)) 29)).alloc (.cells vs.toArray 90)).drew) (X + 1) 29 (rowsV who fun _ => 0#32) ∧
    Row w1 ((((w1.alloc (.cells (rep who (.int .u32 0)) 29)).alloc (.cells (rep who (.int .u32 0)) 29)).alloc (.cells vs.toArray 90)).drew) (X + 1 + 1) 90 vs := by
  rw [rep_rowsR]
  refine ⟨?_, ?_, ?_⟩
  · exact (Row.new (Kept.refl w1) _ _ _ hX).kept ((((Kept.refl _).alloc _).alloc _).drew)
  · exact (Row.new ((Kept.refl w1).alloc _) _ _ _ (by simp [hX])).kept (((Kept.refl _).alloc _).drew)
  · exact (Row.new (((Kept.refl w1).alloc _).alloc _) _ _ _ (by simp [hX])).drew
theorem Row.baseO {w w1 w2 : World} {B : Nat} {e : TypeId} {xs : List Value} (h : Row w1 w2 B e xs) (k : Kept w w1) : Row w w2 B e xs := ⟨h.1, Nat.le_trans k.size h.2.1, k.trans h.2.2⟩
/-- what Play hands back where nothing is wrong -/
def Officed (w' : World) (n users nd : Nat) (ps : List Pr) (odds : List (BitVec 32)) (e : Ending) : Prop :=
  ∃ (AC : Option Addr) (cC G P : Nat) (s : RSt), e = .returned (.tuple #[.agg #[.slice AC nd cC, .slice (some ⟨G, 0, none⟩) users users, .slice (some ⟨P, 0, none⟩) users users], .int .i64 0]) ∧ SlW w' (some ⟨G, 0, none⟩) users ((List.range users).map s.given) ∧ SlW w' (some ⟨P, 0, none⟩) users ((List.range users).map s.play) ∧ RInv n users ps odds s
set_option maxRecDepth 100000 in
set_option maxHeartbeats 16000000 in
theorem oplay_good (n : Nat) (A : Option Addr) (len c : Nat) (ps : List Pr) (Ao : Option Addr) (no co : Nat) (odds : List (BitVec 32)) (users : Nat) (A3 : Option Addr) (nd c3 : Nat) (ds : List De) (w : World) (hp : SlP w A len ps) (ho : SlW w Ao no odds) (hd : SlD w A3 nd ds) (hc : ordF n ps = 0) (h1 : 1 ≤ users) (h5 : users ≤ 5) (hnd : nd ≤ 30) (hno : no ≤ 10) (hmis : odds.any (misR n) = false) :
    Calls Try.prog 41 #[.int .i64 n, .slice A len c, .slice Ao no co, .int .i64 users, .slice A3 nd c3] w fun e w' => Kept w w' ∧ Officed w' n users nd ps odds e := by
  have hn6 : n ≤ 6 := by have := (ordF_zero hc).1.2.1; omega
  have hka : Kept w ((w.alloc (.cells #[.int .i64 n] 3)).alloc (.cells #[.slice none 0 0, .slice none 0 0, .slice none 0 0] 61)) := ((Kept.refl _).alloc _).alloc _
  have hbx := boxes2 (Kept.refl ((w.alloc (.cells #[.int .i64 n] 3)).alloc (.cells #[.slice none 0 0, .slice none 0 0, .slice none 0 0] 61)))
  have HV := Lib.hid (Row.new ((Kept.refl w).alloc (.cells #[.int .i64 n] 3)) 61 [.slice none 0 0, .slice none 0 0, .slice none 0 0] (w.heap.size + 1) (by simp))
  have b0 := hbx.1.at_ 0 rfl
  have HB0 := Lib.hid b0
  have HT := Lib.hid (table_any n A len c ps _ (hp.kept hka))
  have HC := Lib.hid hc
  have HM := Lib.hid hmis
  have hmk := run_make1 (P := Try.prog) 23 29 Try.underlying23 info_u32 rfl (by decide) users (by omega)
  have e1 : decide ((users : Int) < 1) = false := by simp; omega
  have e2 : decide (5 < (users : Int)) = false := by simp; omega
  have e3 : decide (30 < (nd : Int)) = false := by simp; omega
  have e4 : decide (10 < (no : Int)) = false := by simp; omega
  have HO := Lib.hid (ho.kept hka)
  have HD := Lib.hid (hd.kept hka)
  have HKA := Lib.hid hka
  clear hc hmis hp ho hd hbx hka
  go_enter Try.func41, Try.ntmps41
  go_wp2_with fail
  refine HT.out.mono ?_
  rintro e w1 ⟨k1, ⟨_, Au, cu, rfl, hup⟩ | ⟨hne, _⟩⟩
  case inr => rw [HC.out] at hne; cases hne
  rw [Int.toNat_natCast] at hup ⊢
  have HV1 := Lib.hid (HV.out.kept k1)
  have b1 := (k1.cell (cell_lt HB0.out)).trans HB0.out
  have HO1 := Lib.hid (HO.out.kept k1)
  have HD1 := Lib.hid (HD.out.kept k1)
  have HK1 := Lib.hid (HKA.out.trans k1)
  have HUP := Lib.hid hup
  generalize w.heap.size + 1 = V at HV1 ⊢
  generalize w.heap.size = Bn at b1 ⊢
  clear b0 k1 hup HV HT HB0 HO HD
  have HCN := Lib.hid (roPContains_any n ⟨Bn, 0, none⟩ Ao no co odds w1 HO1.out (by omega) b1 hn6)
  rw [HM.out] at HCN
  obtain ⟨X, hX⟩ : ∃ X : Nat, w1.heap.size = X := ⟨_, rfl⟩
  have HX := Lib.hid hX
  go_wp2_with fail
  refine HCN.out.mono ?_
  rintro e w2 ⟨rfl, rfl⟩
  clear b1
  go_wp2_with fail
  go_region
  all_goals
    first
    | (obtain ⟨w2, hw2⟩ : ∃ w2, (((w1.alloc (.cells (rep users (.int .u32 0)) 29)).alloc (.cells (rep users (.int .u32 0)) 29)).alloc (.cells #[.slice Au n cu, .slice Ao no co, .slice none 0 0, .slice (some ⟨X, 0, none⟩) users users, .slice (some ⟨(X + 1), 0, none⟩) users users] 90)).drew = w2 := ⟨_, rfl⟩
       rw [hw2]
       have hst := office_made w1 X users HX.out [.slice Au n cu, .slice Ao no co, .slice none 0 0, .slice (some ⟨X, 0, none⟩) users users, .slice (some ⟨(X + 1), 0, none⟩) users users]
       have HST := Lib.hid (show ∃ G P, G ≠ P ∧ Row w1 w2 G 29 (rowsV users fun _ => 0#32) ∧ Row w1 w2 P 29 (rowsV users fun _ => 0#32) ∧ Row w1 w2 (X + 1 + 1) 90 [.slice Au n cu, .slice Ao no co, .slice none 0 0, .slice (some ⟨G, 0, none⟩) users users, .slice (some ⟨P, 0, none⟩) users users] from ⟨X, (X + 1), by omega, hw2 ▸ hst.1, hw2 ▸ hst.2.1, hw2 ▸ hst.2.2⟩)
       clear hw2 hst)
    | (obtain ⟨w2, hw2⟩ : ∃ w2, (((w1.alloc (.cells (rep users (.int .u32 0)) 29)).alloc (.cells (rep users (.int .u32 0)) 29)).alloc (.cells #[.slice Au n cu, .slice Ao no co, .slice none 0 0, .slice (some ⟨(X + 1), 0, none⟩) users users, .slice (some ⟨X, 0, none⟩) users users] 90)).drew = w2 := ⟨_, rfl⟩
       rw [hw2]
       have hst := office_made w1 X users HX.out [.slice Au n cu, .slice Ao no co, .slice none 0 0, .slice (some ⟨(X + 1), 0, none⟩) users users, .slice (some ⟨X, 0, none⟩) users users]
       have HST := Lib.hid (show ∃ G P, G ≠ P ∧ Row w1 w2 G 29 (rowsV users fun _ => 0#32) ∧ Row w1 w2 P 29 (rowsV users fun _ => 0#32) ∧ Row w1 w2 (X + 1 + 1) 90 [.slice Au n cu, .slice Ao no co, .slice none 0 0, .slice (some ⟨G, 0, none⟩) users users, .slice (some ⟨P, 0, none⟩) users users] from ⟨(X + 1), X, by omega, hw2 ▸ hst.2.1, hw2 ▸ hst.1, hw2 ▸ hst.2.2⟩)
       clear hw2 hst)
    obtain ⟨G, P, hne, hG, hP, hS⟩ := HST.out
    have hst0 : OSt w1 w2 (X + 1 + 1) G P Au n cu Ao no co (.slice none 0 0) users ⟨fun _ => 0#32, fun _ => 0#32⟩ := ⟨hS, hG, hP, hne⟩
    have hi0 : RInv n users ps odds ⟨fun _ => 0#32, fun _ => 0#32⟩ := RInv.start (by omega)
    have HDO := Lib.hid (fun VC s d => off_any (X + 1 + 1) G P Au n cu Ao no co VC users s ps odds d w1 HUP.out HO1.out hn6 hno)
    clear HST hX hmk hG hP hS hne e1 e2 e3 e4
    generalize X + 1 + 1 = S at hst0 HDO ⊢
    go_wp2_with fail
    go_loopw [62] (fun t wr => ∃ (q : Nat) (VC : Value) (cs : List Value) (s : RSt), q ≤ nd ∧ t = .int .i64 q ∧ OSt w1 wr S G P Au n cu Ao no co VC users s ∧ RInv n users ps odds s ∧ Own w1 wr 24 1 VC q cs) (fun t _ => nd - (intOf t).toNat)
    case atStart => exact ⟨0, _, [], _, Nat.zero_le _, rfl, hst0, hi0, Own.start hst0.st.kept0⟩
    case round =>
      clear hst0 hi0
      obtain ⟨q, VC, cs, s, hq, rfl, hst, hinv, hco⟩ := hrel
      by_cases hltq : q < nd
      · obtain ⟨AC, cC, rfl, _, _⟩ := hco.form
        obtain ⟨b, off, hkq, rfl, hb, d0, d1, d2, d3, d4, d5⟩ := (HD1.out.kept hst.st.kept0).get q hltq
        generalize ds[q] = d at d0 d1 d2 d3 d4 d5
        obtain ⟨kd, by_, to_, lv, pt, vl⟩ := d
        simp only at d0 d1 d2 d3 d4 d5
        have hq1 : (0 : Int) ≤ (q : Int) := by omega
        have hq2 : (q : Int) < (nd : Int) := by omega
        have hka := (Kept.refl wr).alloc (.cells #[.int .i64 kd, .int .i64 by_, .int .i64 to_, .int .i64 lv, .int .u32 (W pt), .int .i64 vl] 94)
        obtain ⟨r, hr, hdo⟩ := HDO.out (.slice AC q cC) s (kd, by_, to_, lv, pt, vl)
        have HIN := Lib.hid (show RInv n users ps odds r.2 by
          rcases hr with e | ⟨u, t, hu, ht, e⟩
          · rw [e]; exact hinv
          · rw [e]; exact hinv.do (by omega) kd hu ht)
        have HDD := Lib.hid (fun w' (k : Kept (wr.alloc (.cells #[.int .i64 kd, .int .i64 by_, .int .i64 to_, .int .i64 lv, .int .u32 (W pt), .int .i64 vl] 94)) w') => hdo w' ((hst.kept hka).kept k))
        clear hr hdo
        obtain ⟨code, sn⟩ := r
        have HCO := Lib.hid (hco.kept hka)
        have bx := Box.new wr #[.int .i64 kd, .int .i64 by_, .int .i64 to_, .int .i64 lv, .int .u32 (W pt), .int .i64 vl] 94 wr.heap.size rfl
        have x0 := bx.at_ 0 rfl
        have x1 := bx.at_ 1 rfl
        have x2 := bx.at_ 2 rfl
        have x3 := bx.at_ 3 rfl
        have x4 := bx.at_ 4 rfl
        have x5 := bx.at_ 5 rfl
        have o2 := (hst.kept hka).st.cell 2 rfl
        clear bx hst hco hka hinv
        go_wp2_with fail
        go_region_law
          (first
           | (go_simp; go_at_call 60
              refine (HDD.out _ (by repeat first | with_reducible exact Kept.refl _ | with_reducible refine Kept.drew ?_ | with_reducible refine Kept.alloc ?_ _)).mono ?_
              rintro e w6 ⟨rfl, hw6, hkeep⟩
              have HW6 := Lib.hid hw6
              have CO6 := Lib.hid (hkeep _ _ _ _ _ (by decide) (HCO.out.kept (by repeat first | with_reducible exact Kept.refl _ | with_reducible refine Kept.drew ?_ | with_reducible refine Kept.alloc ?_ _)))
              have o2 := hw6.st.cell 2 rfl
              have o2a := (hw6.kept ((Kept.refl w6).alloc (.cells #[.int .i64 code] 24))).st.cell 2 rfl
              clear hw6 hkeep)
           | (refine step_pushAt (by rfl) _ _ 59 (by rfl) (.slice AC q cC) (by rfl) _ 1 1 (by rfl) 24 Try.underlying59 info_errnoR rfl (by decide) (by decide) _ q cs (CO6.out.kept (by repeat first | with_reducible exact Kept.refl _ | with_reducible refine Kept.drew ?_ | with_reducible refine Kept.alloc ?_ _)) #[.int .i64 code] (own_slR (Own.made HW6.out.st.kept0 24 #[.int .i64 code] 1 1 _ rfl rfl (by decide))) (by intro u hu; simp at hu; subst hu; rfl) (by decide) (by omega) ?_
              intro v7 w7 hown7 hgr7 hat7
              have HW7 := Lib.hid (OSt.grown (HW6.out.kept ((Kept.refl w6).alloc (.cells #[.int .i64 code] 24))) (CO6.out.alloc (.cells #[.int .i64 code] 24)) hgr7)
              have O7 := Lib.hid hown7
              obtain ⟨A7, c7, rfl, _, _⟩ := hown7.form
              have o2 := HW7.out.st.cell 2 rfl
              have f2 := HW7.out.st.free 2
              have hsl := HW7.out.st.lt
              clear hown7 hgr7 hat7))
        all_goals
          go_wp2_with fail
          go_roundw
          case rel => exact ⟨q + 1, .slice A7 (q + 1) c7, _, _, by omega, by go_num, HW7.out.setC _, HIN.out, O7.out.setRow HW7.out.st (by decide) 2 _⟩
          case measure => simp [intOf]; omega
      · obtain rfl : q = nd := by omega
        obtain ⟨AC, cC, rfl, _, _⟩ := hco.form
        have HW2 := Lib.hid hst
        have HI2 := Lib.hid hinv
        have RV := Lib.hid (HV1.out.kept hst.st.kept0)
        have o2 := hst.st.cell 2 rfl
        have o3 := hst.st.cell 3 rfl
        have o4 := hst.st.cell 4 rfl
        have v0 := RV.out.cell 0 rfl
        have v1 := RV.out.cell 1 rfl
        have v2 := RV.out.cell 2 rfl
        have f0 := RV.out.free 0
        have f1 := RV.out.free 1
        have f2 := RV.out.free 2
        have HG2 := Lib.hid (hst.gv.baseO HK1.out)
        have HP2 := Lib.hid (hst.pl.baseO HK1.out)
        clear hst hco hinv
        have R1 := Lib.hid (RV.out.set 0 (.slice AC q cC))
        have R2 := Lib.hid (R1.out.set 1 (.slice (some ⟨G, 0, none⟩) users users))
        have R3 := Lib.hid (R2.out.set 2 (.slice (some ⟨P, 0, none⟩) users users))
        have GG := Lib.hid (((HG2.out.other (p := ⟨V, 0, none⟩) (.slice AC q cC) (row_neO HG2.out RV.out (by decide)) RV.out.2.1).other (p := ⟨V, 1, none⟩) (.slice (some ⟨G, 0, none⟩) users users) (row_neO HG2.out RV.out (by decide)) RV.out.2.1).other (p := ⟨V, 2, none⟩) (.slice (some ⟨P, 0, none⟩) users users) (row_neO HG2.out RV.out (by decide)) RV.out.2.1)
        have PP := Lib.hid (((HP2.out.other (p := ⟨V, 0, none⟩) (.slice AC q cC) (row_neO HP2.out RV.out (by decide)) RV.out.2.1).other (p := ⟨V, 1, none⟩) (.slice (some ⟨G, 0, none⟩) users users) (row_neO HP2.out RV.out (by decide)) RV.out.2.1).other (p := ⟨V, 2, none⟩) (.slice (some ⟨P, 0, none⟩) users users) (row_neO HP2.out RV.out (by decide)) RV.out.2.1)
        have Y0 := Lib.hid (R3.out.cell 0 rfl)
        have Y1 := Lib.hid (R3.out.cell 1 rfl)
        have Y2 := Lib.hid (R3.out.cell 2 rfl)
        have FIN := Lib.hid (show Kept w (((wr.setCell ⟨V, 0, none⟩ (.slice AC q cC)).setCell ⟨V, 1, none⟩ (.slice (some ⟨G, 0, none⟩) users users)).setCell ⟨V, 2, none⟩ (.slice (some ⟨P, 0, none⟩) users users)) ∧ Officed (((wr.setCell ⟨V, 0, none⟩ (.slice AC q cC)).setCell ⟨V, 1, none⟩ (.slice (some ⟨G, 0, none⟩) users users)).setCell ⟨V, 2, none⟩ (.slice (some ⟨P, 0, none⟩) users users)) n users q ps odds (.returned (.tuple #[.agg #[.slice AC q cC, .slice (some ⟨G, 0, none⟩) users users, .slice (some ⟨P, 0, none⟩) users users], .int .i64 0])) from
          ⟨R3.out.kept0, AC, cC, G, P, s, rfl, rowsV_sl GG.out, rowsV_sl PP.out, HI2.out⟩)
        go_wp2_with fail
        exact bodyPost_ret (v := .tuple #[.agg #[.slice AC q cC, .slice (some ⟨G, 0, none⟩) users users, .slice (some ⟨P, 0, none⟩) users users], .int .i64 0]) (by simp [results, Try.results41, go_sem, Y0.out, Y1.out, Y2.out]) rfl FIN.out
/-- the three that are nothing -/
theorem zero_three {w wr : World} {V : Nat} {e : TypeId} (h : Row w wr V e [.slice none 0 0, .slice none 0 0, .slice none 0 0]) :
    Row w (((wr.setCell ⟨V, 0, none⟩ (.slice none 0 0)).setCell ⟨V, 1, none⟩ (.slice none 0 0)).setCell ⟨V, 2, none⟩ (.slice none 0 0)) V e [.slice none 0 0, .slice none 0 0, .slice none 0 0] :=
  ((h.set 0 (.slice none 0 0)).set 1 (.slice none 0 0)).set 2 (.slice none 0 0)
theorem guardsQ {users : Int} {nd no : Nat} (h : users < 1 ∨ 5 < users ∨ 30 < nd ∨ 10 < no) : decide (users < 1) = true ∨ (decide (users < 1) = false ∧ decide (5 < users) = true) ∨ (decide (users < 1) = false ∧ decide (5 < users) = false ∧ decide (30 < (nd : Int)) = true) ∨ (decide (users < 1) = false ∧ decide (5 < users) = false ∧ decide (30 < (nd : Int)) = false ∧ decide (10 < (no : Int)) = true) := by
  simp only [decide_eq_true_eq, decide_eq_false_iff_not]
  omega
set_option maxRecDepth 100000 in
set_option maxHeartbeats 8000000 in
theorem oplay_bad (n : Int) (A : Option Addr) (len c : Nat) (ps : List Pr) (Ao : Option Addr) (no co : Nat) (odds : List (BitVec 32)) (users : Int) (A3 : Option Addr) (nd c3 : Nat) (w : World) (hp : SlP w A len ps) (ho : SlW w Ao no odds) (hbad : offF n ps odds users nd ≠ 0) :
    Calls Try.prog 41 #[.int .i64 n, .slice A len c, .slice Ao no co, .int .i64 users, .slice A3 nd c3] w fun e w' => Kept w w' ∧ ∃ code : Int, code ≠ 0 ∧ e = .returned (.tuple #[.agg #[.slice none 0 0, .slice none 0 0, .slice none 0 0], .int .i64 code]) := by
  have hka : Kept w ((w.alloc (.cells #[.int .i64 n] 3)).alloc (.cells #[.slice none 0 0, .slice none 0 0, .slice none 0 0] 61)) := ((Kept.refl _).alloc _).alloc _
  have hbx := boxes2 (Kept.refl ((w.alloc (.cells #[.int .i64 n] 3)).alloc (.cells #[.slice none 0 0, .slice none 0 0, .slice none 0 0] 61)))
  have HV := Lib.hid (Row.new ((Kept.refl w).alloc (.cells #[.int .i64 n] 3)) 61 [.slice none 0 0, .slice none 0 0, .slice none 0 0] (w.heap.size + 1) (by simp))
  have b0 := hbx.1.at_ 0 rfl
  have HB0 := Lib.hid b0
  have HT := Lib.hid (table_any n A len c ps _ (hp.kept hka))
  have HO := Lib.hid (ho.kept hka)
  have HKA := Lib.hid hka
  have HLO := Lib.hid ho.2
  clear hp ho hbx hka
  by_cases hc : ordF n ps = 0
  · have HC := Lib.hid hc
    have hn6 := (ordF_zero hc).1.2.1
    obtain ⟨m, rfl⟩ := Int.eq_ofNat_of_zero_le (show 0 ≤ n by have := (ordF_zero hc).1.1; omega)
    have hb2 : (users < 1 ∨ 5 < users ∨ 30 < nd ∨ 10 < no) ∨ (¬ (users < 1 ∨ 5 < users ∨ 30 < nd ∨ 10 < no) ∧ odds.any (misR m) = true) := by
      by_cases h1 : users < 1 ∨ 5 < users ∨ 30 < nd ∨ 10 < no
      · exact .inl h1
      · refine .inr ⟨h1, ?_⟩
        unfold offF at hbad
        rw [if_neg (by rw [hc]; simp), if_neg (by rw [HLO.out]; exact h1), Int.toNat_natCast] at hbad
        cases hq : odds.any (misR m)
        · rw [hq] at hbad; exact absurd rfl hbad
        · rfl
    clear hc hbad
    rcases hb2 with hb2 | ⟨hb2, hm⟩
    · rcases guardsQ hb2 with g1 | ⟨g1, g2⟩ | ⟨g1, g2, g3⟩ | ⟨g1, g2, g3, g4⟩
      all_goals
        clear hb2
        go_enter Try.func41, Try.ntmps41
        go_wp2_with fail
        refine HT.out.mono ?_
        rintro e w1 ⟨k1, ⟨_, Au, cu, rfl, _⟩ | ⟨hne, _⟩⟩
        case inr => rw [HC.out] at hne; cases hne
        have HV1 := Lib.hid (HV.out.kept k1)
        generalize w.heap.size + 1 = V at HV1 ⊢
        have v0 := HV1.out.cell 0 rfl
        have v1 := HV1.out.cell 1 rfl
        have v2 := HV1.out.cell 2 rfl
        have f0 := HV1.out.free 0
        have f1 := HV1.out.free 1
        have f2 := HV1.out.free 2
        have R3 := Lib.hid (zero_three HV1.out)
        have Y0 := Lib.hid (R3.out.cell 0 rfl)
        have Y1 := Lib.hid (R3.out.cell 1 rfl)
        have Y2 := Lib.hid (R3.out.cell 2 rfl)
        clear HV HT HB0 b0 k1
        go_wp2_with fail
        exact bodyPost_ret (v := .tuple #[.agg #[.slice none 0 0, .slice none 0 0, .slice none 0 0], .int .i64 1]) (by simp [results, Try.results41, go_sem, Y0.out, Y1.out, Y2.out]) rfl ⟨R3.out.kept0, 1, by decide, rfl⟩
    · have e1 : decide (users < 1) = false := by simp; omega
      have e2 : decide (5 < users) = false := by simp; omega
      have e3 : decide (30 < (nd : Int)) = false := by simp; omega
      have e4 : decide (10 < (no : Int)) = false := by simp; omega
      have hn10 : no ≤ 1000 := by omega
      clear hb2
      go_enter Try.func41, Try.ntmps41
      go_wp2_with fail
      refine HT.out.mono ?_
      rintro e w1 ⟨k1, ⟨_, Au, cu, rfl, _⟩ | ⟨hne, _⟩⟩
      case inr => rw [HC.out] at hne; cases hne
      have HV1 := Lib.hid (HV.out.kept k1)
      have b1 := (k1.cell (cell_lt HB0.out)).trans HB0.out
      have HCN := Lib.hid (roPContains_any m ⟨w.heap.size, 0, none⟩ Ao no co odds w1 (HO.out.kept k1) hn10 b1 (by omega))
      rw [hm] at HCN
      generalize w.heap.size + 1 = V at HV1 ⊢
      have v0 := HV1.out.cell 0 rfl
      have v1 := HV1.out.cell 1 rfl
      have v2 := HV1.out.cell 2 rfl
      have f0 := HV1.out.free 0
      have f1 := HV1.out.free 1
      have f2 := HV1.out.free 2
      have R3 := Lib.hid (zero_three HV1.out)
      have Y0 := Lib.hid (R3.out.cell 0 rfl)
      have Y1 := Lib.hid (R3.out.cell 1 rfl)
      have Y2 := Lib.hid (R3.out.cell 2 rfl)
      clear HV HT HB0 b0 k1 hm b1
      go_wp2_with fail
      refine HCN.out.mono ?_
      rintro e w2 ⟨rfl, rfl⟩
      go_wp2_with fail
      exact bodyPost_ret (v := .tuple #[.agg #[.slice none 0 0, .slice none 0 0, .slice none 0 0], .int .i64 4]) (by simp [results, Try.results41, go_sem, Y0.out, Y1.out, Y2.out]) rfl ⟨R3.out.kept0, 4, by decide, rfl⟩
  · have HC := Lib.hid hc
    have hne0 : (ordF n ps != 0) = true := by simpa using hc
    clear hc hbad
    go_enter Try.func41, Try.ntmps41
    go_wp2_with fail
    refine HT.out.mono ?_
    rintro e w1 ⟨k1, ⟨h0, _⟩ | ⟨hne, rfl⟩⟩
    · exact absurd h0 HC.out
    have HV1 := Lib.hid (HV.out.kept k1)
    generalize w.heap.size + 1 = V at HV1 ⊢
    have v0 := HV1.out.cell 0 rfl
    have v1 := HV1.out.cell 1 rfl
    have v2 := HV1.out.cell 2 rfl
    have f0 := HV1.out.free 0
    have f1 := HV1.out.free 1
    have f2 := HV1.out.free 2
    have R3 := Lib.hid (zero_three HV1.out)
    have Y0 := Lib.hid (R3.out.cell 0 rfl)
    have Y1 := Lib.hid (R3.out.cell 1 rfl)
    have Y2 := Lib.hid (R3.out.cell 2 rfl)
    clear HV HT HB0 b0 k1 hne
    generalize ordF n ps = code at HC hne0 ⊢
    go_wp2_with fail
    exact bodyPost_ret (v := .tuple #[.agg #[.slice none 0 0, .slice none 0 0, .slice none 0 0], .int .i64 code]) (by simp [results, Try.results41, go_sem, Y0.out, Y1.out, Y2.out]) rfl ⟨R3.out.kept0, code, HC.out, rfl⟩
end Go.Proofs.Ytgcpomdlajoifaa
