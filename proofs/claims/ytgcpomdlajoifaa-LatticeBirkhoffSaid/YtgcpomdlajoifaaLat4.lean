/- The walk of lattice.build. -/
import Derived.Test.YtgcpomdlajoifaaLat3
import Derived.Test.YtgcpomdlajoifaaTail
import Derived.Deep.RegionLaw
import Derived.Deep.DeepCutAuto
namespace Go.Proofs.Ytgcpomdlajoifaa
open Go Go.RowKit
set_option linter.unusedVariables false
set_option linter.unusedSimpArgs false

theorem own_sl {w0 w : World} {E : TypeId} {s n c : Nat} {A : Option Addr} {xs : List Value} (h : Own w0 w E s (.slice A n c) n xs) : Sl w s A n xs := by
  obtain ⟨A2, c2, e, hsl, _⟩ := h.form
  injection e with e
  subst e
  exact hsl
def RetBuild (w : World) (n : Int) (ps : List Pr) (e : Ending) (w' : World) : Prop :=
  Kept w w' ∧ (((ordF n ps != 0) = true ∧ e = .returned (.tuple #[.pointer none, .int .i64 (ordF n ps)])) ∨ (ordF n ps = 0 ∧ ∃ (nn B : Nat), n = nn ∧ e = .returned (.tuple #[.pointer (some ⟨B, 0, none⟩), .int .i64 0]) ∧ TabOk w' B nn ps))
theorem latBuild_bad (n : Int) (A : Option Addr) (len c : Nat) (ps : List Pr) (w : World) (hp : SlP w A len ps) (h : (ordF n ps != 0) = true) :
    Calls Try.prog 55 #[.int .i64 n, .slice A len c] w (RetBuild w n ps) := by
  have H0 := Lib.hid h
  go_enter Try.func55, Try.ntmps55
  go_wp2_with fail
  refine (table_any n A len c ps _ hp).mono ?_
  rintro e w1 ⟨k1, ⟨hz, _⟩ | ⟨_, rfl⟩⟩
  case inl => have := H0.out; rw [hz] at this; cases this
  go_wp2_with fail
  go_ret2
  exact ⟨k1, .inl ⟨H0.out, rfl⟩⟩
set_option maxRecDepth 100000 in
set_option maxHeartbeats 16000000 in
theorem latBuild_good (n : Nat) (A : Option Addr) (len c : Nat) (ps : List Pr) (w : World) (hp : SlP w A len ps) (h : ordF n ps = 0) (h1 : 1 ≤ n) (h6 : n ≤ 6) :
    Calls Try.prog 55 #[.int .i64 n, .slice A len c] w fun e w' => Kept w w' ∧ ∃ B : Nat, e = .returned (.tuple #[.pointer (some ⟨B, 0, none⟩), .int .i64 0]) ∧ TabOk w' B n ps := by
  have H0 := Lib.hid h
  have hmk := run_make1 (P := Try.prog) 23 29 Try.underlying23 info_u32 rfl (by decide) n (by omega)
  have HDONE := Lib.hid (fun md hd => DownI.done (n := n) (ps := ps) (md := md) (by omega) hd)
  have HUL := Lib.hid (upL_length n ps)
  have hjj : ∀ a b, leastI (upL n ps) (nth (upL n ps) a &&& nth (upL n ps) b) = joinI n ps a b := fun _ _ => rfl
  have hmm : ∀ a b, leastI (upL n (turnP ps)) (nth (upL n (turnP ps)) a &&& nth (upL n (turnP ps)) b) = meetI n ps a b := fun _ _ => rfl
  have HJJ := Lib.hid hjj
  have HMM := Lib.hid hmm
  clear h hjj hmm
  go_enter Try.func55, Try.ntmps55
  go_wp2_with fail
  refine (table_any n A len c ps _ hp).mono ?_
  rintro e w1 ⟨k1, ⟨_, Au, cu, rfl, hup⟩ | ⟨hz, _⟩⟩
  case inr => rw [H0.out] at hz; cases hz
  rw [Int.toNat_natCast] at hup ⊢
  obtain ⟨ups, hups⟩ : ∃ u, upL n ps = u := ⟨_, rfl⟩
  rw [hups] at hup HDONE HUL HJJ
  obtain ⟨bu, ou, rfl, hbu, hcu⟩ := hup.open_ (by omega)
  have HUP := Lib.hid hup
  have HUPS := Lib.hid hups
  clear hup hups
  have hD : Row w1 (w1.alloc (.cells (rep n (.int .u32 0)) 29)) w1.heap.size 29 (rowsV n fun _ => 0#32) := by
    rw [rep_zero]
    exact Row.new (Kept.refl w1) _ _ _ rfl
  obtain ⟨D, hDD⟩ : ∃ D : Nat, w1.heap.size = D := ⟨_, rfl⟩
  rw [hDD] at hD
  obtain ⟨B, hBB⟩ : ∃ B : Nat, (w1.alloc (.cells (rep n (.int .u32 0)) 29)).heap.size = B := ⟨_, rfl⟩
  have hB : Row w1 ((w1.alloc (.cells (rep n (.int .u32 0)) 29)).alloc (.cells #[.slice (some ⟨bu, ou, none⟩) n cu, .slice (some ⟨D, 0, none⟩) n n, .slice none 0 0, .slice none 0 0, .bool true] 80)) B 80 [.slice (some ⟨bu, ou, none⟩) n cu, .slice (some ⟨D, 0, none⟩) n n, .slice none 0 0, .slice none 0 0, .bool true] :=
    Row.new hD.kept0 _ [.slice (some ⟨bu, ou, none⟩) n cu, .slice (some ⟨D, 0, none⟩) n n, .slice none 0 0, .slice none 0 0, .bool true] _ hBB
  have hD2 := hD.kept ((Kept.refl _).alloc (.cells #[.slice (some ⟨bu, ou, none⟩) n cu, .slice (some ⟨D, 0, none⟩) n n, .slice none 0 0, .slice none 0 0, .bool true] 80))
  have hDB : D ≠ B := by rw [← hBB, ← hDD]; simp
  go_wp2_with fail
  go_loopw [34] (fun t wr => ∃ (i : Nat) (md : Nat → BitVec 32), i ≤ n ∧ t = .int .i64 i ∧ Row w1 wr D 29 (rowsV n md) ∧ Row w1 wr B 80 [.slice (some ⟨bu, ou, none⟩) n cu, .slice (some ⟨D, 0, none⟩) n n, .slice none 0 0, .slice none 0 0, .bool true] ∧ Hid (DownI n ups i 0 md)) (fun t _ => n - (intOf t).toNat)
  case atStart => exact ⟨0, fun _ => 0#32, Nat.zero_le _, rfl, hD2, hB, Lib.hid (DownI.start n ups)⟩
  case round =>
    clear hD hB hD2
    obtain ⟨i, md, hi, rfl, hD, hB, HDI⟩ := hrel
    by_cases hlti : i < n
    · have hk0 := hB.kept0
      have ci := (hk0.cell (p := ⟨bu, ou + i, none⟩) hbu).trans (hcu i hlti)
      obtain ⟨x, hx⟩ : ∃ x, nth ups i = x := ⟨_, rfl⟩
      rw [hx] at ci
      have HX := Lib.hid hx
      have hi1 : (0 : Int) ≤ (i : Int) := by omega
      have hi2 : (i : Int) < (n : Int) := by omega
      clear hx
      go_wp2_with fail
      go_loopw [40] (fun t wr => ∃ (j : Nat) (md : Nat → BitVec 32), j ≤ n ∧ t = .int .i64 j ∧ Row w1 wr D 29 (rowsV n md) ∧ Row w1 wr B 80 [.slice (some ⟨bu, ou, none⟩) n cu, .slice (some ⟨D, 0, none⟩) n n, .slice none 0 0, .slice none 0 0, .bool true] ∧ Hid (DownI n ups i j md)) (fun t _ => n - (intOf t).toNat)
      case atStart => exact ⟨0, md, Nat.zero_le _, rfl, hD, hB, HDI⟩
      case round =>
        clear hD hB HDI
        obtain ⟨j, md, hj, rfl, hD, hB, HDI⟩ := hrel
        by_cases hltj : j < n
        · have hj1 : (0 : Int) ≤ (j : Int) := by omega
          have hj2 : (j : Int) < (n : Int) := by omega
          have b1 := hB.cell 1 rfl
          have d1 := hD.cell j (rowsV_at md hltj)
          have d2 := hD.free j
          have HNX := Lib.hid (HDI.out.step (j := j) (by omega))
          rw [HX.out] at HNX
          have HSET := Lib.hid (fun v => (rowsV_set n md j v))
          go_wp2_with fail
          go_region
          have RD := Lib.hid (hD.set j (.int .u32 (W (md j ||| (x >>> j &&& 1#32) <<< i))))
          have RB := Lib.hid (hB.other (p := ⟨D, j, none⟩) (.int .u32 (W (md j ||| (x >>> j &&& 1#32) <<< i))) (Ne.symm hDB) hD.2.1)
          go_wp2_with fail
          go_roundw
          case rel => exact ⟨j + 1, _, by omega, by go_num, by rw [← HSET.out]; exact RD.out.drew, RB.out.drew, HNX⟩
          case measure => simp [intOf]; omega
        · obtain rfl : j = n := by omega
          have HNX := Lib.hid HDI.out.next
          go_wp2_with fail
          go_roundw
          case rel => exact ⟨i + 1, md, by omega, by go_num, hD, hB, HNX⟩
          case measure => simp [intOf]; omega
    · obtain rfl : i = n := by omega
      obtain ⟨dn, hdn⟩ : ∃ d, upL i (turnP ps) = d := ⟨_, rfl⟩
      have hdone := HDONE.out md HDI.out
      rw [hdn] at hdone HMM
      have HMD := Lib.hid (fun k (hk : k < i) => show md k = nth dn k by rw [← hdone]; exact (rowsV_nth md hk).symm)
      have HDS := Lib.hid hdone
      clear hdone hdn
      go_wp2_with fail
      go_loopw [61] (fun t wr => ∃ (a : Nat) (vj vm : Value) (Vj Vm : Nat → Value) (isa : Bool), a ≤ i ∧ t = .int .i64 a ∧ Row w1 wr B 80 [.slice (some ⟨bu, ou, none⟩) i cu, .slice (some ⟨D, 0, none⟩) i i, vj, vm, .bool isa] ∧ Row w1 wr D 29 (rowsV i md) ∧ Own w1 wr 32 1 vj a (outV a Vj) ∧ Own w1 wr 32 1 vm a (outV a Vm) ∧ Dis vj vm ∧ (∀ k, k < a → Own w1 wr 3 1 (Vj k) i (rowI (joinI i ps) k i)) ∧ (∀ k, k < a → Own w1 wr 3 1 (Vm k) i (rowI (meetI i ps) k i)) ∧ Hid (isa = isUp i ps a 0)) (fun t _ => i - (intOf t).toNat)
      case atStart => exact ⟨0, _, _, fun _ => .slice none 0 0, fun _ => .slice none 0 0, true, Nat.zero_le _, rfl, hB, hD, Own.start hB.kept0, Own.start hB.kept0, Dis.nil _, fun k hk => absurd hk (Nat.not_lt_zero _), fun k hk => absurd hk (Nat.not_lt_zero _), Lib.hid rfl⟩
      case round =>
        clear hD hB
        obtain ⟨a, vj, vm, Vj, Vm, isa, ha, rfl, hB, hD, hoj, hom, hdis, hrj, hrm, HIS⟩ := hrel
        by_cases hlta : a < i
        · obtain ⟨wa, hwa⟩ : ∃ wa, wa = wr := ⟨_, rfl⟩
          subst hwa
          obtain ⟨S, hS⟩ : ∃ S, wa.heap.size = S := ⟨_, rfl⟩
          have HBLT := Lib.hid (show B < S by rw [← hS]; exact hB.lt)
          have HDLT := Lib.hid (show D < S by rw [← hS]; exact hD.lt)
          have HSS := Lib.hid (Nat.le_of_eq hS)
          have hbut := But.start wa B
          rw [hS] at hbut
          have OJ := Lib.hid hoj
          have OM := Lib.hid hom
          have RJ := Lib.hid hrj
          have RM := Lib.hid hrm
          have RD := Lib.hid hD
          have DIS := Lib.hid hdis
          have FJ := Lib.hid (hoj.far hB (by decide))
          have FM := Lib.hid (hom.far hB (by decide))
          have FRJ := Lib.hid (fun k hk => (hrj k hk).far hB (by decide))
          have FRM := Lib.hid (fun k hk => (hrm k hk).far hB (by decide))
          have ha1 : (0 : Int) ≤ (a : Int) := by omega
          have ha2 : (a : Int) < (i : Int) := by omega
          have hvj := hoj.form
          have hvm := hom.form
          obtain ⟨Aj, cj, rfl, _, _⟩ := hvj
          obtain ⟨Am, cm, rfl, _, _⟩ := hvm
          clear hoj hom hrj hrm hD hdis hS
          go_wp2_with fail
          go_loopw [13, 14, 65] (fun vjs vms t wr2 => ∃ (b : Nat) (isb : Bool), b ≤ i ∧ t = .int .i64 b ∧ Row w1 wr2 B 80 [.slice (some ⟨bu, ou, none⟩) i cu, .slice (some ⟨D, 0, none⟩) i i, .slice Aj a cj, .slice Am a cm, .bool isb] ∧ Own w1 wr2 3 1 vjs b (rowI (joinI i ps) a b) ∧ Own w1 wr2 3 1 vms b (rowI (meetI i ps) a b) ∧ Dis vjs vms ∧ (∀ k, vjs.ownBlock = some k → S ≤ k) ∧ (∀ k, vms.ownBlock = some k → S ≤ k) ∧ But S B wa wr2 ∧ Hid (isb = isUp i ps a b)) (fun _ _ t _ => i - (intOf t).toNat)
          case atStart => exact ⟨0, isa, Nat.zero_le _, rfl, hB, Own.start hB.kept0, Own.start hB.kept0, Dis.nil _, (fun k hk => by cases hk), (fun k hk => by cases hk), hbut, HIS⟩
          case round =>
            clear hB hbut HIS
            obtain ⟨b, isb, hb, rfl, hB, hj, hm, hdj, hlj, hlm, hbut, HIS⟩ := hrel
            have RDb := Lib.hid (RD.out.but hbut HSS.out hDB hB.kept0)
            by_cases hltb : b < i
            · obtain ⟨Ajs, cjs, rfl, _, _⟩ := hj.form
              obtain ⟨Ams, cms, rfl, _, _⟩ := hm.form
              have hb1 : (0 : Int) ≤ (b : Int) := by omega
              have hb2 : (b : Int) < (i : Int) := by omega
              have k0 := hB.kept0
              have ua := (k0.cell (p := ⟨bu, ou + a, none⟩) hbu).trans (hcu a hlta)
              have ub := (k0.cell (p := ⟨bu, ou + b, none⟩) hbu).trans (hcu b hltb)
              have da := RDb.out.cell a (rowsV_at md hlta)
              have db := RDb.out.cell b (rowsV_at md hltb)
              rw [HMD.out a hlta] at da
              rw [HMD.out b hltb] at db
              have b1 := hB.cell 1 rfl
              have qua := kw_cell ua
              have qub := kw_cell ub
              have qda := kw_cell da
              have qdb := kw_cell db
              have qb1 := kw_cell b1
              have HU := Lib.hid (fun w' (k : Kept wr w') => HUP.out.kept (k0.trans k))
              have HDW := Lib.hid (fun w' (k : Kept wr w') => show SlW w' (some ⟨D, 0, none⟩) i dn by rw [← HDS.out]; exact (rowsV_sl RDb.out).kept k)
              have HB := Lib.hid hB
              have HJ := Lib.hid hj
              have HM := Lib.hid hm
              have HDJ := Lib.hid hdj
              have HLJ := Lib.hid hlj
              have HLM := Lib.hid hlm
              have HBT := Lib.hid hbut
              clear hj hm hdj hlj hlm hbut k0
              go_wp2_with fail
              refine wp_region_kept (by kernel_rfl) (by kernel_rfl) ?_
              repeat (go_big_quiet_step ((go_at_call 63; exact kept_of_same (least_any _ _ _ _ _ _ (by first | exact HU.out _ (KW.kept _) | exact HDW.out _ (KW.kept _)) (by omega)))))
              refine wpQuiet_nil ?_
              intro w4 k4
              rw [HJJ.out a b, HMM.out a b]
              have B4 := Lib.hid (HB.out.kept k4)
              have J4 := Lib.hid (HJ.out.kept k4)
              have M4 := Lib.hid (HM.out.kept k4)
              have BT4 := Lib.hid (HBT.out.kept k4)
              clear ua ub da db b1 qua qub qda qdb qb1
              obtain ⟨v, hv, hcase⟩ : ∃ v, isUp i ps a (b + 1) = v ∧ ((isb = false ∧ v = false) ∨ (isb = true ∧ decide (0 ≤ joinI i ps a b) = false ∧ v = false) ∨ (isb = true ∧ decide (0 ≤ joinI i ps a b) = true ∧ decide (0 ≤ meetI i ps a b) = false ∧ v = false) ∨ (isb = true ∧ decide (0 ≤ joinI i ps a b) = true ∧ decide (0 ≤ meetI i ps a b) = true ∧ v = true)) := by
                refine ⟨_, rfl, ?_⟩
                rw [isUp_step, ← HIS.out]
                unfold okJ
                cases isb <;> cases decide (0 ≤ joinI i ps a b) <;> cases decide (0 ≤ meetI i ps a b) <;> simp
              have HV := Lib.hid hv
              clear hv HIS
              rcases hcase with ⟨rfl, rfl⟩ | ⟨rfl, e1, rfl⟩ | ⟨rfl, e1, e2, rfl⟩ | ⟨rfl, e1, e2, rfl⟩
              all_goals
                go_wp2_with (at_builtin; first
                  | (refine wpList_pushAt rfl _ _ 32 rfl 3 Try.underlying32 info_i64 rfl (by decide) (by decide) _ (.slice Ajs b cjs) _ _ J4.out #[.int .i64 (joinI i ps a b)] 3 _ 1 1 rfl rfl rfl rfl (by intro u hu; simp at hu; subst hu; rfl) (by omega) ?_
                     intro v7 w7 hown7 hgr7 hat7
                     have M7 := Lib.hid ((M4.out.alloc (.cells #[.int .i64 (joinI i ps a b)] 3)).grownD hgr7 HDJ.out.symm J4.out.since)
                     have B7 := Lib.hid ((B4.out.kept ((Kept.refl w4).alloc (.cells #[.int .i64 (joinI i ps a b)] 3))).grown hgr7 (fun e => by have := HLJ.out B e.symm; have := HBLT.out; omega) J4.out.since)
                     have BT7 := Lib.hid ((BT4.out.kept ((Kept.refl w4).alloc (.cells #[.int .i64 (joinI i ps a b)] 3))).grown hgr7 HLJ.out)
                     have DIS7 := Lib.hid (HDJ.out.symm.moved M4.out (Nat.le_succ _) hat7)
                     have LJ7 := Lib.hid (low_moved HLJ.out (Nat.le_succ_of_le BT4.out.2) hat7)
                     have J7 := Lib.hid hown7
                     obtain ⟨A7, c7, rfl, _, _⟩ := hown7.form
                     clear hown7 hgr7 hat7)
                  | (refine wpList_pushAt rfl _ _ 32 rfl 3 Try.underlying32 info_i64 rfl (by decide) (by decide) _ (.slice Ams b cms) _ _ M7.out #[.int .i64 (meetI i ps a b)] 3 _ 1 1 rfl rfl rfl rfl (by intro u hu; simp at hu; subst hu; rfl) (by omega) ?_
                     intro v8 w8 hown8 hgr8 hat8
                     have J8 := Lib.hid ((J7.out.alloc (.cells #[.int .i64 (meetI i ps a b)] 3)).grownD hgr8 DIS7.out.symm M7.out.since)
                     have B8 := Lib.hid ((B7.out.kept ((Kept.refl w7).alloc (.cells #[.int .i64 (meetI i ps a b)] 3))).grown hgr8 (fun e => by have := HLM.out B e.symm; have := HBLT.out; omega) M7.out.since)
                     have BT8 := Lib.hid ((BT7.out.kept ((Kept.refl w7).alloc (.cells #[.int .i64 (meetI i ps a b)] 3))).grown hgr8 HLM.out)
                     have DIS8 := Lib.hid (DIS7.out.symm.moved J7.out (Nat.le_succ _) hat8)
                     have LJ8 := LJ7
                     have LM8 := Lib.hid (low_moved HLM.out (Nat.le_succ_of_le BT7.out.2) hat8)
                     have M8 := Lib.hid hown8
                     have b4 := B8.out.cell 4 rfl
                     have f4 := B8.out.free 4
                     obtain ⟨A8, c8, rfl, _, _⟩ := hown8.form
                     clear hown8 hgr8 hat8))
                go_roundw
                case rel => exact ⟨b + 1, _, by omega, by go_num, B8.out.set 4 _, by rw [rowI_snoc]; exact J8.out.setRow B8.out (by decide) 4 _, by rw [rowI_snoc]; exact M8.out.setRow B8.out (by decide) 4 _, DIS8.out, LJ8.out, LM8.out, BT8.out.set 4 _, Lib.hid HV.out.symm⟩
                case measure => simp [intOf]; omega
            · obtain rfl : b = i := by omega
              obtain ⟨Ajs, cjs, rfl, _, _⟩ := hj.form
              obtain ⟨Ams, cms, rfl, _, _⟩ := hm.form
              have HOJ := Lib.hid (OJ.out.but hbut HSS.out (fun k hk e => FJ.out (by rw [hk, e])) hB.kept0)
              have HOM := Lib.hid (OM.out.but hbut HSS.out (fun k hk e => FM.out (by rw [hk, e])) hB.kept0)
              have HRJ := Lib.hid (fun k hk => (RJ.out k hk).but hbut HSS.out (fun k2 h2 e => FRJ.out k hk (by rw [h2, e])) hB.kept0)
              have HRM := Lib.hid (fun k hk => (RM.out k hk).but hbut HSS.out (fun k2 h2 e => FRM.out k hk (by rw [h2, e])) hB.kept0)
              have HK := Lib.hid hB.kept0
              have HB := Lib.hid hB
              have HJ := Lib.hid hj
              have HM := Lib.hid hm
              have FJD := Lib.hid (HOJ.out.far RDb.out (by decide))
              have FMD := Lib.hid (HOM.out.far RDb.out (by decide))
              have HISN := Lib.hid (show isb = isUp b ps (a + 1) 0 by rw [isUp_next]; exact HIS.out)
              have HJ1 := Lib.hid (show Own w1 (wr.alloc (.cells #[.slice Ajs b cjs] 32)) 32 1 (.slice (some ⟨wr.heap.size, 0, none⟩) 1 1) 1 [.slice Ajs b cjs] from Own.made HK.out 32 #[.slice Ajs b cjs] 1 1 _ rfl rfl (by decide))
              have HM1 := Lib.hid (show Own w1 (wr.alloc (.cells #[.slice Ams b cms] 32)) 32 1 (.slice (some ⟨wr.heap.size, 0, none⟩) 1 1) 1 [.slice Ams b cms] from Own.made HK.out 32 #[.slice Ams b cms] 1 1 _ rfl rfl (by decide))
              have HJ2 := Lib.hid (show Own w1 ((wr.alloc (.cells #[.slice Ams b cms] 32)).alloc (.cells #[.slice Ajs b cjs] 32)) 32 1 (.slice (some ⟨wr.heap.size + 1, 0, none⟩) 1 1) 1 [.slice Ajs b cjs] from Own.made (HK.out.alloc _) 32 #[.slice Ajs b cjs] 1 1 _ (by simp) rfl (by decide))
              have HM2 := Lib.hid (show Own w1 ((wr.alloc (.cells #[.slice Ajs b cjs] 32)).alloc (.cells #[.slice Ams b cms] 32)) 32 1 (.slice (some ⟨wr.heap.size + 1, 0, none⟩) 1 1) 1 [.slice Ams b cms] from Own.made (HK.out.alloc _) 32 #[.slice Ams b cms] 1 1 _ (by simp) rfl (by decide))
              have b2 := hB.cell 2 rfl
              have b3 := hB.cell 3 rfl
              have f2 := hB.free 2
              have f3 := hB.free 3
              have hbl := hB.lt
              clear hj hm hdj hlj hlm hbut HIS hB
              clear HDONE HUL HJJ HMM HUP HUPS hcu HMD HDS HBLT HDLT HSS OJ OM RJ RM RD FRJ FRM hmk H0 hp hbu hDD hBB HDI
              go_wp2_with fail
              have hS0 : (fun w' : World => w'.cell? ⟨B, 2, none⟩ = some (.slice Aj a cj) ∧ w'.cell? ⟨B, 3, none⟩ = some (.slice Am a cm)) wr.drew := ⟨b2, b3⟩
              refine wp_region_tail 16 1 (fun w' : World => w'.cell? ⟨B, 2, none⟩ = some (.slice Aj a cj) ∧ w'.cell? ⟨B, 3, none⟩ = some (.slice Am a cm)) (by kernel_rfl) ?_
              refine wpAnyT_take0 (v := ?_) rfl (by kernel_rfl) (by kernel_rfl) (by kernel_rfl) (fun _ _ _ h => h) (Or.inl ⟨by rfl, ?_⟩) ?_
              rotate_left
              (intro w9 hSw; go_simp)
              try with_reducible rfl
              try simp only [Act.put, List.setIfInBounds_toArray, List.set_cons_zero, List.set_cons_succ]
              refine wpAnyT_take (i := 0) (v := ?_) rfl (by kernel_rfl) (by kernel_rfl) (by kernel_rfl) (by kernel_rfl) (by kernel_rfl) (by decide) (by decide) (by decide) (by kernel_rfl) (by kernel_rfl) (fun _ _ _ h => h) (Or.inl ⟨by rfl, ?_⟩) hS0 ?_
              rotate_left
              (intro w9 hSw; (try dsimp only at hSw); go_simp)
              try with_reducible rfl
              try simp only [Act.put, List.setIfInBounds_toArray, List.set_cons_zero, List.set_cons_succ]
              refine wpAnyT_take (i := 2) (v := ?_) rfl (by kernel_rfl) (by kernel_rfl) (by kernel_rfl) (by kernel_rfl) (by kernel_rfl) (by decide) (by decide) (by decide) (by kernel_rfl) (by kernel_rfl) (fun _ _ _ h => h) (Or.inl ⟨by rfl, ?_⟩) hS0 ?_
              rotate_left
              (intro w9 hSw; (try dsimp only at hSw); go_simp)
              try with_reducible rfl
              try simp only [Act.put, List.setIfInBounds_toArray, List.set_cons_zero, List.set_cons_succ]
              refine wpAnyT_take (i := 3) (v := ?_) rfl (by kernel_rfl) (by kernel_rfl) (by kernel_rfl) (by kernel_rfl) (by kernel_rfl) (by decide) (by decide) (by decide) (by kernel_rfl) (by kernel_rfl) (fun _ _ _ h => h) (Or.inl ⟨by rfl, ?_⟩) hS0 ?_
              rotate_left
              (intro w9 hSw; (try dsimp only at hSw); go_simp)
              try with_reducible rfl
              try simp only [Act.put, List.setIfInBounds_toArray, List.set_cons_zero, List.set_cons_succ]
              refine wpAnyT_take (i := 4) (v := ?_) rfl (by kernel_rfl) (by kernel_rfl) (by kernel_rfl) (by kernel_rfl) (by kernel_rfl) (by decide) (by decide) (by decide) (by kernel_rfl) (by kernel_rfl) (fun _ _ _ h => h) (Or.inl ⟨by rfl, ?_⟩) hS0 ?_
              rotate_left
              (intro w9 hSw; (try dsimp only at hSw); go_simp)
              try with_reducible rfl
              try simp only [Act.put, List.setIfInBounds_toArray, List.set_cons_zero, List.set_cons_succ]
              refine wpAnyT_take (i := 5) (v := ?_) rfl (by kernel_rfl) (by kernel_rfl) (by kernel_rfl) (by kernel_rfl) (by kernel_rfl) (by decide) (by decide) (by decide) (by kernel_rfl) (by kernel_rfl) (fun _ _ _ h => h) (Or.inl ⟨by rfl, ?_⟩) hS0 ?_
              rotate_left
              (intro w9 hSw; (try dsimp only at hSw); go_simp)
              try with_reducible rfl
              try simp only [Act.put, List.setIfInBounds_toArray, List.set_cons_zero, List.set_cons_succ]
              refine wpAnyT_take (i := 6) (v := ?_) rfl (by kernel_rfl) (by kernel_rfl) (by kernel_rfl) (by kernel_rfl) (by kernel_rfl) (by decide) (by decide) (by decide) (by kernel_rfl) (by kernel_rfl) (fun _ _ _ h => h) (Or.inl ⟨by rfl, ?_⟩) hS0 ?_
              rotate_left
              (intro w9 hSw; (try dsimp only at hSw); go_simp)
              try with_reducible rfl
              try simp only [Act.put, List.setIfInBounds_toArray, List.set_cons_zero, List.set_cons_succ]
              refine wpAnyT_take (i := 9) (v := ?_) rfl (by kernel_rfl) (by kernel_rfl) (by kernel_rfl) (by kernel_rfl) (by kernel_rfl) (by decide) (by decide) (by decide) (by kernel_rfl) (by kernel_rfl) (fun _ _ _ h => h) (Or.inl ⟨by rfl, ?_⟩) hS0 ?_
              rotate_left
              (intro w9 hSw; (try dsimp only at hSw); go_simp)
              try with_reducible rfl
              try simp only [Act.put, List.setIfInBounds_toArray, List.set_cons_zero, List.set_cons_succ]
              refine wpAnyT_take (i := 10) (v := ?_) rfl (by kernel_rfl) (by kernel_rfl) (by kernel_rfl) (by kernel_rfl) (by kernel_rfl) (by decide) (by decide) (by decide) (by kernel_rfl) (by kernel_rfl) (fun _ _ _ h => h) (Or.inl ⟨by rfl, ?_⟩) hS0 ?_
              rotate_left
              (intro w9 hSw; (try dsimp only at hSw); go_simp)
              try with_reducible rfl
              try simp only [Act.put, List.setIfInBounds_toArray, List.set_cons_zero, List.set_cons_succ]
              refine wpAnyT_take (i := 11) (v := ?_) rfl (by kernel_rfl) (by kernel_rfl) (by kernel_rfl) (by kernel_rfl) (by kernel_rfl) (by decide) (by decide) (by decide) (by kernel_rfl) (by kernel_rfl) (fun _ _ _ h => h) (Or.inl ⟨by rfl, ?_⟩) hS0 ?_
              rotate_left
              (intro w9 hSw; (try dsimp only at hSw); go_simp)
              try with_reducible rfl
              try simp only [Act.put, List.setIfInBounds_toArray, List.set_cons_zero, List.set_cons_succ]
              refine wpAnyT_take (i := 12) (v := ?_) rfl (by kernel_rfl) (by kernel_rfl) (by kernel_rfl) (by kernel_rfl) (by kernel_rfl) (by decide) (by decide) (by decide) (by kernel_rfl) (by kernel_rfl) (fun _ _ _ h => h) (Or.inl ⟨by rfl, ?_⟩) hS0 ?_
              rotate_left
              (intro w9 hSw; (try dsimp only at hSw); go_simp)
              try with_reducible rfl
              try simp only [Act.put, List.setIfInBounds_toArray, List.set_cons_zero, List.set_cons_succ]
              refine wpAnyT_take (i := 13) (v := ?_) rfl (by kernel_rfl) (by kernel_rfl) (by kernel_rfl) (by kernel_rfl) (by kernel_rfl) (by decide) (by decide) (by decide) (by kernel_rfl) (by kernel_rfl) (fun _ _ _ h => h) (Or.inl ⟨by rfl, ?_⟩) hS0 ?_
              rotate_left
              (intro w9 hSw; (try dsimp only at hSw); go_simp)
              try with_reducible rfl
              try simp only [Act.put, List.setIfInBounds_toArray, List.set_cons_zero, List.set_cons_succ]
              have HS1 := Lib.hid (fun w' (k : Kept wr w') => show (fun w' : World => w'.cell? ⟨B, 2, none⟩ = some (.slice Aj a cj) ∧ w'.cell? ⟨B, 3, none⟩ = some (.slice Am a cm)) w' from ⟨(k.cell (cell_lt b2)).trans b2, (k.cell (cell_lt b3)).trans b3⟩)
              clear hS0
              refine wpAnyT_ready (rs := [7, 14]) (by kernel_rfl) (by simp) ?_
              refine AllReadyT.cons (i := 7) rfl (fun K hK => ?_) (AllReadyT.cons (i := 14) rfl (fun K hK => ?_) AllReadyT.nil)
              · go_simp
                refine hK.out _ _ ?_ ?_
                · (first | exact ⟨B8.out.cell 2 rfl, B8.out.cell 3 rfl⟩ | exact ⟨B7.out.cell 2 rfl, B7.out.cell 3 rfl⟩ | exact ⟨(B7.out.kept ((Kept.refl _).alloc _)).cell 2 rfl, (B7.out.kept ((Kept.refl _).alloc _)).cell 3 rfl⟩ | exact HS1.out _ (by repeat first | exact Kept.refl _ | refine Kept.alloc ?_ _ | refine Kept.drew ?_))
                clear hK K
                try simp only [Act.put, List.setIfInBounds_toArray, List.set_cons_zero, List.set_cons_succ]
                refine wpAnyT_ready (rs := [8, 14]) (by kernel_rfl) (by simp) ?_
                refine AllReadyT.cons (i := 8) rfl (fun K hK => ?_) (AllReadyT.cons (i := 14) rfl (fun K hK => ?_) AllReadyT.nil)
                · refine step_pushAt (by rfl) _ _ 42 (by rfl) (.slice Aj a cj) (by rfl) _ 1 1 (by rfl) 32 Try.underlying42 info_ints rfl (by decide) (by decide) _ a (outV a Vj) (HOJ.out.kept (by repeat first | with_reducible exact Kept.refl _ | with_reducible refine Kept.drew ?_ | with_reducible refine Kept.alloc ?_ _)) #[.slice Ajs b cjs] (own_sl (by first | with_reducible exact HJ1.out.drew | with_reducible exact (HJ1.out.alloc _).drew | with_reducible exact HJ2.out.drew)) (by intro u hu; simp at hu; subst hu; rfl) (by decide) (by omega) ?_
                  intro v7 w7 hown7 hgr7 hat7
                  have B7 := Lib.hid ((HB.out.kept (by repeat first | with_reducible exact Kept.refl _ | with_reducible refine Kept.drew ?_ | with_reducible refine Kept.alloc ?_ _)).grown hgr7 FJ.out HOJ.out.since)
                  have D7 := Lib.hid ((RDb.out.kept (by repeat first | with_reducible exact Kept.refl _ | with_reducible refine Kept.drew ?_ | with_reducible refine Kept.alloc ?_ _)).grown hgr7 FJD.out HOJ.out.since)
                  have M7 := Lib.hid ((HOM.out.kept (by repeat first | with_reducible exact Kept.refl _ | with_reducible refine Kept.drew ?_ | with_reducible refine Kept.alloc ?_ _)).grownD hgr7 DIS.out.symm HOJ.out.since)
                  have T7 := Lib.hid (fun v n xs (h : Own w1 wr 3 1 v n xs) => (h.kept (by repeat first | with_reducible exact Kept.refl _ | with_reducible refine Kept.drew ?_ | with_reducible refine Kept.alloc ?_ _)).grown hgr7 (h.far2 HOJ.out (by decide)) HOJ.out.since)
                  have DIS7 := Lib.hid (DIS.out.symm.moved HOM.out (by simp <;> omega) hat7)
                  try have CM := Lib.hid (own_sl (Own.grownD (by first | with_reducible exact (HM1.out.alloc _).drew | with_reducible exact HM2.out.drew) hgr7 (show Dis _ _ by intro k h1 h2; have := (World.ownsRow.lt HOJ.out.1 k h2).2; simp [Value.ownBlock] at h1; omega) HOJ.out.since))
                  have J7 := Lib.hid hown7
                  obtain ⟨A7, c7, rfl, _, _⟩ := hown7.form
                  have b2 := B7.out.cell 2 rfl
                  have b3 := B7.out.cell 3 rfl
                  have f2 := B7.out.free 2
                  have f3 := B7.out.free 3
                  have hbl := B7.out.lt
                  clear hown7 hgr7 hat7
                  refine hK.out _ _ ?_ ?_
                  · (first | exact ⟨B8.out.cell 2 rfl, B8.out.cell 3 rfl⟩ | exact ⟨B7.out.cell 2 rfl, B7.out.cell 3 rfl⟩ | exact ⟨(B7.out.kept ((Kept.refl _).alloc _)).cell 2 rfl, (B7.out.kept ((Kept.refl _).alloc _)).cell 3 rfl⟩ | exact HS1.out _ (by repeat first | exact Kept.refl _ | refine Kept.alloc ?_ _ | refine Kept.drew ?_))
                  clear hK K
                  try simp only [Act.put, List.setIfInBounds_toArray, List.set_cons_zero, List.set_cons_succ]
                  refine wpAnyT_ready (rs := [14]) (by kernel_rfl) (by simp) ?_
                  refine AllReadyT.cons (i := 14) rfl (fun K hK => ?_) AllReadyT.nil
                  go_simp
                  refine hK.out _ _ ?_ ?_
                  · (first | exact ⟨B8.out.cell 2 rfl, B8.out.cell 3 rfl⟩ | exact ⟨B7.out.cell 2 rfl, B7.out.cell 3 rfl⟩ | exact ⟨(B7.out.kept ((Kept.refl _).alloc _)).cell 2 rfl, (B7.out.kept ((Kept.refl _).alloc _)).cell 3 rfl⟩ | exact HS1.out _ (by repeat first | exact Kept.refl _ | refine Kept.alloc ?_ _ | refine Kept.drew ?_))
                  clear hK K
                  try simp only [Act.put, List.setIfInBounds_toArray, List.set_cons_zero, List.set_cons_succ]
                  refine wpAnyT_ready (rs := [15]) (by kernel_rfl) (by simp) ?_
                  refine AllReadyT.cons (i := 15) rfl (fun K hK => ?_) AllReadyT.nil
                  refine step_pushAt (by rfl) _ _ 42 (by rfl) (.slice Am a cm) (by rfl) _ 1 1 (by rfl) 32 Try.underlying42 info_ints rfl (by decide) (by decide) _ a (outV a Vm) (M7.out.kept (by repeat first | with_reducible exact Kept.refl _ | with_reducible refine Kept.drew ?_ | with_reducible refine Kept.alloc ?_ _)) #[.slice Ams b cms] (by first | exact own_sl (Own.made M7.out.kept0 32 #[.slice Ams b cms] 1 1 _ rfl rfl (by decide)) | exact CM.out) (by intro u hu; simp at hu; subst hu; rfl) (by decide) (by omega) ?_
                  intro v8 w8 hown8 hgr8 hat8
                  have B8 := Lib.hid ((B7.out.kept (by repeat first | with_reducible exact Kept.refl _ | with_reducible refine Kept.drew ?_ | with_reducible refine Kept.alloc ?_ _)).grown hgr8 FM.out HOM.out.since)
                  have D8 := Lib.hid ((D7.out.kept (by repeat first | with_reducible exact Kept.refl _ | with_reducible refine Kept.drew ?_ | with_reducible refine Kept.alloc ?_ _)).grown hgr8 FMD.out HOM.out.since)
                  have J8 := Lib.hid ((J7.out.kept (by repeat first | with_reducible exact Kept.refl _ | with_reducible refine Kept.drew ?_ | with_reducible refine Kept.alloc ?_ _)).grownD hgr8 DIS7.out.symm HOM.out.since)
                  have T8 := Lib.hid (fun v n xs (h : Own w1 wr 3 1 v n xs) => ((T7.out v n xs h).kept (by repeat first | with_reducible exact Kept.refl _ | with_reducible refine Kept.drew ?_ | with_reducible refine Kept.alloc ?_ _)).grown hgr8 (h.far2 HOM.out (by decide)) HOM.out.since)
                  have DIS8 := Lib.hid (DIS7.out.symm.moved J7.out (by simp) hat8)
                  have M8 := Lib.hid hown8
                  obtain ⟨A8, c8, rfl, _, _⟩ := hown8.form
                  have b2 := B8.out.cell 2 rfl
                  have b3 := B8.out.cell 3 rfl
                  have f2 := B8.out.free 2
                  have f3 := B8.out.free 3
                  have hbl := B8.out.lt
                  clear hown8 hgr8 hat8
                  refine hK.out _ _ ?_ ?_
                  · (first | exact ⟨B8.out.cell 2 rfl, B8.out.cell 3 rfl⟩ | exact ⟨B7.out.cell 2 rfl, B7.out.cell 3 rfl⟩ | exact ⟨(B7.out.kept ((Kept.refl _).alloc _)).cell 2 rfl, (B7.out.kept ((Kept.refl _).alloc _)).cell 3 rfl⟩ | exact HS1.out _ (by repeat first | exact Kept.refl _ | refine Kept.alloc ?_ _ | refine Kept.drew ?_))
                  clear hK K
                  try simp only [Act.put, List.setIfInBounds_toArray, List.set_cons_zero, List.set_cons_succ]
                  refine wpAnyT_ready (rs := [16]) (by kernel_rfl) (by simp) ?_
                  refine AllReadyT.consT (i := 16) rfl (by decide) (fun K hK => ?_) AllReadyT.nil
                  go_simp
                  refine hK.out _ _ ?_
                  clear hK K
                  try simp only [Act.put, List.setIfInBounds_toArray, List.set_cons_zero, List.set_cons_succ]
                  refine wpAnyT_ready (rs := [17]) (by kernel_rfl) (by simp) ?_
                  refine AllReadyT.consT (i := 17) rfl (by decide) (fun K hK => ?_) AllReadyT.nil
                  go_simp
                  refine hK.out _ _ ?_
                  clear hK K
                  try simp only [Act.put, List.setIfInBounds_toArray, List.set_cons_zero, List.set_cons_succ]
                  refine wpAnyT_ready (rs := [18]) (by kernel_rfl) (by simp) ?_
                  refine AllReadyT.consT (i := 18) rfl (by decide) (fun K hK => ?_) AllReadyT.nil
                  go_simp
                  refine hK.out _ _ ?_
                  clear hK K
                  try simp only [Act.put, List.setIfInBounds_toArray, List.set_cons_zero, List.set_cons_succ]
                  refine wpAnyT_ready (rs := [19]) (by kernel_rfl) (by simp) ?_
                  refine AllReadyT.consT (i := 19) rfl (by decide) (fun K hK => ?_) AllReadyT.nil
                  go_simp
                  refine hK.out _ _ ?_
                  clear hK K
                  try simp only [Act.put, List.setIfInBounds_toArray, List.set_cons_zero, List.set_cons_succ]
                  refine wpAnyT_ready (rs := [20]) (by kernel_rfl) (by simp) ?_
                  refine AllReadyT.consT (i := 20) rfl (by decide) (fun K hK => ?_) AllReadyT.nil
                  go_simp
                  refine hK.out _ _ ?_
                  clear hK K
                  try simp only [Act.put, List.setIfInBounds_toArray, List.set_cons_zero, List.set_cons_succ]
                  refine wpAnyT_ready (rs := [21]) (by kernel_rfl) (by simp) ?_
                  refine AllReadyT.consT (i := 21) rfl (by decide) (fun K hK => ?_) AllReadyT.nil
                  go_simp
                  refine hK.out _ _ ?_
                  clear hK K
                  try simp only [Act.put, List.setIfInBounds_toArray, List.set_cons_zero, List.set_cons_succ]
                  refine wpAnyT_done (by kernel_rfl) ?_ _
                  have R3 := Lib.hid ((B8.out.set 2 (.slice A7 (a + 1) c7)).set 3 (.slice A8 (a + 1) c8))
                  have SR := Lib.hid (fun v n xs (h : Own w1 w8 3 1 v n xs) => (h.setRow B8.out (by decide) 2 (.slice A7 (a + 1) c7)).setRow (B8.out.set 2 (.slice A7 (a + 1) c7)) (by decide) 3 (.slice A8 (a + 1) c8))
                  have J9 := Lib.hid ((J8.out.setRow B8.out (by decide) 2 (.slice A7 (a + 1) c7)).setRow (B8.out.set 2 (.slice A7 (a + 1) c7)) (by decide) 3 (.slice A8 (a + 1) c8))
                  have M9 := Lib.hid ((M8.out.setRow B8.out (by decide) 2 (.slice A7 (a + 1) c7)).setRow (B8.out.set 2 (.slice A7 (a + 1) c7)) (by decide) 3 (.slice A8 (a + 1) c8))
                  have D9 := Lib.hid ((D8.out.other (p := ⟨B, 2, none⟩) (.slice A7 (a + 1) c7) hDB B8.out.2.1).other (p := ⟨B, 3, none⟩) (.slice A8 (a + 1) c8) hDB B8.out.2.1)
                  have NJ := Lib.hid (fun k (hk : k < a + 1) => (show Own w1 ((w8.setCell ⟨B, 2, none⟩ (.slice A7 (a + 1) c7)).setCell ⟨B, 3, none⟩ (.slice A8 (a + 1) c8)) 3 1 (updV Vj a (.slice Ajs b cjs) k) b (rowI (joinI b ps) k b) from by
                    by_cases e : k = a
                    · rw [e]
                      have e2 : updV Vj a (.slice Ajs b cjs) a = .slice Ajs b cjs := by unfold updV; rw [if_pos rfl]
                      rw [e2]
                      exact SR.out _ _ _ (T8.out _ _ _ HJ.out)
                    · have e2 : updV Vj a (.slice Ajs b cjs) k = Vj k := by unfold updV; rw [if_neg e]
                      rw [e2]
                      exact SR.out _ _ _ (T8.out _ _ _ (HRJ.out k (by omega)))))
                  have NM := Lib.hid (fun k (hk : k < a + 1) => (show Own w1 ((w8.setCell ⟨B, 2, none⟩ (.slice A7 (a + 1) c7)).setCell ⟨B, 3, none⟩ (.slice A8 (a + 1) c8)) 3 1 (updV Vm a (.slice Ams b cms) k) b (rowI (meetI b ps) k b) from by
                    by_cases e : k = a
                    · rw [e]
                      have e2 : updV Vm a (.slice Ams b cms) a = .slice Ams b cms := by unfold updV; rw [if_pos rfl]
                      rw [e2]
                      exact SR.out _ _ _ (T8.out _ _ _ HM.out)
                    · have e2 : updV Vm a (.slice Ams b cms) k = Vm k := by unfold updV; rw [if_neg e]
                      rw [e2]
                      exact SR.out _ _ _ (T8.out _ _ _ (HRM.out k (by omega)))))
                  clear b2 b3 f2 f3
                  go_wp2_with fail
                  go_roundw
                  case rel => exact ⟨a + 1, _, _, updV Vj a (.slice Ajs b cjs), updV Vm a (.slice Ams b cms), isb, by omega, by go_num, R3.out, D9.out, by rw [outV_snoc]; exact J9.out, by rw [outV_snoc]; exact M9.out, DIS8.out, NJ.out, NM.out, HISN⟩
                  case measure => simp [intOf]; omega
                · go_simp
                  refine hK.out _ _ ?_ ?_
                  · (first | exact ⟨B8.out.cell 2 rfl, B8.out.cell 3 rfl⟩ | exact ⟨B7.out.cell 2 rfl, B7.out.cell 3 rfl⟩ | exact ⟨(B7.out.kept ((Kept.refl _).alloc _)).cell 2 rfl, (B7.out.kept ((Kept.refl _).alloc _)).cell 3 rfl⟩ | exact HS1.out _ (by repeat first | exact Kept.refl _ | refine Kept.alloc ?_ _ | refine Kept.drew ?_))
                  clear hK K
                  try simp only [Act.put, List.setIfInBounds_toArray, List.set_cons_zero, List.set_cons_succ]
                  refine wpAnyT_ready (rs := [8]) (by kernel_rfl) (by simp) ?_
                  refine AllReadyT.cons (i := 8) rfl (fun K hK => ?_) AllReadyT.nil
                  refine step_pushAt (by rfl) _ _ 42 (by rfl) (.slice Aj a cj) (by rfl) _ 1 1 (by rfl) 32 Try.underlying42 info_ints rfl (by decide) (by decide) _ a (outV a Vj) (HOJ.out.kept (by repeat first | with_reducible exact Kept.refl _ | with_reducible refine Kept.drew ?_ | with_reducible refine Kept.alloc ?_ _)) #[.slice Ajs b cjs] (own_sl (by first | with_reducible exact HJ1.out.drew | with_reducible exact (HJ1.out.alloc _).drew | with_reducible exact HJ2.out.drew)) (by intro u hu; simp at hu; subst hu; rfl) (by decide) (by omega) ?_
                  intro v7 w7 hown7 hgr7 hat7
                  have B7 := Lib.hid ((HB.out.kept (by repeat first | with_reducible exact Kept.refl _ | with_reducible refine Kept.drew ?_ | with_reducible refine Kept.alloc ?_ _)).grown hgr7 FJ.out HOJ.out.since)
                  have D7 := Lib.hid ((RDb.out.kept (by repeat first | with_reducible exact Kept.refl _ | with_reducible refine Kept.drew ?_ | with_reducible refine Kept.alloc ?_ _)).grown hgr7 FJD.out HOJ.out.since)
                  have M7 := Lib.hid ((HOM.out.kept (by repeat first | with_reducible exact Kept.refl _ | with_reducible refine Kept.drew ?_ | with_reducible refine Kept.alloc ?_ _)).grownD hgr7 DIS.out.symm HOJ.out.since)
                  have T7 := Lib.hid (fun v n xs (h : Own w1 wr 3 1 v n xs) => (h.kept (by repeat first | with_reducible exact Kept.refl _ | with_reducible refine Kept.drew ?_ | with_reducible refine Kept.alloc ?_ _)).grown hgr7 (h.far2 HOJ.out (by decide)) HOJ.out.since)
                  have DIS7 := Lib.hid (DIS.out.symm.moved HOM.out (by simp <;> omega) hat7)
                  try have CM := Lib.hid (own_sl (Own.grownD (by first | with_reducible exact (HM1.out.alloc _).drew | with_reducible exact HM2.out.drew) hgr7 (show Dis _ _ by intro k h1 h2; have := (World.ownsRow.lt HOJ.out.1 k h2).2; simp [Value.ownBlock] at h1; omega) HOJ.out.since))
                  have J7 := Lib.hid hown7
                  obtain ⟨A7, c7, rfl, _, _⟩ := hown7.form
                  have b2 := B7.out.cell 2 rfl
                  have b3 := B7.out.cell 3 rfl
                  have f2 := B7.out.free 2
                  have f3 := B7.out.free 3
                  have hbl := B7.out.lt
                  clear hown7 hgr7 hat7
                  refine hK.out _ _ ?_ ?_
                  · (first | exact ⟨B8.out.cell 2 rfl, B8.out.cell 3 rfl⟩ | exact ⟨B7.out.cell 2 rfl, B7.out.cell 3 rfl⟩ | exact ⟨(B7.out.kept ((Kept.refl _).alloc _)).cell 2 rfl, (B7.out.kept ((Kept.refl _).alloc _)).cell 3 rfl⟩ | exact HS1.out _ (by repeat first | exact Kept.refl _ | refine Kept.alloc ?_ _ | refine Kept.drew ?_))
                  clear hK K
                  try simp only [Act.put, List.setIfInBounds_toArray, List.set_cons_zero, List.set_cons_succ]
                  refine wpAnyT_ready (rs := [15]) (by kernel_rfl) (by simp) ?_
                  refine AllReadyT.cons (i := 15) rfl (fun K hK => ?_) AllReadyT.nil
                  refine step_pushAt (by rfl) _ _ 42 (by rfl) (.slice Am a cm) (by rfl) _ 1 1 (by rfl) 32 Try.underlying42 info_ints rfl (by decide) (by decide) _ a (outV a Vm) (M7.out.kept (by repeat first | with_reducible exact Kept.refl _ | with_reducible refine Kept.drew ?_ | with_reducible refine Kept.alloc ?_ _)) #[.slice Ams b cms] (by first | exact own_sl (Own.made M7.out.kept0 32 #[.slice Ams b cms] 1 1 _ rfl rfl (by decide)) | exact CM.out) (by intro u hu; simp at hu; subst hu; rfl) (by decide) (by omega) ?_
                  intro v8 w8 hown8 hgr8 hat8
                  have B8 := Lib.hid ((B7.out.kept (by repeat first | with_reducible exact Kept.refl _ | with_reducible refine Kept.drew ?_ | with_reducible refine Kept.alloc ?_ _)).grown hgr8 FM.out HOM.out.since)
                  have D8 := Lib.hid ((D7.out.kept (by repeat first | with_reducible exact Kept.refl _ | with_reducible refine Kept.drew ?_ | with_reducible refine Kept.alloc ?_ _)).grown hgr8 FMD.out HOM.out.since)
                  have J8 := Lib.hid ((J7.out.kept (by repeat first | with_reducible exact Kept.refl _ | with_reducible refine Kept.drew ?_ | with_reducible refine Kept.alloc ?_ _)).grownD hgr8 DIS7.out.symm HOM.out.since)
                  have T8 := Lib.hid (fun v n xs (h : Own w1 wr 3 1 v n xs) => ((T7.out v n xs h).kept (by repeat first | with_reducible exact Kept.refl _ | with_reducible refine Kept.drew ?_ | with_reducible refine Kept.alloc ?_ _)).grown hgr8 (h.far2 HOM.out (by decide)) HOM.out.since)
                  have DIS8 := Lib.hid (DIS7.out.symm.moved J7.out (by simp) hat8)
                  have M8 := Lib.hid hown8
                  obtain ⟨A8, c8, rfl, _, _⟩ := hown8.form
                  have b2 := B8.out.cell 2 rfl
                  have b3 := B8.out.cell 3 rfl
                  have f2 := B8.out.free 2
                  have f3 := B8.out.free 3
                  have hbl := B8.out.lt
                  clear hown8 hgr8 hat8
                  refine hK.out _ _ ?_ ?_
                  · (first | exact ⟨B8.out.cell 2 rfl, B8.out.cell 3 rfl⟩ | exact ⟨B7.out.cell 2 rfl, B7.out.cell 3 rfl⟩ | exact ⟨(B7.out.kept ((Kept.refl _).alloc _)).cell 2 rfl, (B7.out.kept ((Kept.refl _).alloc _)).cell 3 rfl⟩ | exact HS1.out _ (by repeat first | exact Kept.refl _ | refine Kept.alloc ?_ _ | refine Kept.drew ?_))
                  clear hK K
                  try simp only [Act.put, List.setIfInBounds_toArray, List.set_cons_zero, List.set_cons_succ]
                  refine wpAnyT_ready (rs := [16]) (by kernel_rfl) (by simp) ?_
                  refine AllReadyT.consT (i := 16) rfl (by decide) (fun K hK => ?_) AllReadyT.nil
                  go_simp
                  refine hK.out _ _ ?_
                  clear hK K
                  try simp only [Act.put, List.setIfInBounds_toArray, List.set_cons_zero, List.set_cons_succ]
                  refine wpAnyT_ready (rs := [17]) (by kernel_rfl) (by simp) ?_
                  refine AllReadyT.consT (i := 17) rfl (by decide) (fun K hK => ?_) AllReadyT.nil
                  go_simp
                  refine hK.out _ _ ?_
                  clear hK K
                  try simp only [Act.put, List.setIfInBounds_toArray, List.set_cons_zero, List.set_cons_succ]
                  refine wpAnyT_ready (rs := [18]) (by kernel_rfl) (by simp) ?_
                  refine AllReadyT.consT (i := 18) rfl (by decide) (fun K hK => ?_) AllReadyT.nil
                  go_simp
                  refine hK.out _ _ ?_
                  clear hK K
                  try simp only [Act.put, List.setIfInBounds_toArray, List.set_cons_zero, List.set_cons_succ]
                  refine wpAnyT_ready (rs := [19]) (by kernel_rfl) (by simp) ?_
                  refine AllReadyT.consT (i := 19) rfl (by decide) (fun K hK => ?_) AllReadyT.nil
                  go_simp
                  refine hK.out _ _ ?_
                  clear hK K
                  try simp only [Act.put, List.setIfInBounds_toArray, List.set_cons_zero, List.set_cons_succ]
                  refine wpAnyT_ready (rs := [20]) (by kernel_rfl) (by simp) ?_
                  refine AllReadyT.consT (i := 20) rfl (by decide) (fun K hK => ?_) AllReadyT.nil
                  go_simp
                  refine hK.out _ _ ?_
                  clear hK K
                  try simp only [Act.put, List.setIfInBounds_toArray, List.set_cons_zero, List.set_cons_succ]
                  refine wpAnyT_ready (rs := [21]) (by kernel_rfl) (by simp) ?_
                  refine AllReadyT.consT (i := 21) rfl (by decide) (fun K hK => ?_) AllReadyT.nil
                  go_simp
                  refine hK.out _ _ ?_
                  clear hK K
                  try simp only [Act.put, List.setIfInBounds_toArray, List.set_cons_zero, List.set_cons_succ]
                  refine wpAnyT_done (by kernel_rfl) ?_ _
                  have R3 := Lib.hid ((B8.out.set 2 (.slice A7 (a + 1) c7)).set 3 (.slice A8 (a + 1) c8))
                  have SR := Lib.hid (fun v n xs (h : Own w1 w8 3 1 v n xs) => (h.setRow B8.out (by decide) 2 (.slice A7 (a + 1) c7)).setRow (B8.out.set 2 (.slice A7 (a + 1) c7)) (by decide) 3 (.slice A8 (a + 1) c8))
                  have J9 := Lib.hid ((J8.out.setRow B8.out (by decide) 2 (.slice A7 (a + 1) c7)).setRow (B8.out.set 2 (.slice A7 (a + 1) c7)) (by decide) 3 (.slice A8 (a + 1) c8))
                  have M9 := Lib.hid ((M8.out.setRow B8.out (by decide) 2 (.slice A7 (a + 1) c7)).setRow (B8.out.set 2 (.slice A7 (a + 1) c7)) (by decide) 3 (.slice A8 (a + 1) c8))
                  have D9 := Lib.hid ((D8.out.other (p := ⟨B, 2, none⟩) (.slice A7 (a + 1) c7) hDB B8.out.2.1).other (p := ⟨B, 3, none⟩) (.slice A8 (a + 1) c8) hDB B8.out.2.1)
                  have NJ := Lib.hid (fun k (hk : k < a + 1) => (show Own w1 ((w8.setCell ⟨B, 2, none⟩ (.slice A7 (a + 1) c7)).setCell ⟨B, 3, none⟩ (.slice A8 (a + 1) c8)) 3 1 (updV Vj a (.slice Ajs b cjs) k) b (rowI (joinI b ps) k b) from by
                    by_cases e : k = a
                    · rw [e]
                      have e2 : updV Vj a (.slice Ajs b cjs) a = .slice Ajs b cjs := by unfold updV; rw [if_pos rfl]
                      rw [e2]
                      exact SR.out _ _ _ (T8.out _ _ _ HJ.out)
                    · have e2 : updV Vj a (.slice Ajs b cjs) k = Vj k := by unfold updV; rw [if_neg e]
                      rw [e2]
                      exact SR.out _ _ _ (T8.out _ _ _ (HRJ.out k (by omega)))))
                  have NM := Lib.hid (fun k (hk : k < a + 1) => (show Own w1 ((w8.setCell ⟨B, 2, none⟩ (.slice A7 (a + 1) c7)).setCell ⟨B, 3, none⟩ (.slice A8 (a + 1) c8)) 3 1 (updV Vm a (.slice Ams b cms) k) b (rowI (meetI b ps) k b) from by
                    by_cases e : k = a
                    · rw [e]
                      have e2 : updV Vm a (.slice Ams b cms) a = .slice Ams b cms := by unfold updV; rw [if_pos rfl]
                      rw [e2]
                      exact SR.out _ _ _ (T8.out _ _ _ HM.out)
                    · have e2 : updV Vm a (.slice Ams b cms) k = Vm k := by unfold updV; rw [if_neg e]
                      rw [e2]
                      exact SR.out _ _ _ (T8.out _ _ _ (HRM.out k (by omega)))))
                  clear b2 b3 f2 f3
                  go_wp2_with fail
                  go_roundw
                  case rel => exact ⟨a + 1, _, _, updV Vj a (.slice Ajs b cjs), updV Vm a (.slice Ams b cms), isb, by omega, by go_num, R3.out, D9.out, by rw [outV_snoc]; exact J9.out, by rw [outV_snoc]; exact M9.out, DIS8.out, NJ.out, NM.out, HISN⟩
                  case measure => simp [intOf]; omega
              · go_simp
                refine hK.out _ _ ?_ ?_
                · (first | exact ⟨B8.out.cell 2 rfl, B8.out.cell 3 rfl⟩ | exact ⟨B7.out.cell 2 rfl, B7.out.cell 3 rfl⟩ | exact ⟨(B7.out.kept ((Kept.refl _).alloc _)).cell 2 rfl, (B7.out.kept ((Kept.refl _).alloc _)).cell 3 rfl⟩ | exact HS1.out _ (by repeat first | exact Kept.refl _ | refine Kept.alloc ?_ _ | refine Kept.drew ?_))
                clear hK K
                try simp only [Act.put, List.setIfInBounds_toArray, List.set_cons_zero, List.set_cons_succ]
                refine wpAnyT_ready (rs := [7]) (by kernel_rfl) (by simp) ?_
                refine AllReadyT.cons (i := 7) rfl (fun K hK => ?_) AllReadyT.nil
                go_simp
                refine hK.out _ _ ?_ ?_
                · (first | exact ⟨B8.out.cell 2 rfl, B8.out.cell 3 rfl⟩ | exact ⟨B7.out.cell 2 rfl, B7.out.cell 3 rfl⟩ | exact ⟨(B7.out.kept ((Kept.refl _).alloc _)).cell 2 rfl, (B7.out.kept ((Kept.refl _).alloc _)).cell 3 rfl⟩ | exact HS1.out _ (by repeat first | exact Kept.refl _ | refine Kept.alloc ?_ _ | refine Kept.drew ?_))
                clear hK K
                try simp only [Act.put, List.setIfInBounds_toArray, List.set_cons_zero, List.set_cons_succ]
                refine wpAnyT_ready (rs := [8]) (by kernel_rfl) (by simp) ?_
                refine AllReadyT.cons (i := 8) rfl (fun K hK => ?_) AllReadyT.nil
                refine step_pushAt (by rfl) _ _ 42 (by rfl) (.slice Aj a cj) (by rfl) _ 1 1 (by rfl) 32 Try.underlying42 info_ints rfl (by decide) (by decide) _ a (outV a Vj) (HOJ.out.kept (by repeat first | with_reducible exact Kept.refl _ | with_reducible refine Kept.drew ?_ | with_reducible refine Kept.alloc ?_ _)) #[.slice Ajs b cjs] (own_sl (by first | with_reducible exact HJ1.out.drew | with_reducible exact (HJ1.out.alloc _).drew | with_reducible exact HJ2.out.drew)) (by intro u hu; simp at hu; subst hu; rfl) (by decide) (by omega) ?_
                intro v7 w7 hown7 hgr7 hat7
                have B7 := Lib.hid ((HB.out.kept (by repeat first | with_reducible exact Kept.refl _ | with_reducible refine Kept.drew ?_ | with_reducible refine Kept.alloc ?_ _)).grown hgr7 FJ.out HOJ.out.since)
                have D7 := Lib.hid ((RDb.out.kept (by repeat first | with_reducible exact Kept.refl _ | with_reducible refine Kept.drew ?_ | with_reducible refine Kept.alloc ?_ _)).grown hgr7 FJD.out HOJ.out.since)
                have M7 := Lib.hid ((HOM.out.kept (by repeat first | with_reducible exact Kept.refl _ | with_reducible refine Kept.drew ?_ | with_reducible refine Kept.alloc ?_ _)).grownD hgr7 DIS.out.symm HOJ.out.since)
                have T7 := Lib.hid (fun v n xs (h : Own w1 wr 3 1 v n xs) => (h.kept (by repeat first | with_reducible exact Kept.refl _ | with_reducible refine Kept.drew ?_ | with_reducible refine Kept.alloc ?_ _)).grown hgr7 (h.far2 HOJ.out (by decide)) HOJ.out.since)
                have DIS7 := Lib.hid (DIS.out.symm.moved HOM.out (by simp <;> omega) hat7)
                try have CM := Lib.hid (own_sl (Own.grownD (by first | with_reducible exact (HM1.out.alloc _).drew | with_reducible exact HM2.out.drew) hgr7 (show Dis _ _ by intro k h1 h2; have := (World.ownsRow.lt HOJ.out.1 k h2).2; simp [Value.ownBlock] at h1; omega) HOJ.out.since))
                have J7 := Lib.hid hown7
                obtain ⟨A7, c7, rfl, _, _⟩ := hown7.form
                have b2 := B7.out.cell 2 rfl
                have b3 := B7.out.cell 3 rfl
                have f2 := B7.out.free 2
                have f3 := B7.out.free 3
                have hbl := B7.out.lt
                clear hown7 hgr7 hat7
                refine hK.out _ _ ?_ ?_
                · (first | exact ⟨B8.out.cell 2 rfl, B8.out.cell 3 rfl⟩ | exact ⟨B7.out.cell 2 rfl, B7.out.cell 3 rfl⟩ | exact ⟨(B7.out.kept ((Kept.refl _).alloc _)).cell 2 rfl, (B7.out.kept ((Kept.refl _).alloc _)).cell 3 rfl⟩ | exact HS1.out _ (by repeat first | exact Kept.refl _ | refine Kept.alloc ?_ _ | refine Kept.drew ?_))
                clear hK K
                try simp only [Act.put, List.setIfInBounds_toArray, List.set_cons_zero, List.set_cons_succ]
                refine wpAnyT_ready (rs := [15]) (by kernel_rfl) (by simp) ?_
                refine AllReadyT.cons (i := 15) rfl (fun K hK => ?_) AllReadyT.nil
                refine step_pushAt (by rfl) _ _ 42 (by rfl) (.slice Am a cm) (by rfl) _ 1 1 (by rfl) 32 Try.underlying42 info_ints rfl (by decide) (by decide) _ a (outV a Vm) (M7.out.kept (by repeat first | with_reducible exact Kept.refl _ | with_reducible refine Kept.drew ?_ | with_reducible refine Kept.alloc ?_ _)) #[.slice Ams b cms] (by first | exact own_sl (Own.made M7.out.kept0 32 #[.slice Ams b cms] 1 1 _ rfl rfl (by decide)) | exact CM.out) (by intro u hu; simp at hu; subst hu; rfl) (by decide) (by omega) ?_
                intro v8 w8 hown8 hgr8 hat8
                have B8 := Lib.hid ((B7.out.kept (by repeat first | with_reducible exact Kept.refl _ | with_reducible refine Kept.drew ?_ | with_reducible refine Kept.alloc ?_ _)).grown hgr8 FM.out HOM.out.since)
                have D8 := Lib.hid ((D7.out.kept (by repeat first | with_reducible exact Kept.refl _ | with_reducible refine Kept.drew ?_ | with_reducible refine Kept.alloc ?_ _)).grown hgr8 FMD.out HOM.out.since)
                have J8 := Lib.hid ((J7.out.kept (by repeat first | with_reducible exact Kept.refl _ | with_reducible refine Kept.drew ?_ | with_reducible refine Kept.alloc ?_ _)).grownD hgr8 DIS7.out.symm HOM.out.since)
                have T8 := Lib.hid (fun v n xs (h : Own w1 wr 3 1 v n xs) => ((T7.out v n xs h).kept (by repeat first | with_reducible exact Kept.refl _ | with_reducible refine Kept.drew ?_ | with_reducible refine Kept.alloc ?_ _)).grown hgr8 (h.far2 HOM.out (by decide)) HOM.out.since)
                have DIS8 := Lib.hid (DIS7.out.symm.moved J7.out (by simp) hat8)
                have M8 := Lib.hid hown8
                obtain ⟨A8, c8, rfl, _, _⟩ := hown8.form
                have b2 := B8.out.cell 2 rfl
                have b3 := B8.out.cell 3 rfl
                have f2 := B8.out.free 2
                have f3 := B8.out.free 3
                have hbl := B8.out.lt
                clear hown8 hgr8 hat8
                refine hK.out _ _ ?_ ?_
                · (first | exact ⟨B8.out.cell 2 rfl, B8.out.cell 3 rfl⟩ | exact ⟨B7.out.cell 2 rfl, B7.out.cell 3 rfl⟩ | exact ⟨(B7.out.kept ((Kept.refl _).alloc _)).cell 2 rfl, (B7.out.kept ((Kept.refl _).alloc _)).cell 3 rfl⟩ | exact HS1.out _ (by repeat first | exact Kept.refl _ | refine Kept.alloc ?_ _ | refine Kept.drew ?_))
                clear hK K
                try simp only [Act.put, List.setIfInBounds_toArray, List.set_cons_zero, List.set_cons_succ]
                refine wpAnyT_ready (rs := [16]) (by kernel_rfl) (by simp) ?_
                refine AllReadyT.consT (i := 16) rfl (by decide) (fun K hK => ?_) AllReadyT.nil
                go_simp
                refine hK.out _ _ ?_
                clear hK K
                try simp only [Act.put, List.setIfInBounds_toArray, List.set_cons_zero, List.set_cons_succ]
                refine wpAnyT_ready (rs := [17]) (by kernel_rfl) (by simp) ?_
                refine AllReadyT.consT (i := 17) rfl (by decide) (fun K hK => ?_) AllReadyT.nil
                go_simp
                refine hK.out _ _ ?_
                clear hK K
                try simp only [Act.put, List.setIfInBounds_toArray, List.set_cons_zero, List.set_cons_succ]
                refine wpAnyT_ready (rs := [18]) (by kernel_rfl) (by simp) ?_
                refine AllReadyT.consT (i := 18) rfl (by decide) (fun K hK => ?_) AllReadyT.nil
                go_simp
                refine hK.out _ _ ?_
                clear hK K
                try simp only [Act.put, List.setIfInBounds_toArray, List.set_cons_zero, List.set_cons_succ]
                refine wpAnyT_ready (rs := [19]) (by kernel_rfl) (by simp) ?_
                refine AllReadyT.consT (i := 19) rfl (by decide) (fun K hK => ?_) AllReadyT.nil
                go_simp
                refine hK.out _ _ ?_
                clear hK K
                try simp only [Act.put, List.setIfInBounds_toArray, List.set_cons_zero, List.set_cons_succ]
                refine wpAnyT_ready (rs := [20]) (by kernel_rfl) (by simp) ?_
                refine AllReadyT.consT (i := 20) rfl (by decide) (fun K hK => ?_) AllReadyT.nil
                go_simp
                refine hK.out _ _ ?_
                clear hK K
                try simp only [Act.put, List.setIfInBounds_toArray, List.set_cons_zero, List.set_cons_succ]
                refine wpAnyT_ready (rs := [21]) (by kernel_rfl) (by simp) ?_
                refine AllReadyT.consT (i := 21) rfl (by decide) (fun K hK => ?_) AllReadyT.nil
                go_simp
                refine hK.out _ _ ?_
                clear hK K
                try simp only [Act.put, List.setIfInBounds_toArray, List.set_cons_zero, List.set_cons_succ]
                refine wpAnyT_done (by kernel_rfl) ?_ _
                have R3 := Lib.hid ((B8.out.set 2 (.slice A7 (a + 1) c7)).set 3 (.slice A8 (a + 1) c8))
                have SR := Lib.hid (fun v n xs (h : Own w1 w8 3 1 v n xs) => (h.setRow B8.out (by decide) 2 (.slice A7 (a + 1) c7)).setRow (B8.out.set 2 (.slice A7 (a + 1) c7)) (by decide) 3 (.slice A8 (a + 1) c8))
                have J9 := Lib.hid ((J8.out.setRow B8.out (by decide) 2 (.slice A7 (a + 1) c7)).setRow (B8.out.set 2 (.slice A7 (a + 1) c7)) (by decide) 3 (.slice A8 (a + 1) c8))
                have M9 := Lib.hid ((M8.out.setRow B8.out (by decide) 2 (.slice A7 (a + 1) c7)).setRow (B8.out.set 2 (.slice A7 (a + 1) c7)) (by decide) 3 (.slice A8 (a + 1) c8))
                have D9 := Lib.hid ((D8.out.other (p := ⟨B, 2, none⟩) (.slice A7 (a + 1) c7) hDB B8.out.2.1).other (p := ⟨B, 3, none⟩) (.slice A8 (a + 1) c8) hDB B8.out.2.1)
                have NJ := Lib.hid (fun k (hk : k < a + 1) => (show Own w1 ((w8.setCell ⟨B, 2, none⟩ (.slice A7 (a + 1) c7)).setCell ⟨B, 3, none⟩ (.slice A8 (a + 1) c8)) 3 1 (updV Vj a (.slice Ajs b cjs) k) b (rowI (joinI b ps) k b) from by
                  by_cases e : k = a
                  · rw [e]
                    have e2 : updV Vj a (.slice Ajs b cjs) a = .slice Ajs b cjs := by unfold updV; rw [if_pos rfl]
                    rw [e2]
                    exact SR.out _ _ _ (T8.out _ _ _ HJ.out)
                  · have e2 : updV Vj a (.slice Ajs b cjs) k = Vj k := by unfold updV; rw [if_neg e]
                    rw [e2]
                    exact SR.out _ _ _ (T8.out _ _ _ (HRJ.out k (by omega)))))
                have NM := Lib.hid (fun k (hk : k < a + 1) => (show Own w1 ((w8.setCell ⟨B, 2, none⟩ (.slice A7 (a + 1) c7)).setCell ⟨B, 3, none⟩ (.slice A8 (a + 1) c8)) 3 1 (updV Vm a (.slice Ams b cms) k) b (rowI (meetI b ps) k b) from by
                  by_cases e : k = a
                  · rw [e]
                    have e2 : updV Vm a (.slice Ams b cms) a = .slice Ams b cms := by unfold updV; rw [if_pos rfl]
                    rw [e2]
                    exact SR.out _ _ _ (T8.out _ _ _ HM.out)
                  · have e2 : updV Vm a (.slice Ams b cms) k = Vm k := by unfold updV; rw [if_neg e]
                    rw [e2]
                    exact SR.out _ _ _ (T8.out _ _ _ (HRM.out k (by omega)))))
                clear b2 b3 f2 f3
                go_wp2_with fail
                go_roundw
                case rel => exact ⟨a + 1, _, _, updV Vj a (.slice Ajs b cjs), updV Vm a (.slice Ams b cms), isb, by omega, by go_num, R3.out, D9.out, by rw [outV_snoc]; exact J9.out, by rw [outV_snoc]; exact M9.out, DIS8.out, NJ.out, NM.out, HISN⟩
                case measure => simp [intOf]; omega
        · obtain rfl : a = i := by omega
          obtain ⟨Aj, cj, rfl, _, _⟩ := hoj.form
          obtain ⟨Am, cm, rfl, _, _⟩ := hom.form
          have FIN := Lib.hid (show TabOk wr B a ps from ⟨_, _, _, _, _, _, _, _, hB.lt, hB.cell 0 rfl, hB.cell 1 rfl, hB.cell 2 rfl, hB.cell 3 rfl, (by rw [hB.cell 4 rfl, HIS.out, isUp_done]), (by rw [HUPS.out]; exact HUP.out.kept hB.kept0), MatI.of hoj hrj (by omega), MatI.of hom hrm (by omega)⟩)
          have HK := Lib.hid (k1.trans hB.kept0)
          clear hoj hom hrj hrm hB hD
          go_wp2_with fail
          go_ret2
          exact ⟨HK.out, B, rfl, FIN.out⟩
end Go.Proofs.Ytgcpomdlajoifaa
