/- The walk of package roles: one deed. -/
import Derived.Test.YtgcpomdlajoifaaOff1
import Derived.BigQuiet
namespace Go.Proofs.Ytgcpomdlajoifaa
open Go Go.RowKit
set_option linter.unusedVariables false

theorem belowD_any (Au : Option Addr) (n cu : Nat) (ps : List Pr) (hn : n ≤ 32) (x : BitVec 32) (w : World) (hs : SlW w Au n (upL n ps)) :
    Calls Try.prog 57 #[.slice Au n cu, .int .u32 (W x)] w fun e w' => e = .returned (.int .u32 (W (dnW n ps x))) ∧ w = w' := by
  rw [← belowF_upL hn]
  exact below_any Au n cu (upL n ps) x w hs hn
theorem bit_ne {x : BitVec 32} {t : Nat} (ht : t < 32) : (x &&& 1#32 <<< t != 0#32) = x.getLsbD t := by
  cases hb : x.getLsbD t
  · have : x &&& 1#32 <<< t = 0#32 := by
      apply BitVec.eq_of_getLsbD_eq
      intro i _
      rw [BitVec.getLsbD_and, getLsbD_bit]
      by_cases e : t = i
      · subst e; simp [hb]
      · simp [e]
    rw [this]; rfl
  · rw [bne_iff_ne]
    intro e
    have h := congrArg (fun y => y.getLsbD t) e
    simp only [BitVec.getLsbD_and, getLsbD_bit, hb] at h
    simp [ht] at h
theorem bit_eq {x : BitVec 32} {t : Nat} (ht : t < 32) : (x &&& 1#32 <<< t == 0#32) = !x.getLsbD t := by
  rw [← bit_ne ht]
  simp [bne]
theorem guardsO {b t : Int} {users n : Nat} (h : b < 0 ∨ (users : Int) ≤ b ∨ t < 0 ∨ (n : Int) ≤ t) : decide (b < 0) = true ∨ (decide (b < 0) = false ∧ decide ((users : Int) ≤ b) = true) ∨ (decide (b < 0) = false ∧ decide ((users : Int) ≤ b) = false ∧ decide (t < 0) = true) ∨ (decide (b < 0) = false ∧ decide ((users : Int) ≤ b) = false ∧ decide (t < 0) = false ∧ decide ((n : Int) ≤ t) = true) := by
  simp only [decide_eq_true_eq, decide_eq_false_iff_not]
  omega
set_option maxRecDepth 100000 in
set_option maxHeartbeats 8000000 in
theorem off_bad (S G P : Nat) (Au : Option Addr) (n cu : Nat) (Ao : Option Addr) (no co : Nat) (VC : Value) (users : Nat) (s : RSt) (ps : List Pr) (odds : List (BitVec 32)) (d : De) (w0 w : World) (hw : OSt w0 w S G P Au n cu Ao no co VC users s) (hbad : roleE users n d ≠ 0) :
    Calls Try.prog 60 #[.pointer (some ⟨S, 0, none⟩), .agg #[.int .i64 d.1, .int .i64 d.2.1, .int .i64 d.2.2.1, .int .i64 d.2.2.2.1, .int .u32 (W d.2.2.2.2.1), .int .i64 d.2.2.2.2.2]] w (RetOff w0 w S G P Au n cu Ao no co VC users (roleE users n d, s)) := by
  obtain ⟨kd, by_, to_, lv, pt, vl⟩ := d
  obtain ⟨code, hcode⟩ : ∃ code, roleE users n (kd, by_, to_, lv, pt, vl) = code := ⟨_, rfl⟩
  rw [hcode] at hbad ⊢
  have HC := Lib.hid (show (if kd < 1 ∨ 4 < kd then (6 : Int) else if by_ < 0 ∨ (users : Int) ≤ by_ ∨ to_ < 0 ∨ (n : Int) ≤ to_ then 2 else 0) = code from hcode)
  clear hcode
  simp only
  have HW := Lib.hid hw
  have hka : Kept w (w.alloc (.cells #[.int .i64 kd, .int .i64 by_, .int .i64 to_, .int .i64 lv, .int .u32 (W pt), .int .i64 vl] 94)) := (Kept.refl _).alloc _
  have hbx := Box.new w #[.int .i64 kd, .int .i64 by_, .int .i64 to_, .int .i64 lv, .int .u32 (W pt), .int .i64 vl] 94 w.heap.size rfl
  have d0 := hbx.at_ 0 rfl
  have d1 := hbx.at_ 1 rfl
  have d2 := hbx.at_ 2 rfl
  have s0 := (hw.st.kept hka).cell 0 rfl
  have s3 := (hw.st.kept hka).cell 3 rfl
  have HK := Lib.hid hka
  clear hw hbx hka
  by_cases hkd : kd < 1 ∨ 4 < kd
  · obtain rfl : code = 6 := by rw [← HC.out, if_pos hkd]
    have hk : decide (kd < 1) = true ∨ (decide (kd < 1) = false ∧ decide (4 < kd) = true) := by
      simp only [decide_eq_true_eq, decide_eq_false_iff_not]; omega
    clear hkd HC hbad
    rcases hk with e1 | ⟨e1, e2⟩
    all_goals
      go_enter Try.func60, Try.ntmps60
      go_wp2_with fail
      go_ret
      exact ⟨rfl, HW.out.kept HK.out, KeepsO.of HK.out⟩
  · have e1 : decide (kd < 1) = false := by simp; omega
    have e2 : decide (4 < kd) = false := by simp; omega
    obtain ⟨rfl, hc2⟩ : code = 2 ∧ (by_ < 0 ∨ (users : Int) ≤ by_ ∨ to_ < 0 ∨ (n : Int) ≤ to_) := by
      have := HC.out
      rw [if_neg hkd] at this
      split at this
      · exact ⟨this.symm, by assumption⟩
      · exact absurd this.symm hbad
    clear HC hbad hkd
    rcases guardsO hc2 with g1 | ⟨g1, g2⟩ | ⟨g1, g2, g3⟩ | ⟨g1, g2, g3, g4⟩
    all_goals
      clear hc2
      go_enter Try.func60, Try.ntmps60
      go_wp2_with fail
      go_quiet (fail)
      go_wp2_with fail
      go_ret
      exact ⟨rfl, HW.out.kept (HK.out.drewN nq), KeepsO.of (HK.out.drewN nq)⟩
set_option maxRecDepth 100000 in
set_option maxHeartbeats 8000000 in
theorem off_rest (S G P : Nat) (Au : Option Addr) (n cu : Nat) (Ao : Option Addr) (no co : Nat) (VC : Value) (users : Nat) (s : RSt) (ps : List Pr) (odds : List (BitVec 32)) (u t : Nat) (lv : Int) (pt : BitVec 32) (vl : Int) (w0 w : World) (hw : OSt w0 w S G P Au n cu Ao no co VC users s) (hup : SlW w0 Au n (upL n ps)) (hod : SlW w0 Ao no odds) (hn6 : n ≤ 6) (hno : no ≤ 10) (hu : u < users) (ht : t < n) :
    Calls Try.prog 60 #[.pointer (some ⟨S, 0, none⟩), .agg #[.int .i64 4, .int .i64 u, .int .i64 t, .int .i64 lv, .int .u32 (W pt), .int .i64 vl]] w (RetOff w0 w S G P Au n cu Ao no co VC users (roleDo n ps odds s 4 u t)) := by
  have HW := Lib.hid hw
  have HUP := Lib.hid hup
  have HOD := Lib.hid hod
  have hka : Kept w (w.alloc (.cells #[.int .i64 4, .int .i64 u, .int .i64 t, .int .i64 lv, .int .u32 (W pt), .int .i64 vl] 94)) := (Kept.refl _).alloc _
  have hbx := Row.new hw.st.kept0 94 [.int .i64 4, .int .i64 u, .int .i64 t, .int .i64 lv, .int .u32 (W pt), .int .i64 vl] _ rfl
  obtain ⟨w2, hw2⟩ : ∃ w2, w.alloc (.cells #[.int .i64 4, .int .i64 u, .int .i64 t, .int .i64 lv, .int .u32 (W pt), .int .i64 vl] 94) = w2 := ⟨_, rfl⟩
  have HK := Lib.hid (show Kept w w2 from hw2 ▸ hka)
  have DB := Lib.hid (show Row w0 w2 w.heap.size 94 [.int .i64 4, .int .i64 u, .int .i64 t, .int .i64 lv, .int .u32 (W pt), .int .i64 vl] from hw2 ▸ hbx)
  have g1 : decide ((u : Int) < 0) = false := by simp
  have g2 : decide (users ≤ u) = false := by simp; omega
  have g3 : decide ((t : Int) < 0) = false := by simp
  have g4 : decide (n ≤ t) = false := by simp; omega
  have hu1 : (0 : Int) ≤ (u : Int) := by omega
  have hu2 : (u : Int) < (users : Int) := by omega
  have ht1 : (0 : Int) ≤ (t : Int) := by omega
  have ht2 : (t : Int) < (n : Int) := by omega
  have HT := Lib.hid (show t < 32 by omega)
  have d0 := DB.out.cell 0 rfl
  have d1 := DB.out.cell 1 rfl
  have d2 := DB.out.cell 2 rfl
  have s0 := (hw.st.kept HK.out).cell 0 rfl
  have s3 := (hw.st.kept HK.out).cell 3 rfl
  obtain ⟨gu, hgu⟩ : ∃ gu, s.given u = gu := ⟨_, rfl⟩
  obtain ⟨pu, hpu⟩ : ∃ pu, s.play u = pu := ⟨_, rfl⟩
  have HGU := Lib.hid hgu
  have HPU := Lib.hid hpu
  obtain ⟨r, hr⟩ : ∃ r, roleDo n ps odds s 4 u t = r := ⟨_, rfl⟩
  have HR := Lib.hid hr
  rw [hr]
  clear hw hbx hka hup hod hgu hpu hr
  go_enter Try.func60, Try.ntmps60
  go_wp2_with fail
  go_quiet (fail)
  have k3 := (Kept.refl w2).drewN nq
  obtain ⟨w3, hw3⟩ : ∃ w3, w2.drewN nq = w3 := ⟨_, rfl⟩
  rw [hw3] at k3 ⊢
  have K3 := Lib.hid (HK.out.trans k3)
  have DB3 := Lib.hid (DB.out.kept k3)
  have HW3 := Lib.hid (HW.out.kept K3.out)
  clear d0 d1 d2 s0 s3 hw2 hw3 k3 g1 g2 g3 g4
  have d0 := DB3.out.cell 0 rfl
  have d1 := DB3.out.cell 1 rfl
  have d2 := DB3.out.cell 2 rfl
  have s3 := HW3.out.st.cell 3 rfl
  have s4 := HW3.out.st.cell 4 rfl
  go_wp2_with fail
  go_quiet (fail)
  rename_i nq2
  have k4 := (Kept.refl w3).drewN nq
  obtain ⟨w4, hw4⟩ : ∃ w4, w3.drewN nq = w4 := ⟨_, rfl⟩
  rw [hw4] at k4 ⊢
  have K4 := Lib.hid (K3.out.trans k4)
  have DB4 := Lib.hid (DB3.out.kept k4)
  have HW4 := Lib.hid (HW3.out.kept k4)
  clear d0 d1 d2 s3 s4 hw4 k4 DB3 HW3 DB HK K3
  have d0 := DB4.out.cell 0 rfl
  have d2 := DB4.out.cell 2 rfl
  have s0 := HW4.out.st.cell 0 rfl
  have s1 := HW4.out.st.cell 1 rfl
  have gq := HW4.out.gv.cell u (rowsV_at s.given hu)
  have gf := HW4.out.gv.free u
  have pq := HW4.out.pl.cell u (rowsV_at s.play hu)
  have pf := HW4.out.pl.free u
  rw [HGU.out] at gq
  rw [HPU.out] at pq
  have HKO := Lib.hid (KeepsO.of (w0 := w0) K4.out)
  have HB := Lib.hid (bit_eq (x := pu) HT.out)
  cases hb : pu.getLsbD t
  · have hb2 : (pu &&& 1#32 <<< t == 0#32) = true := by rw [HB.out, hb]; rfl
    have FIN := Lib.hid (show r = (5, s) by rw [← HR.out]; unfold roleDo; rw [if_neg (by decide), if_neg (by decide), if_neg (by decide), HPU.out, hb]; rfl)
    clear hb
    go_wp2_with fail
    go_ret
    exact ⟨by rw [FIN.out]; rfl, by rw [FIN.out]; exact HW4.out, HKO.out⟩
  · have hb2 : (pu &&& 1#32 <<< t == 0#32) = false := by rw [HB.out, hb]; rfl
    have FIN := Lib.hid (show r = (0, ⟨s.given, updR s.play u (pu &&& ~~~(1#32 <<< t))⟩) by rw [← HR.out]; unfold roleDo; rw [if_neg (by decide), if_neg (by decide), if_neg (by decide), HPU.out, hb]; rfl)
    have HN := Lib.hid (HW4.out.setP u (pu &&& ~~~(1#32 <<< t)))
    have HKN := Lib.hid (HKO.out.trans (KeepsO.setRow HW4.out.pl u (.int .u32 (W (pu &&& ~~~(1#32 <<< t))))))
    clear hb
    go_wp2_with fail
    go_ret
    exact ⟨by rw [FIN.out]; rfl, by rw [FIN.out]; exact HN.out, HKN.out⟩
set_option maxRecDepth 100000 in
set_option maxHeartbeats 8000000 in
theorem off_play (S G P : Nat) (Au : Option Addr) (n cu : Nat) (Ao : Option Addr) (no co : Nat) (VC : Value) (users : Nat) (s : RSt) (ps : List Pr) (odds : List (BitVec 32)) (u t : Nat) (lv : Int) (pt : BitVec 32) (vl : Int) (w0 w : World) (hw : OSt w0 w S G P Au n cu Ao no co VC users s) (hup : SlW w0 Au n (upL n ps)) (hod : SlW w0 Ao no odds) (hn6 : n ≤ 6) (hno : no ≤ 10) (hu : u < users) (ht : t < n) :
    Calls Try.prog 60 #[.pointer (some ⟨S, 0, none⟩), .agg #[.int .i64 3, .int .i64 u, .int .i64 t, .int .i64 lv, .int .u32 (W pt), .int .i64 vl]] w (RetOff w0 w S G P Au n cu Ao no co VC users (roleDo n ps odds s 3 u t)) := by
  have HW := Lib.hid hw
  have HUP := Lib.hid hup
  have HOD := Lib.hid hod
  have hka : Kept w (w.alloc (.cells #[.int .i64 3, .int .i64 u, .int .i64 t, .int .i64 lv, .int .u32 (W pt), .int .i64 vl] 94)) := (Kept.refl _).alloc _
  have hbx := Row.new hw.st.kept0 94 [.int .i64 3, .int .i64 u, .int .i64 t, .int .i64 lv, .int .u32 (W pt), .int .i64 vl] _ rfl
  obtain ⟨w2, hw2⟩ : ∃ w2, w.alloc (.cells #[.int .i64 3, .int .i64 u, .int .i64 t, .int .i64 lv, .int .u32 (W pt), .int .i64 vl] 94) = w2 := ⟨_, rfl⟩
  have HK := Lib.hid (show Kept w w2 from hw2 ▸ hka)
  have DB := Lib.hid (show Row w0 w2 w.heap.size 94 [.int .i64 3, .int .i64 u, .int .i64 t, .int .i64 lv, .int .u32 (W pt), .int .i64 vl] from hw2 ▸ hbx)
  have g1 : decide ((u : Int) < 0) = false := by simp
  have g2 : decide (users ≤ u) = false := by simp; omega
  have g3 : decide ((t : Int) < 0) = false := by simp
  have g4 : decide (n ≤ t) = false := by simp; omega
  have hu1 : (0 : Int) ≤ (u : Int) := by omega
  have hu2 : (u : Int) < (users : Int) := by omega
  have ht1 : (0 : Int) ≤ (t : Int) := by omega
  have ht2 : (t : Int) < (n : Int) := by omega
  have HT := Lib.hid (show t < 32 by omega)
  have d0 := DB.out.cell 0 rfl
  have d1 := DB.out.cell 1 rfl
  have d2 := DB.out.cell 2 rfl
  have s0 := (hw.st.kept HK.out).cell 0 rfl
  have s3 := (hw.st.kept HK.out).cell 3 rfl
  obtain ⟨gu, hgu⟩ : ∃ gu, s.given u = gu := ⟨_, rfl⟩
  obtain ⟨pu, hpu⟩ : ∃ pu, s.play u = pu := ⟨_, rfl⟩
  have HGU := Lib.hid hgu
  have HPU := Lib.hid hpu
  obtain ⟨r, hr⟩ : ∃ r, roleDo n ps odds s 3 u t = r := ⟨_, rfl⟩
  have HR := Lib.hid hr
  rw [hr]
  clear hw hbx hka hup hod hgu hpu hr
  go_enter Try.func60, Try.ntmps60
  go_wp2_with fail
  go_quiet (fail)
  have k3 := (Kept.refl w2).drewN nq
  obtain ⟨w3, hw3⟩ : ∃ w3, w2.drewN nq = w3 := ⟨_, rfl⟩
  rw [hw3] at k3 ⊢
  have K3 := Lib.hid (HK.out.trans k3)
  have DB3 := Lib.hid (DB.out.kept k3)
  have HW3 := Lib.hid (HW.out.kept K3.out)
  clear d0 d1 d2 s0 s3 hw2 hw3 k3 g1 g2 g3 g4
  have d0 := DB3.out.cell 0 rfl
  have d1 := DB3.out.cell 1 rfl
  have d2 := DB3.out.cell 2 rfl
  have s3 := HW3.out.st.cell 3 rfl
  have s4 := HW3.out.st.cell 4 rfl
  go_wp2_with fail
  go_quiet (fail)
  rename_i nq2
  have k4 := (Kept.refl w3).drewN nq
  obtain ⟨w4, hw4⟩ : ∃ w4, w3.drewN nq = w4 := ⟨_, rfl⟩
  rw [hw4] at k4 ⊢
  have K4 := Lib.hid (K3.out.trans k4)
  have DB4 := Lib.hid (DB3.out.kept k4)
  have HW4 := Lib.hid (HW3.out.kept k4)
  clear d0 d1 d2 s3 s4 hw4 k4 DB3 HW3 DB HK K3
  have d0 := DB4.out.cell 0 rfl
  have d2 := DB4.out.cell 2 rfl
  have s0 := HW4.out.st.cell 0 rfl
  have s1 := HW4.out.st.cell 1 rfl
  have gq := HW4.out.gv.cell u (rowsV_at s.given hu)
  have gf := HW4.out.gv.free u
  have pq := HW4.out.pl.cell u (rowsV_at s.play hu)
  have pf := HW4.out.pl.free u
  rw [HGU.out] at gq
  rw [HPU.out] at pq
  have HKO := Lib.hid (KeepsO.of (w0 := w0) K4.out)
  have HB := Lib.hid (bit_eq (x := dnW n ps gu) HT.out)
  have HBN := Lib.hid (bit_ne (x := pu) HT.out)
  have HBE := Lib.hid (bit_eq (x := pu) HT.out)
  have HCALL := Lib.hid (fun w' (k : Kept w4 w') => belowD_any Au n cu ps (by omega) gu w' (HUP.out.kept (HW4.out.st.kept0.trans k)))
  have HDN := Lib.hid (show ∀ b, (dnW n ps gu).getLsbD t = b → (dnW n ps (s.given u)).getLsbD t = b by rw [HGU.out]; exact fun b h => h)
  generalize dnW n ps gu = dn at HB HCALL HDN
  have q0 := kw_cell s0
  have q1 := kw_cell gq
  cases hb : dn.getLsbD t
  · have hb2 : (dn &&& 1#32 <<< t == 0#32) = true := by rw [HB.out, hb]; rfl
    have FIN := Lib.hid (show r = (7, s) by rw [← HR.out]; unfold roleDo; rw [if_neg (by decide), if_neg (by decide), if_pos (by decide), HDN.out _ hb]; rfl)
    clear hb
    go_wp2_with fail
    refine wp_region_kept (by kernel_rfl) (by kernel_rfl) ?_
    repeat (go_big_quiet_step ((go_at_call 57; exact kept_of_same (HCALL.out _ (KW.kept _)))))
    refine wpQuiet_nil ?_
    intro w5 k5
    go_wp2_with fail
    go_ret
    exact ⟨by rw [FIN.out]; rfl, by rw [FIN.out]; exact HW4.out.kept k5, HKO.out.trans (KeepsO.of k5)⟩
  · have hb2 : (dn &&& 1#32 <<< t == 0#32) = false := by rw [HB.out, hb]; rfl
    have HDT := Lib.hid (HDN.out _ hb)
    clear hb
    go_wp2_with fail
    refine wp_region_kept (by kernel_rfl) (by kernel_rfl) ?_
    repeat (go_big_quiet_step ((go_at_call 57; exact kept_of_same (HCALL.out _ (KW.kept _)))))
    refine wpQuiet_nil ?_
    intro w5 k5
    have HW5 := Lib.hid (HW4.out.kept k5)
    have HKO5 := Lib.hid (HKO.out.trans (KeepsO.of k5))
    clear q0 q1 pq pf gq gf d0 d2 s0 s1 hb2 HCALL HB
    have pq := HW5.out.pl.cell u (rowsV_at s.play hu)
    have pf := HW5.out.pl.free u
    rw [HPU.out] at pq
    cases hb : pu.getLsbD t
    · have hb2 : (pu &&& 1#32 <<< t != 0#32) = false := by rw [HBN.out, hb]
      have FIN := Lib.hid (show r = (0, ⟨s.given, updR s.play u (pu ||| 1#32 <<< t)⟩) by rw [← HR.out]; unfold roleDo; rw [if_neg (by decide), if_neg (by decide), if_pos (by decide), HDT.out, HPU.out, hb]; rfl)
      have HN := Lib.hid (HW5.out.setP u (pu ||| 1#32 <<< t))
      have HKN := Lib.hid (HKO5.out.trans (KeepsO.setRow HW5.out.pl u (.int .u32 (W (pu ||| 1#32 <<< t)))))
      clear hb
      go_wp2_with fail
      go_ret
      exact ⟨by rw [FIN.out]; rfl, by rw [FIN.out]; exact HN.out, HKN.out⟩
    · have hb2 : (pu &&& 1#32 <<< t != 0#32) = true := by rw [HBN.out, hb]
      have FIN := Lib.hid (show r = (5, s) by rw [← HR.out]; unfold roleDo; rw [if_neg (by decide), if_neg (by decide), if_pos (by decide), HDT.out, HPU.out, hb]; rfl)
      clear hb
      go_wp2_with fail
      go_ret
      exact ⟨by rw [FIN.out]; rfl, by rw [FIN.out]; exact HW5.out, HKO5.out⟩
set_option maxRecDepth 100000 in
set_option maxHeartbeats 8000000 in
theorem off_take (S G P : Nat) (Au : Option Addr) (n cu : Nat) (Ao : Option Addr) (no co : Nat) (VC : Value) (users : Nat) (s : RSt) (ps : List Pr) (odds : List (BitVec 32)) (u t : Nat) (lv : Int) (pt : BitVec 32) (vl : Int) (w0 w : World) (hw : OSt w0 w S G P Au n cu Ao no co VC users s) (hup : SlW w0 Au n (upL n ps)) (hod : SlW w0 Ao no odds) (hn6 : n ≤ 6) (hno : no ≤ 10) (hu : u < users) (ht : t < n) :
    Calls Try.prog 60 #[.pointer (some ⟨S, 0, none⟩), .agg #[.int .i64 2, .int .i64 u, .int .i64 t, .int .i64 lv, .int .u32 (W pt), .int .i64 vl]] w (RetOff w0 w S G P Au n cu Ao no co VC users (roleDo n ps odds s 2 u t)) := by
  have HW := Lib.hid hw
  have HUP := Lib.hid hup
  have HOD := Lib.hid hod
  have hka : Kept w (w.alloc (.cells #[.int .i64 2, .int .i64 u, .int .i64 t, .int .i64 lv, .int .u32 (W pt), .int .i64 vl] 94)) := (Kept.refl _).alloc _
  have hbx := Row.new hw.st.kept0 94 [.int .i64 2, .int .i64 u, .int .i64 t, .int .i64 lv, .int .u32 (W pt), .int .i64 vl] _ rfl
  obtain ⟨w2, hw2⟩ : ∃ w2, w.alloc (.cells #[.int .i64 2, .int .i64 u, .int .i64 t, .int .i64 lv, .int .u32 (W pt), .int .i64 vl] 94) = w2 := ⟨_, rfl⟩
  have HK := Lib.hid (show Kept w w2 from hw2 ▸ hka)
  have DB := Lib.hid (show Row w0 w2 w.heap.size 94 [.int .i64 2, .int .i64 u, .int .i64 t, .int .i64 lv, .int .u32 (W pt), .int .i64 vl] from hw2 ▸ hbx)
  have g1 : decide ((u : Int) < 0) = false := by simp
  have g2 : decide (users ≤ u) = false := by simp; omega
  have g3 : decide ((t : Int) < 0) = false := by simp
  have g4 : decide (n ≤ t) = false := by simp; omega
  have hu1 : (0 : Int) ≤ (u : Int) := by omega
  have hu2 : (u : Int) < (users : Int) := by omega
  have ht1 : (0 : Int) ≤ (t : Int) := by omega
  have ht2 : (t : Int) < (n : Int) := by omega
  have HT := Lib.hid (show t < 32 by omega)
  have d0 := DB.out.cell 0 rfl
  have d1 := DB.out.cell 1 rfl
  have d2 := DB.out.cell 2 rfl
  have s0 := (hw.st.kept HK.out).cell 0 rfl
  have s3 := (hw.st.kept HK.out).cell 3 rfl
  obtain ⟨gu, hgu⟩ : ∃ gu, s.given u = gu := ⟨_, rfl⟩
  obtain ⟨pu, hpu⟩ : ∃ pu, s.play u = pu := ⟨_, rfl⟩
  have HGU := Lib.hid hgu
  have HPU := Lib.hid hpu
  obtain ⟨r, hr⟩ : ∃ r, roleDo n ps odds s 2 u t = r := ⟨_, rfl⟩
  have HR := Lib.hid hr
  rw [hr]
  clear hw hbx hka hup hod hgu hpu hr
  go_enter Try.func60, Try.ntmps60
  go_wp2_with fail
  go_quiet (fail)
  have k3 := (Kept.refl w2).drewN nq
  obtain ⟨w3, hw3⟩ : ∃ w3, w2.drewN nq = w3 := ⟨_, rfl⟩
  rw [hw3] at k3 ⊢
  have K3 := Lib.hid (HK.out.trans k3)
  have DB3 := Lib.hid (DB.out.kept k3)
  have HW3 := Lib.hid (HW.out.kept K3.out)
  clear d0 d1 d2 s0 s3 hw2 hw3 k3 g1 g2 g3 g4
  have d0 := DB3.out.cell 0 rfl
  have d1 := DB3.out.cell 1 rfl
  have d2 := DB3.out.cell 2 rfl
  have s3 := HW3.out.st.cell 3 rfl
  have s4 := HW3.out.st.cell 4 rfl
  go_wp2_with fail
  go_quiet (fail)
  rename_i nq2
  have k4 := (Kept.refl w3).drewN nq
  obtain ⟨w4, hw4⟩ : ∃ w4, w3.drewN nq = w4 := ⟨_, rfl⟩
  rw [hw4] at k4 ⊢
  have K4 := Lib.hid (K3.out.trans k4)
  have DB4 := Lib.hid (DB3.out.kept k4)
  have HW4 := Lib.hid (HW3.out.kept k4)
  clear d0 d1 d2 s3 s4 hw4 k4 DB3 HW3 DB HK K3
  have d0 := DB4.out.cell 0 rfl
  have d2 := DB4.out.cell 2 rfl
  have s0 := HW4.out.st.cell 0 rfl
  have s1 := HW4.out.st.cell 1 rfl
  have gq := HW4.out.gv.cell u (rowsV_at s.given hu)
  have gf := HW4.out.gv.free u
  have pq := HW4.out.pl.cell u (rowsV_at s.play hu)
  have pf := HW4.out.pl.free u
  rw [HGU.out] at gq
  rw [HPU.out] at pq
  have HKO := Lib.hid (KeepsO.of (w0 := w0) K4.out)
  have HB := Lib.hid (bit_eq (x := gu) HT.out)
  cases hb : gu.getLsbD t
  · have hb2 : (gu &&& 1#32 <<< t == 0#32) = true := by rw [HB.out, hb]; rfl
    have FIN := Lib.hid (show r = (5, s) by rw [← HR.out]; unfold roleDo; rw [if_neg (by decide), if_pos (by decide), HGU.out, hb]; rfl)
    clear hb
    go_wp2_with fail
    go_ret
    exact ⟨by rw [FIN.out]; rfl, by rw [FIN.out]; exact HW4.out, HKO.out⟩
  · have hb2 : (gu &&& 1#32 <<< t == 0#32) = false := by rw [HB.out, hb]; rfl
    have FIN := Lib.hid (show r = (0, ⟨updR s.given u (gu &&& ~~~(1#32 <<< t)), updR s.play u (pu &&& dnW n ps (gu &&& ~~~(1#32 <<< t)))⟩) by rw [← HR.out]; unfold roleDo; rw [if_neg (by decide), if_pos (by decide), HGU.out, HPU.out, hb]; rfl)
    have HN := Lib.hid (HW4.out.setG u (gu &&& ~~~(1#32 <<< t)))
    have HKN := Lib.hid (HKO.out.trans (KeepsO.setRow HW4.out.gv u (.int .u32 (W (gu &&& ~~~(1#32 <<< t))))))
    clear hb
    go_wp2_with fail
    obtain ⟨w5, hw5⟩ : ∃ w5, w4.setCell ⟨G, u, none⟩ (.int .u32 (W (gu &&& ~~~(1#32 <<< t)))) = w5 := ⟨_, rfl⟩
    rw [hw5] at HN HKN ⊢
    clear hw5 hb2 HB
    generalize gu &&& ~~~(1#32 <<< t) = ng at FIN HN HKN ⊢
    have HCALL := Lib.hid (fun w' (k : Kept w5 w') => (belowD_any Au n cu ps (by omega) ng w' (HUP.out.kept (HN.out.st.kept0.trans k))).mono fun e w'' ⟨h1, h2⟩ => (⟨h1, h2.symm⟩ : e = _ ∧ w'' = w'))
    clear s0 s1 gq gf pq pf d0 d2
    have s0 := HN.out.st.cell 0 rfl
    have pq := HN.out.pl.cell u (rowsV_at s.play hu)
    have pf := HN.out.pl.free u
    have gq : w5.cell? ⟨G, u, none⟩ = some (.int .u32 (W ng)) := by
      have h := HN.out.gv.cell u (rowsV_at _ hu)
      rw [show (⟨updR s.given u ng, s.play⟩ : RSt).given u = ng by simp [updR]] at h
      exact h
    have pq2 : w5.cell? ⟨P, u, none⟩ = some (.int .u32 (W pu)) := by rw [← HPU.out]; exact pq
    clear pq
    have HN2 := Lib.hid (HN.out.setP u (pu &&& dnW n ps ng))
    have HKN2 := Lib.hid (HKN.out.trans (KeepsO.setRow HN.out.pl u (.int .u32 (W (pu &&& dnW n ps ng)))))
    refine wp_region_still_tail 13 (by kernel_rfl) (by kernel_rfl) ?_
    simp only [List.take_succ_cons, List.take_zero, List.drop_succ_cons, List.drop_zero]
    repeat still_step
    still_call (HCALL.out _ (Kept.refl _).drew)
    repeat still_step
    refine wpStill_nil ?_
    go_wp2_with fail
    go_ret
    exact ⟨by rw [FIN.out]; rfl, by rw [FIN.out]; exact HN2.out.kept (Kept.refl _).drew, HKN2.out.trans (KeepsO.of (Kept.refl _).drew)⟩
set_option maxRecDepth 100000 in
set_option maxHeartbeats 8000000 in
theorem off_give (S G P : Nat) (Au : Option Addr) (n cu : Nat) (Ao : Option Addr) (no co : Nat) (VC : Value) (users : Nat) (s : RSt) (ps : List Pr) (odds : List (BitVec 32)) (u t : Nat) (lv : Int) (pt : BitVec 32) (vl : Int) (w0 w : World) (hw : OSt w0 w S G P Au n cu Ao no co VC users s) (hup : SlW w0 Au n (upL n ps)) (hod : SlW w0 Ao no odds) (hn6 : n ≤ 6) (hno : no ≤ 10) (hu : u < users) (ht : t < n) :
    Calls Try.prog 60 #[.pointer (some ⟨S, 0, none⟩), .agg #[.int .i64 1, .int .i64 u, .int .i64 t, .int .i64 lv, .int .u32 (W pt), .int .i64 vl]] w (RetOff w0 w S G P Au n cu Ao no co VC users (roleDo n ps odds s 1 u t)) := by
  have HW := Lib.hid hw
  have HUP := Lib.hid hup
  have HOD := Lib.hid hod
  have hka : Kept w (w.alloc (.cells #[.int .i64 1, .int .i64 u, .int .i64 t, .int .i64 lv, .int .u32 (W pt), .int .i64 vl] 94)) := (Kept.refl _).alloc _
  have hbx := Row.new hw.st.kept0 94 [.int .i64 1, .int .i64 u, .int .i64 t, .int .i64 lv, .int .u32 (W pt), .int .i64 vl] _ rfl
  obtain ⟨w2, hw2⟩ : ∃ w2, w.alloc (.cells #[.int .i64 1, .int .i64 u, .int .i64 t, .int .i64 lv, .int .u32 (W pt), .int .i64 vl] 94) = w2 := ⟨_, rfl⟩
  have HK := Lib.hid (show Kept w w2 from hw2 ▸ hka)
  have DB := Lib.hid (show Row w0 w2 w.heap.size 94 [.int .i64 1, .int .i64 u, .int .i64 t, .int .i64 lv, .int .u32 (W pt), .int .i64 vl] from hw2 ▸ hbx)
  have g1 : decide ((u : Int) < 0) = false := by simp
  have g2 : decide (users ≤ u) = false := by simp; omega
  have g3 : decide ((t : Int) < 0) = false := by simp
  have g4 : decide (n ≤ t) = false := by simp; omega
  have hu1 : (0 : Int) ≤ (u : Int) := by omega
  have hu2 : (u : Int) < (users : Int) := by omega
  have ht1 : (0 : Int) ≤ (t : Int) := by omega
  have ht2 : (t : Int) < (n : Int) := by omega
  have HT := Lib.hid (show t < 32 by omega)
  have d0 := DB.out.cell 0 rfl
  have d1 := DB.out.cell 1 rfl
  have d2 := DB.out.cell 2 rfl
  have s0 := (hw.st.kept HK.out).cell 0 rfl
  have s3 := (hw.st.kept HK.out).cell 3 rfl
  obtain ⟨gu, hgu⟩ : ∃ gu, s.given u = gu := ⟨_, rfl⟩
  obtain ⟨pu, hpu⟩ : ∃ pu, s.play u = pu := ⟨_, rfl⟩
  have HGU := Lib.hid hgu
  have HPU := Lib.hid hpu
  obtain ⟨r, hr⟩ : ∃ r, roleDo n ps odds s 1 u t = r := ⟨_, rfl⟩
  have HR := Lib.hid hr
  rw [hr]
  clear hw hbx hka hup hod hgu hpu hr
  go_enter Try.func60, Try.ntmps60
  go_wp2_with fail
  go_quiet (fail)
  have k3 := (Kept.refl w2).drewN nq
  obtain ⟨w3, hw3⟩ : ∃ w3, w2.drewN nq = w3 := ⟨_, rfl⟩
  rw [hw3] at k3 ⊢
  have K3 := Lib.hid (HK.out.trans k3)
  have DB3 := Lib.hid (DB.out.kept k3)
  have HW3 := Lib.hid (HW.out.kept K3.out)
  clear d0 d1 d2 s0 s3 hw2 hw3 k3 g1 g2 g3 g4
  have d0 := DB3.out.cell 0 rfl
  have d1 := DB3.out.cell 1 rfl
  have d2 := DB3.out.cell 2 rfl
  have s3 := HW3.out.st.cell 3 rfl
  have s4 := HW3.out.st.cell 4 rfl
  go_wp2_with fail
  go_quiet (fail)
  rename_i nq2
  have k4 := (Kept.refl w3).drewN nq
  obtain ⟨w4, hw4⟩ : ∃ w4, w3.drewN nq = w4 := ⟨_, rfl⟩
  rw [hw4] at k4 ⊢
  have K4 := Lib.hid (K3.out.trans k4)
  have DB4 := Lib.hid (DB3.out.kept k4)
  have HW4 := Lib.hid (HW3.out.kept k4)
  clear d0 d1 d2 s3 s4 hw4 k4 DB3 HW3 DB HK K3
  have d0 := DB4.out.cell 0 rfl
  have d2 := DB4.out.cell 2 rfl
  have s0 := HW4.out.st.cell 0 rfl
  have s1 := HW4.out.st.cell 1 rfl
  have gq := HW4.out.gv.cell u (rowsV_at s.given hu)
  have gf := HW4.out.gv.free u
  have pq := HW4.out.pl.cell u (rowsV_at s.play hu)
  have pf := HW4.out.pl.free u
  rw [HGU.out] at gq
  rw [HPU.out] at pq
  have HKO := Lib.hid (KeepsO.of (w0 := w0) K4.out)
  obtain ⟨b, hb⟩ : ∃ b : BitVec 32, 1#32 <<< t = b := ⟨_, rfl⟩
  have HB := Lib.hid hb
  have HBN := Lib.hid (bit_ne (x := gu) HT.out)
  have HCALL := Lib.hid (fun w' (k : Kept w4 w') => belowD_any Au n cu ps (by omega) (gu ||| 1#32 <<< t) w' (HUP.out.kept (HW4.out.st.kept0.trans k)))
  have HN6 := Lib.hid (show fitB 6 (dnW n ps (gu ||| 1#32 <<< t)) = true from by
    rw [fitB_iff]
    intro i hi
    have := fitB_iff.1 (dnW_fit (n := n) (ps := ps) (s := gu ||| 1#32 <<< t) (by omega)) i hi
    omega)
  have HOD1 := Lib.hid (show odds.any (oddR (dnW n ps (gu ||| 1#32 <<< t))) = true → r = (7, s) from fun h => by rw [← HR.out]; unfold roleDo; rw [if_pos rfl, HGU.out, h]; rfl)
  have HOD2 := Lib.hid (show odds.any (oddR (dnW n ps (gu ||| 1#32 <<< t))) = false → r = if gu.getLsbD t then (5, s) else (0, ⟨updR s.given u (gu ||| 1#32 <<< t), s.play⟩) from fun h => by rw [← HR.out]; unfold roleDo; rw [if_pos rfl, HGU.out, h]; rfl)
  have HSW := Lib.hid (fun w' (k : Kept w4 w') => show w'.cell? ⟨S, 0, none⟩ = some (.slice Au n cu) ∧ w'.cell? ⟨G, u, none⟩ = some (.int .u32 (W gu)) ∧ Kept w4 w' from
    ⟨(HW4.out.st.kept k).cell 0 rfl, by rw [← HGU.out]; exact (HW4.out.gv.kept k).cell u (rowsV_at s.given hu), k⟩)
  generalize dnW n ps (gu ||| 1#32 <<< t) = nx at HCALL HN6 HOD1 HOD2
  clear hb
  go_wp2_with fail
  go_region_held3 (fun w' => w'.cell? ⟨S, 0, none⟩ = some (.slice Au n cu) ∧ w'.cell? ⟨G, u, none⟩ = some (.int .u32 (W gu)) ∧ Kept w4 w')
    ((refine HSW.out _ ?_; repeat first | exact Kept.refl _ | refine Kept.alloc ?_ _ | refine Kept.drew ?_ | refine Kept.setCell ?_ (by simp) _))
    ((go_at_call 57; refine (HCALL.out _ (by repeat first | exact Kept.refl _ | refine Kept.alloc ?_ _ | refine Kept.drew ?_)).mono ?_; rintro e w5 ⟨rfl, rfl⟩))
  all_goals
    rename_i hHeld
    clear hHeld
    obtain ⟨w5, hw5⟩ : ∃ w5, (w4.alloc (.cells #[.int .u32 (W nx)] 29)).drew = w5 := ⟨_, rfl⟩
    rw [hw5]
    have HX := Lib.hid (show Row w0 w5 w4.heap.size 29 [.int .u32 (W nx)] from hw5 ▸ (Row.new HW4.out.st.kept0 29 [.int .u32 (W nx)] _ rfl).drew)
    have K5 := Lib.hid (show Kept w4 w5 from hw5 ▸ ((Kept.refl _).alloc _).drew)
    clear hw5 d0 d2 s0 s1 gq gf pq pf
    generalize w4.heap.size = X at HX ⊢
    have HW5 := Lib.hid (HW4.out.kept K5.out)
    have s1 := HW5.out.st.cell 1 rfl
    have x0 := HX.out.cell 0 rfl
    have HCON := Lib.hid (offContains_any nx HN6.out ⟨X, 0, none⟩ Ao no co odds w5 (HOD.out.kept HW5.out.st.kept0) (by omega) x0)
    obtain ⟨bb, hbb⟩ : ∃ bb, odds.any (oddR nx) = bb := ⟨_, rfl⟩
    rw [hbb] at HCON HOD1 HOD2
    clear hbb
    go_wp2_with fail
    refine HCON.out.mono ?_
    rintro e w6 ⟨rfl, k6⟩
    have HW6 := Lib.hid (HW5.out.kept k6)
    have HKO6 := Lib.hid (HKO.out.trans (KeepsO.of (K5.out.trans k6)))
    clear s1 x0 k6
    cases bb
    · have HFN := Lib.hid (HOD2.out rfl)
      clear HOD1 HOD2 HCON HCALL
      have gq := HW6.out.gv.cell u (rowsV_at s.given hu)
      have gf := HW6.out.gv.free u
      rw [HGU.out] at gq
      cases hgb : gu.getLsbD t
      · have hb2 : (gu &&& 1#32 <<< t != 0#32) = false := by rw [HBN.out, hgb]
        have FIN := Lib.hid (show r = (0, ⟨updR s.given u (gu ||| 1#32 <<< t), s.play⟩) by rw [HFN.out, hgb]; rfl)
        have HN := Lib.hid (HW6.out.setG u (gu ||| 1#32 <<< t))
        have HKN := Lib.hid (HKO6.out.trans (KeepsO.setRow HW6.out.gv u (.int .u32 (W (gu ||| 1#32 <<< t)))))
        clear hgb
        go_wp2_with fail
        go_ret
        exact ⟨by rw [FIN.out]; rfl, by rw [FIN.out]; exact HN.out, HKN.out⟩
      · have hb2 : (gu &&& 1#32 <<< t != 0#32) = true := by rw [HBN.out, hgb]
        have FIN := Lib.hid (show r = (5, s) by rw [HFN.out, hgb]; rfl)
        clear hgb
        go_wp2_with fail
        go_ret
        exact ⟨by rw [FIN.out]; rfl, by rw [FIN.out]; exact HW6.out, HKO6.out⟩
    · have FIN := Lib.hid (HOD1.out rfl)
      clear HOD1 HOD2 HCON HCALL
      go_wp2_with fail
      go_ret
      exact ⟨by rw [FIN.out]; rfl, by rw [FIN.out]; exact HW6.out, HKO6.out⟩
theorem off_any (S G P : Nat) (Au : Option Addr) (n cu : Nat) (Ao : Option Addr) (no co : Nat) (VC : Value) (users : Nat) (s : RSt) (ps : List Pr) (odds : List (BitVec 32)) (d : De) (w0 : World) (hup : SlW w0 Au n (upL n ps)) (hod : SlW w0 Ao no odds) (hn6 : n ≤ 6) (hno : no ≤ 10) :
    ∃ r : Int × RSt, (r.2 = s ∨ ∃ u t : Nat, u < users ∧ t < n ∧ r = roleDo n ps odds s d.1 u t) ∧ ∀ w, OSt w0 w S G P Au n cu Ao no co VC users s → Calls Try.prog 60 #[.pointer (some ⟨S, 0, none⟩), .agg #[.int .i64 d.1, .int .i64 d.2.1, .int .i64 d.2.2.1, .int .i64 d.2.2.2.1, .int .u32 (W d.2.2.2.2.1), .int .i64 d.2.2.2.2.2]] w (RetOff w0 w S G P Au n cu Ao no co VC users r) := by
  by_cases hbad : roleE users n d = 0
  · obtain ⟨u, t, hu, hu2, ht, ht2, hk⟩ := roleE_zero hbad
    obtain ⟨kd, by_, to_, lv, pt, vl⟩ := d
    simp only at hu ht hk
    subst hu ht
    refine ⟨_, .inr ⟨u, t, hu2, ht2, rfl⟩, fun w hw => ?_⟩
    simp only
    rcases hk with rfl | rfl | rfl | rfl
    · exact off_give S G P Au n cu Ao no co VC users s ps odds u t lv pt vl w0 w hw hup hod hn6 hno hu2 ht2
    · exact off_take S G P Au n cu Ao no co VC users s ps odds u t lv pt vl w0 w hw hup hod hn6 hno hu2 ht2
    · exact off_play S G P Au n cu Ao no co VC users s ps odds u t lv pt vl w0 w hw hup hod hn6 hno hu2 ht2
    · exact off_rest S G P Au n cu Ao no co VC users s ps odds u t lv pt vl w0 w hw hup hod hn6 hno hu2 ht2
  · exact ⟨(roleE users n d, s), .inl rfl, fun w hw => off_bad S G P Au n cu Ao no co VC users s ps odds d w0 w hw hbad⟩
end Go.Proofs.Ytgcpomdlajoifaa
