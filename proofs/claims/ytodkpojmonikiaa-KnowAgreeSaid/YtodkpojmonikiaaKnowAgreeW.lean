/- KnowAgree: the walk of the statement. -/
import Derived.Test.YtodkpojmonikiaaKnow4
import Derived.Test.YtodkpojmonikiaaAgreeP
namespace Go.Proofs.Ytodkpojmonikiaa.knowAgreeDone
open Go Go.RowKit
set_option linter.unusedVariables false

def hasS (xs : List Int) (ev : BitVec 32) (v k : Nat) : Nat := sumN (fun u => ind (iat xs u == iat xs v) * ind (ev.getLsbD u)) k
def ofS (xs : List Int) (v k : Nat) : Nat := sumN (fun u => ind (iat xs u == iat xs v) * 1) k
theorem ind_le (b : Bool) : ind b ≤ 1 := by unfold ind; split <;> omega
theorem hasS_le (xs : List Int) (ev : BitVec 32) (v k : Nat) : hasS xs ev v k ≤ k := sumN_le (fun i => by
  have a := ind_le (iat xs i == iat xs v)
  have b := ind_le (ev.getLsbD i)
  calc ind (iat xs i == iat xs v) * ind (ev.getLsbD i) ≤ 1 * 1 := Nat.mul_le_mul a b
    _ = 1 := rfl) k
theorem ofS_le (xs : List Int) (v k : Nat) : ofS xs v k ≤ k := sumN_le (fun i => by have a := ind_le (iat xs i == iat xs v); omega) k
theorem hasS_succ (xs : List Int) (ev : BitVec 32) (v k : Nat) : hasS xs ev v (k + 1) = hasS xs ev v k + ind (iat xs k == iat xs v) * ind (ev.getLsbD k) := rfl
theorem ofS_succ (xs : List Int) (v k : Nat) : ofS xs v (k + 1) = ofS xs v k + ind (iat xs k == iat xs v) * 1 := rfl
set_option maxHeartbeats 1000000 in
theorem share_any (A : Option Addr) (n c : Nat) (xs : List Int) (v : Nat) (ev : BitVec 32) (p q : Addr) (w : World) (hs : SlI w A n xs) (hn : n ≤ 6) (hv : v < n) (hp : w.cell? p = some (.int .i64 n)) (hq : w.cell? q = some (.int .u32 (W ev))) :
    Calls Try.prog 17 #[.slice A n c, .int .i64 v, .pointer (some p), .pointer (some q)] w fun e w' => e = .returned (.tuple #[.int .i64 (hasS xs ev v n : Nat), .int .i64 (ofS xs v n : Nat)]) ∧ Kept w w' := by
  have hpl := cell_lt hp
  have hql := cell_lt hq
  go_enter Try.func17, Try.ntmps17
  go_wp2_with fail
  go_loopw [8, 9, 10] (fun h o t wr => ∃ k : Nat, k ≤ n ∧ t = .int .i64 k ∧ h = .int .i64 (hasS xs ev v k : Nat) ∧ o = .int .i64 (ofS xs v k : Nat) ∧ Kept w wr) (fun _ _ t _ => n - (intOf t).toNat)
  case atStart => exact ⟨0, Nat.zero_le _, rfl, rfl, rfl, Kept.refl _⟩
  case round =>
    obtain ⟨k, hk, rfl, rfl, rfl, hkw⟩ := hrel
    have cp := (hkw.cell hpl).trans hp
    have cq := (hkw.cell hql).trans hq
    by_cases hlt : k < n
    · obtain ⟨b, off, rfl, hb, ck⟩ := (hs.kept hkw).getN k hlt
      obtain ⟨b2, o2, e2, hb2, cv⟩ := (hs.kept hkw).getN v hv
      injection e2 with e2
      injection e2 with e2 e2'
      subst e2 e2'
      have H1 := Lib.hid (hasS_succ xs ev v k)
      have H2 := Lib.hid (ofS_succ xs v k)
      have L1 := hasS_le xs ev v k
      have L2 := ofS_le xs v k
      generalize iat xs k = x at ck H1 H2
      generalize iat xs v = y at cv H1 H2
      generalize hasS xs ev v k = h at H1 L1
      generalize ofS xs v k = o at H2 L2
      have hi1 : (0 : Int) ≤ (k : Int) := by omega
      have hi2 : (k : Int) < (n : Int) := by omega
      have hi3 : (0 : Int) ≤ (v : Int) := by omega
      have hi4 : (v : Int) < (n : Int) := by omega
      go_wp2_with fail
      go_quiet (fail)
      have hkw := hkw.drewN nq
      have cp := (hkw.cell hpl).trans hp
      have cq := (hkw.cell hql).trans hq
      generalize wr.drewN nq = wq at hkw cp cq
      cases hxy : x == y
      · have HXY := Lib.hid hxy
        clear hxy ck cv
        go_wp2_with fail
        go_roundw
        case rel => exact ⟨k + 1, by omega, by go_num, by rw [H1.out, HXY.out]; simp [ind], by rw [H2.out, HXY.out]; simp [ind], hkw⟩
        case measure => simp [intOf]; omega
      · have HXY := Lib.hid hxy
        clear hxy ck cv
        go_wp2_with fail
        refine (bit_any ev k (by omega) _).mono ?_
        rintro e w3 ⟨rfl, rfl⟩
        cases hbv : ev.getLsbD k
        · have HB := Lib.hid hbv
          go_wp2_with fail
          go_roundw
          case rel => exact ⟨k + 1, by omega, by go_num, by rw [H1.out, HXY.out, HB.out]; simp [ind], by rw [H2.out, HXY.out]; simp [ind], hkw⟩
          case measure => simp [intOf]; omega
        · have HB := Lib.hid hbv
          go_wp2_with fail
          go_roundw
          case rel => exact ⟨k + 1, by omega, by go_num, by rw [H1.out, HXY.out, HB.out]; simp [ind], by rw [H2.out, HXY.out]; simp [ind], hkw⟩
          case measure => simp [intOf]; omega
    · have HK := Lib.hid (show k = n by omega)
      go_wp2_with fail
      go_ret2
      exact ⟨by rw [HK.out]; rfl, hkw⟩
def hS (xs : List Int) (ev : BitVec 32) (v n : Nat) : Int := (hasS xs ev v n : Nat)
def oS (xs : List Int) (v n : Nat) : Int := (ofS xs v n : Nat)
theorem hS_le (xs : List Int) (ev : BitVec 32) (v k : Nat) : 0 ≤ hS xs ev v k ∧ hS xs ev v k ≤ k := by have := hasS_le xs ev v k; unfold hS; omega
theorem oS_le (xs : List Int) (v k : Nat) : 0 ≤ oS xs v k ∧ oS xs v k ≤ k := by have := ofS_le xs v k; unfold oS; omega
theorem share_is (A : Option Addr) (n c : Nat) (xs : List Int) (v : Nat) (ev : BitVec 32) (p q : Addr) (h o : Int) (w : World) (hs : SlI w A n xs) (hn : n ≤ 6) (hv : v < n) (hp : w.cell? p = some (.int .i64 n)) (hq : w.cell? q = some (.int .u32 (W ev)))
    (hh : hS xs ev v n = h) (ho : oS xs v n = o) :
    Calls Try.prog 17 #[.slice A n c, .int .i64 v, .pointer (some p), .pointer (some q)] w fun e w' => e = .returned (.tuple #[.int .i64 h, .int .i64 o]) ∧ Kept w w' := by
  subst hh ho
  exact share_any A n c xs v ev p q w hs hn hv hp hq
theorem SlM.new2 (w : World) (ra rb : Rv) (t : TypeId) (B : Nat) (hB : w.heap.size = B) (ha : RowOk w ra) (hb : RowOk w rb) : SlM (w.alloc (.cells #[rwv ra, rwv rb] t)) (some ⟨B, 0, none⟩) 2 [ra, rb] := by
  subst hB
  refine ⟨Sl.new w _ t 1 2 rfl, rfl, fun r hr => ?_⟩
  have hk : Kept w (w.alloc (.cells #[rwv ra, rwv rb] t)) := (Kept.refl w).alloc _
  simp at hr
  rcases hr with rfl | rfl
  · exact ha.kept hk
  · exact hb.kept hk
theorem mulW {x y : Int} (hx0 : 0 ≤ x) (hx : x ≤ 6) (hy0 : 0 ≤ y) (hy : y ≤ 6) : IntKind.i64.wrap (x * y) = x * y ∧ wrap64 (x * y) = x * y := by
  have h1 : 0 ≤ x * y := Int.mul_nonneg hx0 hy0
  have h2 : x * y ≤ 6 * 6 := Int.mul_le_mul hx hy hy0 (by omega)
  have h3 : wrap64 (x * y) = x * y := IntWalk.wrap64_in _ ⟨by omega, by omega⟩
  exact ⟨(IntWalk.i64_left _).trans h3, h3⟩
theorem ev_of {n : Int} {rs : List Rv} {ev : BitVec 32} (h : knowF n rs ev = 0) : knowF n rs 0#32 = 0 := knowF_ok h (fitB_zero _)
/-- so far both say the same share -/
def Same (n : Nat) (xs ys : List Int) (ev : BitVec 32) (p : Nat → Nat) (w k : Nat) : Prop :=
  ∀ v, v < k → p v = p w → hS xs ev v n * oS xs w n = hS xs ev w n * oS xs v n ∧ hS ys ev v n * oS ys w n = hS ys ev w n * oS ys v n
theorem Same.step {n : Nat} {xs ys : List Int} {ev : BitVec 32} {p : Nat → Nat} {w k : Nat} (h : Same n xs ys ev p w k) (h2 : p k = p w → hS xs ev k n * oS xs w n = hS xs ev w n * oS xs k n ∧ hS ys ev k n * oS ys w n = hS ys ev w n * oS ys k n) : Same n xs ys ev p w (k + 1) := by
  intro v hv
  by_cases e : v = k
  · subst e; exact h2
  · exact h v (by omega)
theorem toNat_mul {a b c d : Nat} (h : (a : Int) * (b : Int) = (c : Int) * (d : Int)) : a * b = c * d := by
  rw [← Int.natCast_mul, ← Int.natCast_mul] at h
  exact Int.ofNat_inj.1 h
theorem Same.done {n : Nat} {xs ys : List Int} {ev : BitVec 32} {p : Nat → Nat} {w : Nat} (hw : w < n) (h : Same n xs ys ev p w n) (hconn : ∀ u v, u < n → v < n → (p u = p v ↔ Conn n [xs, ys] u v)) :
    hS xs ev w n * oS ys w n = hS ys ev w n * oS xs w n := by
  have := agree (e := fun u => ind (ev.getLsbD u)) hw hconn (fun v hv e => toNat_mul (h v hv e).1) (fun v hv e => toNat_mul (h v hv e).2)
  unfold hS oS
  rw [← Int.natCast_mul, ← Int.natCast_mul]
  exact Int.ofNat_inj.2 this

set_option maxHeartbeats 2000000 in
set_option maxRecDepth 100000 in
theorem yes (n : Nat) (A1 : Option Addr) (c1 : Nat) (xs : List Int) (A2 : Option Addr) (c2 : Nat) (ys : List Int) (ev : BitVec 32) (i : Int) (w : World) (hx : SlI w A1 n xs) (hy : SlI w A2 n ys) (hn6 : n ≤ 6)
    (h0 : knowF n [(A1, n, c1, xs), (A2, n, c2, ys)] 0#32 = 0) :
    Calls Try.prog 3 #[.int .i64 n, .slice A1 n c1, .slice A2 n c2, .int .u32 (W ev), .int .i64 i] w fun e w' => e = .returned (.bool true) ∧ Kept w w' := by
  have hn1 := (knowF_zero h0).1.1
  have H0 := Lib.hid h0
  clear h0
  go_enter Try.func3, Try.ntmps3
  go_wp2_with fail
  obtain ⟨B, hB⟩ : ∃ B, w.heap.size = B := ⟨_, rfl⟩
  have ka : Kept w ((w.alloc (.cells #[.int .i64 n] 3)).alloc (.cells #[.int .u32 (W ev)] 23)) := ((Kept.refl w).alloc _).alloc _
  have hb2 := boxes2 (Kept.refl ((w.alloc (.cells #[.int .i64 n] 3)).alloc (.cells #[.int .u32 (W ev)] 23)))
  have hsz : ((w.alloc (.cells #[.int .i64 n] 3)).alloc (.cells #[.int .u32 (W ev)] 23)).heap.size = B + 1 + 1 := by rw [← hB]; simp
  rw [hB] at hb2 ⊢
  generalize ((w.alloc (.cells #[.int .i64 n] 3)).alloc (.cells #[.int .u32 (W ev)] 23)) = wa at ka hb2 hsz
  obtain ⟨bn, bq⟩ := hb2
  have hm := SlM.new2 wa (A1, n, c1, xs) (A2, n, c2, ys) 22 _ hsz ⟨hx.kept ka, show n ≤ maxLen by unfold maxLen; omega⟩ ⟨hy.kept ka, show n ≤ maxLen by unfold maxLen; omega⟩
  have kb : Kept wa (wa.alloc (.cells #[rwv (A1, n, c1, xs), rwv (A2, n, c2, ys)] 22)) := (Kept.refl wa).alloc _
  refine (meet_ok n _ _ _ [(A1, n, c1, xs), (A2, n, c2, ys)] _ hm H0.out).mono ?_
  rintro e w2 ⟨Ap, cp, p, rfl, hp, hconn, k2⟩
  have k3 := kb.trans k2
  have q2 := ka.trans k3
  have bn2 := bn.kept k3
  have bq2 := bq.kept k3
  have HCO := Lib.hid (show ∀ u v, u < n → v < n → (p u = p v ↔ Conn n [xs, ys] u v) from hconn)
  have HSZ := Lib.hid hsz
  clear hm kb k2 k3 bn bq hsz hconn hB ka
  have e1 := bn2.at_ 0 rfl
  have e2 := bq2.at_ 0 rfl
  have s2 := bq2.1
  go_wp2_with fail
  clear s2
  have hm2 := SlM.new2 w2 (A1, n, c1, xs) (A2, n, c2, ys) 22 _ rfl ⟨hx.kept q2, show n ≤ maxLen by unfold maxLen; omega⟩ ⟨hy.kept q2, show n ≤ maxLen by unfold maxLen; omega⟩
  have k4 : Kept w2 (w2.alloc (.cells #[rwv (A1, n, c1, xs), rwv (A2, n, c2, ys)] 22)) := (Kept.refl w2).alloc _
  refine (known_any n _ _ _ [(A1, n, c1, xs), (A2, n, c2, ys)] ev _ hm2).mono ?_
  rintro e w3 ⟨rfl, rfl⟩
  have q3 := q2.trans k4
  have hp3 := hp.kept k4
  have bn3 := bn2.kept k4
  have bq3 := bq2.kept k4
  have hx3 := hx.kept q3
  have hy3 := hy.kept q3
  clear hm2 bn2 bq2 hp e1 e2
  generalize (w2.alloc (.cells #[rwv (A1, n, c1, xs), rwv (A2, n, c2, ys)] 22)) = w3 at q3 hp3 bn3 bq3 hx3 hy3
  clear k4 q2 hx hy
  have e1 := bn3.at_ 0 rfl
  have e2 := bq3.at_ 0 rfl
  have d0 : ((n : Int) == (n : Int)) = true := by simp
  have d0' : ((n : Int) != (n : Int)) = false := by simp
  by_cases hev : knowF n [(A1, n, c1, xs), (A2, n, c2, ys)] ev = 0
  · rw [hev]
    clear hev
    by_cases hw : i < 0 ∨ (n : Int) ≤ i
    · rcases out_of hw with d1 | ⟨d1, d2⟩
      all_goals
        clear hw
        go_wp2_with fail
        go_ret
        exact ⟨rfl, q3⟩
    · obtain ⟨m, rfl⟩ := Int.eq_ofNat_of_zero_le (show 0 ≤ i by omega)
      have hmn : m < n := by omega
      have d1 : decide ((m : Int) < 0) = false := by simp
      have d2 : decide ((n : Int) ≤ (m : Int)) = false := by simp; omega
      clear hw
      obtain ⟨xm, hxm⟩ : ∃ h, hS xs ev m n = h := ⟨_, rfl⟩
      obtain ⟨ym, hym⟩ : ∃ h, oS xs m n = h := ⟨_, rfl⟩
      obtain ⟨zm, hzm⟩ : ∃ h, hS ys ev m n = h := ⟨_, rfl⟩
      obtain ⟨tm, htm⟩ : ∃ h, oS ys m n = h := ⟨_, rfl⟩
      have HSD := Lib.hid (fun h => Same.done (n := n) (xs := xs) (ys := ys) (ev := ev) (p := p) hmn h HCO.out)
      have HSS := Lib.hid (fun k (h : Same n xs ys ev p m k) h2 => h.step h2)
      have lx := hS_le xs ev m n
      have ly := oS_le xs m n
      have lz := hS_le ys ev m n
      have lt := oS_le ys m n
      rw [hxm] at lx HSD HSS
      rw [hym] at ly HSD HSS
      rw [hzm] at lz HSD HSS
      rw [htm] at lt HSD HSS
      have HXM := Lib.hid hxm
      have HYM := Lib.hid hym
      have HZM := Lib.hid hzm
      have HTM := Lib.hid htm
      clear hxm hym hzm htm
      go_wp2_with fail
      refine (share_is _ n _ xs m ev _ _ xm ym _ hx3 hn6 hmn e1 e2 HXM.out HYM.out).mono ?_
      rintro e w4 ⟨rfl, k4⟩
      have bn4 := bn3.kept k4
      have bq4 := bq3.kept k4
      clear e1 e2
      have e1 := bn4.at_ 0 rfl
      have e2 := bq4.at_ 0 rfl
      go_wp2_with fail
      refine (share_is _ n _ ys m ev _ _ zm tm _ (hy3.kept k4) hn6 hmn e1 e2 HZM.out HTM.out).mono ?_
      rintro e w5 ⟨rfl, k5⟩
      have q5 := q3.trans (k4.trans k5)
      have bn5 := bn4.kept k5
      have bq5 := bq4.kept k5
      have hp5 := hp3.kept (k4.trans k5)
      have hx5 := hx3.kept (k4.trans k5)
      have hy5 := hy3.kept (k4.trans k5)
      obtain ⟨bp, op, rfl, hbp, hcell⟩ := hp5.open_ (by omega)
      have HCELL := Lib.hid hcell
      have HS0 := Lib.hid (show Same n xs ys ev p m 0 from fun v hv => absurd hv (Nat.not_lt_zero v))
      clear bn3 bq3 hp3 hx3 hy3 k4 k5 e1 e2 bn4 bq4 d1 d2 d0 d0' hcell q3
      go_wp2_with fail
      go_loopw [18] (fun t wr => ∃ k : Nat, k ≤ n ∧ t = .int .i64 k ∧ Kept w5 wr ∧ Hid (Same n xs ys ev p m k)) (fun t _ => n - (intOf t).toNat)
      case atStart => exact ⟨0, Nat.zero_le _, rfl, Kept.refl _, HS0⟩
      case round =>
        obtain ⟨k, hk, rfl, hkw, hsame⟩ := hrel
        have bn6 := bn5.kept hkw
        have bq6 := bq5.kept hkw
        have e1 := bn6.at_ 0 rfl
        have e2 := bq6.at_ 0 rfl
        by_cases hlt : k < n
        · have ck := (hkw.cell (p := ⟨bp, op + k, none⟩) hbp).trans (HCELL.out k hlt)
          have cm := (hkw.cell (p := ⟨bp, op + m, none⟩) hbp).trans (HCELL.out m hmn)
          rw [iat_labL p hlt] at ck
          rw [iat_labL p hmn] at cm
          have HST := Lib.hid (HSS.out k hsame.out)
          generalize hpk : p k = x at ck HST
          generalize hpm : p m = y at cm HST
          have HPK := Lib.hid hpk
          have HPM := Lib.hid hpm
          clear hpk hpm
          have hi1 : (0 : Int) ≤ (k : Int) := by omega
          have hi2 : (k : Int) < (n : Int) := by omega
          have hi3 : (0 : Int) ≤ (m : Int) := by omega
          have hi4 : (m : Int) < (n : Int) := by omega
          go_wp2_with fail
          go_quiet (fail)
          have hkw := hkw.drewN nq
          have bn7 := bn6.kept ((Kept.refl wr).drewN nq)
          have bq7 := bq6.kept ((Kept.refl wr).drewN nq)
          clear e1 e2 bn6 bq6
          generalize wr.drewN nq = wq at hkw bn7 bq7
          have e1 := bn7.at_ 0 rfl
          have e2 := bq7.at_ 0 rfl
          clear ck cm
          by_cases hxy : x = y
          · have d1 : ((x : Int) != (y : Int)) = false := by simp [hxy]
            have HXY := Lib.hid hxy
            clear hxy
            obtain ⟨xk, hxk⟩ : ∃ h, hS xs ev k n = h := ⟨_, rfl⟩
            obtain ⟨yk, hyk⟩ : ∃ h, oS xs k n = h := ⟨_, rfl⟩
            obtain ⟨zk, hzk⟩ : ∃ h, hS ys ev k n = h := ⟨_, rfl⟩
            obtain ⟨tk, htk⟩ : ∃ h, oS ys k n = h := ⟨_, rfl⟩
            have mx := hS_le xs ev k n
            have my := oS_le xs k n
            have mz := hS_le ys ev k n
            have mt := oS_le ys k n
            rw [hxk] at mx HST
            rw [hyk] at my HST
            rw [hzk] at mz HST
            rw [htk] at mt HST
            have HXK := Lib.hid hxk
            have HYK := Lib.hid hyk
            have HZK := Lib.hid hzk
            have HTK := Lib.hid htk
            clear hxk hyk hzk htk
            go_wp2_with fail
            refine (share_is _ n _ xs k ev _ _ xk yk _ (hx5.kept hkw) hn6 hlt e1 e2 HXK.out HYK.out).mono ?_
            rintro e w7 ⟨rfl, k7⟩
            have bn8 := bn7.kept k7
            have bq8 := bq7.kept k7
            clear e1 e2
            have e1 := bn8.at_ 0 rfl
            have e2 := bq8.at_ 0 rfl
            go_wp2_with fail
            refine (share_is _ n _ ys k ev _ _ zk tk _ ((hy5.kept hkw).kept k7) hn6 hlt e1 e2 HZK.out HTK.out).mono ?_
            rintro e w8 ⟨rfl, k8⟩
            have hk8 := hkw.trans (k7.trans k8)
            obtain ⟨w1, w1'⟩ := mulW (x := xk) (y := ym) (by omega) (by omega) (by omega) (by omega)
            obtain ⟨w2, w2'⟩ := mulW (x := xm) (y := yk) (by omega) (by omega) (by omega) (by omega)
            obtain ⟨w3, w3'⟩ := mulW (x := zk) (y := tm) (by omega) (by omega) (by omega) (by omega)
            obtain ⟨w4, w4'⟩ := mulW (x := zm) (y := tk) (by omega) (by omega) (by omega) (by omega)
            rw [← w1', ← w2', ← w3', ← w4'] at HST
            clear w1 w1' w2 w2' w3 w3' w4 w4' mx my mz mt
            by_cases g1 : wrap64 (xk * ym) = wrap64 (xm * yk)
            · by_cases g2 : wrap64 (zk * tm) = wrap64 (zm * tk)
              · have HST2 := Lib.hid (HST.out fun _ => ⟨g1, g2⟩)
                have d2 : (wrap64 (xk * ym) != wrap64 (xm * yk)) = false := by simp [g1]
                have d3 : (wrap64 (zk * tm) != wrap64 (zm * tk)) = false := by simp [g2]
                clear g1 g2
                go_wp2_with fail
                go_roundw
                case rel => exact ⟨k + 1, by omega, by go_num, hk8, HST2⟩
                case measure => simp [intOf]; omega
              · have d2 : (wrap64 (xk * ym) != wrap64 (xm * yk)) = false := by simp [g1]
                have d3 : (wrap64 (zk * tm) != wrap64 (zm * tk)) = true := by simpa using g2
                clear g1 g2
                go_wp2_with fail
                go_ret
                exact ⟨rfl, q5.trans hk8⟩
            · have d2 : (wrap64 (xk * ym) != wrap64 (xm * yk)) = true := by simpa using g1
              clear g1
              go_wp2_with fail
              go_ret
              exact ⟨rfl, q5.trans hk8⟩
          · have d1 : ((x : Int) != (y : Int)) = true := by simp; omega
            have HST2 := Lib.hid (HST.out fun e => absurd e hxy)
            clear hxy
            go_wp2_with fail
            go_roundw
            case rel => exact ⟨k + 1, by omega, by go_num, hkw, HST2⟩
            case measure => simp [intOf]; omega
        · have HE := Lib.hid (HSD.out (by have h := hsame.out; rwa [show k = n by omega] at h))
          have d1 : ((n : Int) ≤ (k : Int)) := by omega
          obtain ⟨w1, w1'⟩ := mulW (x := xm) (y := tm) (by omega) (by omega) (by omega) (by omega)
          obtain ⟨w2, w2'⟩ := mulW (x := zm) (y := ym) (by omega) (by omega) (by omega) (by omega)
          rw [← w1', ← w2'] at HE
          clear w1 w1' w2 w2'
          have d2 : (wrap64 (xm * tm) == wrap64 (zm * ym)) = true := by simp [HE.out]
          go_wp2_with fail
          go_ret
          exact ⟨rfl, q5.trans hkw⟩
  · have hz : (knowF n [(A1, n, c1, xs), (A2, n, c2, ys)] ev == 0) = false := by simpa using hev
    clear hev
    go_wp2_with fail
    go_ret
    exact ⟨rfl, q3⟩
set_option maxHeartbeats 1000000 in
theorem knowAgree_walk (n : Int) (A1 : Option Addr) (len1 c1 : Nat) (xs : List Int) (A2 : Option Addr) (len2 c2 : Nat) (ys : List Int) (ev : BitVec 32) (i : Int) (w : World) (_wn : (Lit.int .i64 n).wf = true) (hl1 : len1 ≤ maxLen) (hx0 : SlI w A1 len1 xs ∧ ∀ z ∈ xs, (Lit.int .i64 z).wf = true) (hl2 : len2 ≤ maxLen) (hy0 : SlI w A2 len2 ys ∧ ∀ z ∈ ys, (Lit.int .i64 z).wf = true) (_wi : (Lit.int .i64 i).wf = true) :
    Calls Try.prog 3 #[.int .i64 n, .slice A1 len1 c1, .slice A2 len2 c2, .int .u32 (W ev), .int .i64 i] w fun e w' => e = .returned (.bool true) ∧ Kept w w' := by
  have hx := hx0.1
  have hy := hy0.1
  clear hx0 hy0
  by_cases h0 : knowF n [(A1, len1, c1, xs), (A2, len2, c2, ys)] 0#32 = 0
  · have hz := knowF_zero h0
    obtain ⟨nn, rfl⟩ := Int.eq_ofNat_of_zero_le (show 0 ≤ n by omega)
    have g1 : len1 = nn := by have := hz.2.1 (A1, len1, c1, xs) (by simp); simp at this; omega
    have g2 : len2 = nn := by have := hz.2.1 (A2, len2, c2, ys) (by simp); simp at this; omega
    subst g1 g2
    exact yes len2 A1 c1 xs A2 c2 ys ev i w hx hy (by omega) h0
  · have hev : ¬ knowF n [(A1, len1, c1, xs), (A2, len2, c2, ys)] ev = 0 := fun h => h0 (ev_of h)
    have hne : (knowF n [(A1, len1, c1, xs), (A2, len2, c2, ys)] 0#32 != 0) = true := by simpa using h0
    have hnz : (knowF n [(A1, len1, c1, xs), (A2, len2, c2, ys)] ev == 0) = false := by simpa using hev
    have HNE := Lib.hid hne
    clear h0 hev
    go_enter Try.func3, Try.ntmps3
    go_wp2_with fail
    obtain ⟨B, hB⟩ : ∃ B, w.heap.size = B := ⟨_, rfl⟩
    have ka : Kept w ((w.alloc (.cells #[.int .i64 n] 3)).alloc (.cells #[.int .u32 (W ev)] 23)) := ((Kept.refl w).alloc _).alloc _
    have hb2 := boxes2 (Kept.refl ((w.alloc (.cells #[.int .i64 n] 3)).alloc (.cells #[.int .u32 (W ev)] 23)))
    have hsz : ((w.alloc (.cells #[.int .i64 n] 3)).alloc (.cells #[.int .u32 (W ev)] 23)).heap.size = B + 1 + 1 := by rw [← hB]; simp
    rw [hB] at hb2 ⊢
    generalize ((w.alloc (.cells #[.int .i64 n] 3)).alloc (.cells #[.int .u32 (W ev)] 23)) = wa at ka hb2 hsz
    obtain ⟨bn, bq⟩ := hb2
    have hm := SlM.new2 wa (A1, len1, c1, xs) (A2, len2, c2, ys) 22 _ hsz ⟨hx.kept ka, hl1⟩ ⟨hy.kept ka, hl2⟩
    have kb : Kept wa (wa.alloc (.cells #[rwv (A1, len1, c1, xs), rwv (A2, len2, c2, ys)] 22)) := (Kept.refl wa).alloc _
    refine (meet_no n _ _ _ [(A1, len1, c1, xs), (A2, len2, c2, ys)] _ hm HNE.out).mono ?_
    rintro e w2 ⟨rfl, k2⟩
    have k3 := kb.trans k2
    have q2 := ka.trans k3
    have bn2 := bn.kept k3
    have bq2 := bq.kept k3
    clear hm kb k2 k3 bn bq hsz hB ka
    have e1 := bn2.at_ 0 rfl
    have e2 := bq2.at_ 0 rfl
    have s2 := bq2.1
    go_wp2_with fail
    clear s2
    have hm2 := SlM.new2 w2 (A1, len1, c1, xs) (A2, len2, c2, ys) 22 _ rfl ⟨hx.kept q2, hl1⟩ ⟨hy.kept q2, hl2⟩
    have k4 : Kept w2 (w2.alloc (.cells #[rwv (A1, len1, c1, xs), rwv (A2, len2, c2, ys)] 22)) := (Kept.refl w2).alloc _
    refine (known_any n _ _ _ [(A1, len1, c1, xs), (A2, len2, c2, ys)] ev _ hm2).mono ?_
    rintro e w3 ⟨rfl, rfl⟩
    go_wp2_with fail
    go_ret
    exact ⟨rfl, q2.trans k4⟩
end Go.Proofs.Ytodkpojmonikiaa.knowAgreeDone
