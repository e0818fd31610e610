/- TopPage: the walk of the statement. -/
import Derived.Test.YtjcooagchjjknaaTop1
namespace Go.Proofs.Ytjcooagchjjknaa.topPageDone
open Go Go.RowKit Go.Lib
set_option linter.unusedVariables false

def putB (qs : List SkA) (L : Lab) (k : Nat) : Bool := decide ((skN qs k).kind = 1) && (decide ((skN qs k).who = L) && decide (plC qs k = 0))
theorem codesL_at {qs : List SkA} {n j : Nat} (h : j < (codesL qs n).length) : (codesL qs n)[j] = plC qs j := by
  have h2 : (codesL qs n)[j]? = some (plC qs j) := by
    unfold codesL at h ⊢
    rw [List.getElem?_map, List.getElem?_range (by simpa using h)]
    rfl
  rw [List.getElem?_eq_getElem h] at h2
  exact Option.some.inj h2
theorem cnt_step (g : Nat → Bool) (k : Nat) : cntI g (k + 1) = cntI g k + if g k then 1 else 0 := rfl
theorem own_plL (qs : List SkA) (L : Lab) : ∀ k, ownN (plL qs k) L ≤ 4 ∧ ownN (plL qs k) L ≤ cntI (putB qs L) k
  | 0 => ⟨Nat.zero_le _, Nat.le_refl _⟩
  | k + 1 => by
    obtain ⟨h1, h2⟩ := own_plL qs L k
    have hs := cnt_step (putB qs L) k
    show ownN (if _ then _ else _) L ≤ 4 ∧ ownN (if _ then _ else _) L ≤ _
    by_cases h : (penF (plL qs k) (skN qs k)).1 = 0
    · rw [if_pos h]
      obtain ⟨e, h3, h4⟩ := penF_done h
      have hz := h
      rw [e] at h
      obtain ⟨h5, h6⟩ := own_pen h3 h L
      rw [e]
      refine ⟨h6 h1, ?_⟩
      rw [hs]
      by_cases hb : (skN qs k).kind = 1 ∧ (skN qs k).who = L
      · rw [if_pos hb] at h5
        have : putB qs L k = true := by unfold putB plC; rw [hz]; simp [hb.1, hb.2]
        rw [this, if_pos rfl]
        omega
      · rw [if_neg hb] at h5
        omega
    · rw [if_neg h]
      refine ⟨h1, ?_⟩
      rw [hs]
      omega
set_option maxHeartbeats 8000000 in
theorem topPage_walk (A : Option Addr) (n c : Nat) (qs : List SkA) (w : World) (hn : n ≤ maxLen) (hs : SlSk w A n qs) :
    Calls Try.prog 10 #[.slice A n c] w fun e w' => e = .returned (.bool true) ∧ Below w.heap.size w w' := by
  suffices h : Calls Try.prog 10 #[.slice A n c] w fun e w' => e = .returned (.bool true) ∧ Kept w w' from h.mono fun e w' ⟨h1, h2⟩ => ⟨h1, h2.below⟩
  by_cases h30 : 30 < n
  · have t1 : decide (30 < n) = true := by simpa using h30
    have t2 : decide ((30 : Int) < (n : Int)) = true := by simp; omega
    go_enter Try.func10, Try.ntmps10
    go_wp2_with fail
    refine (hands_big A n c w h30).mono ?_
    rintro e w1 ⟨rfl, rfl⟩
    go_wp2_with fail
    go_ret
    exact ⟨rfl, Kept.refl _⟩
  · have hn30 : n ≤ 30 := by omega
    have t1 : decide (30 < n) = false := by simp; omega
    have t2 : decide ((30 : Int) < (n : Int)) = false := by simp; omega
    have HPO := Lib.hid (plL_ok qs n)
    have HOW := Lib.hid (fun L => own_plL qs L n)
    clear h30
    go_enter Try.func10, Try.ntmps10
    go_wp2_with fail
    refine (hands_any A n c qs w hs hn30).mono ?_
    rintro e w1 ⟨AC, cC, AL, cL, rfl, hcs, _, hpl, k1⟩
    have hl40 := HPO.out.1
    have HPF := Lib.hid (pageF_zero.2 HPO.out)
    generalize hll : plL qs n = ll at hpl hl40 HPF HOW ⊢
    have HON := Lib.hid (fun L => show ownN ll L = cntI (ownP ll L) ll.length from rfl)
    have HLLN := Lib.hid hpl.2
    generalize hlen : ll.length = len at hpl hl40 HON HLLN ⊢
    clear hll hlen HPO
    go_wp2_with fail
    refine (pageCheck_any AL len cL ll _ hpl (by unfold maxLen; omega)).mono ?_
    rintro e w2 ⟨rfl, k2⟩
    rw [HPF.out]
    have q2 := k1.trans k2
    have hpl2 := hpl.kept k2
    have hcs2 := hcs.kept k2
    clear hpl hcs k1 k2
    have hs2 := hs.kept q2
    clear hs
    go_wp2_with fail
    go_loopw [41] (fun t wr => ∃ i : Nat, i ≤ len ∧ t = .int .i64 i ∧ Kept w2 wr) (fun t _ => len - (intOf t).toNat)
    case atStart => exact ⟨0, Nat.zero_le _, rfl, Kept.refl _⟩
    case round =>
      obtain ⟨i, hi, rfl, hkw⟩ := hrel
      by_cases hlt : i < len
      · obtain ⟨b, off, rfl, hb, c0, c1, c2, c3⟩ := (hpl2.kept hkw).getN i hlt
        generalize lfAt ll i = x at c0 c1 c2 c3
        obtain ⟨up, tx, lx, px⟩ := x
        simp only at c0 c1 c2 c3
        obtain ⟨X, hX⟩ : ∃ X, wr.heap.size = X := ⟨_, rfl⟩
        have bx := Box.new wr #[.int .i64 up, .int .i64 tx, .int .i64 lx, .int .u32 (W px)] 38 X hX
        have hka : Kept wr (wr.alloc (.cells #[.int .i64 up, .int .i64 tx, .int .i64 lx, .int .u32 (W px)] 38)) := (Kept.refl _).alloc _
        have hk3 := hkw.trans hka
        have hi1 : (0 : Int) ≤ (i : Int) := by omega
        have hi2 : (i : Int) < (len : Int) := by omega
        obtain ⟨hw4, hwp⟩ := HOW.out (lx, px)
        rw [HON.out] at hw4 hwp
        have HW4 := Lib.hid hw4
        have HWP := Lib.hid hwp
        clear hw4 hwp hka hkw
        go_wp2_with fail
        generalize wr.alloc (.cells #[.int .i64 up, .int .i64 tx, .int .i64 lx, .int .u32 (W px)] 38) = w3 at bx hk3
        clear c0 c1 c2 c3 hb hX
        go_loopw [8, 47] (fun v t wr => ∃ j : Nat, j ≤ len ∧ t = .int .i64 j ∧ v = .int .i64 (cntI (ownP ll (lx, px)) j : Nat) ∧ Kept w3 wr) (fun _ t _ => len - (intOf t).toNat)
        case atStart => exact ⟨0, Nat.zero_le _, rfl, rfl, Kept.refl _⟩
        case round =>
          obtain ⟨j, hj, rfl, rfl, hkj⟩ := hrel
          by_cases hjl : j < len
          · obtain ⟨b9, o9, e9, hb9, c0, c1, c2, c3⟩ := ((hpl2.kept hk3).kept hkj).getN j hjl
            injection e9 with e9
            injection e9 with e9 e10
            subst e9 e10
            have HST := Lib.hid (ownP_step ll (lx, px) j)
            have hle := cntI_le (ownP ll (lx, px)) j
            have HOP := Lib.hid (show ownP ll (lx, px) j = decide ((lfAt ll j).2.2 = (lx, px)) from rfl)
            generalize lfAt ll j = y at c0 c1 c2 c3 HOP
            obtain ⟨u2, t2', l2, p2⟩ := y
            simp only at c0 c1 c2 c3 HOP
            obtain ⟨Y, hY⟩ : ∃ Y, wr.heap.size = Y := ⟨_, rfl⟩
            have by_ := Box.new wr #[.int .i64 u2, .int .i64 t2', .int .i64 l2, .int .u32 (W p2)] 38 Y hY
            have hka : Kept wr (wr.alloc (.cells #[.int .i64 u2, .int .i64 t2', .int .i64 l2, .int .u32 (W p2)] 38)) := (Kept.refl _).alloc _
            have z2 := by_.at_ 2 rfl
            have z3 := by_.at_ 3 rfl
            have bx2 := bx.kept (hkj.trans hka)
            have y2 := bx2.at_ 2 rfl
            have y3 := bx2.at_ 3 rfl
            have hj1 : (0 : Int) ≤ (j : Int) := by omega
            have hj2 : (j : Int) < (len : Int) := by omega
            have FIN := Lib.hid (hkj.trans hka)
            clear hka bx2
            by_cases hl2 : l2 = lx
            · subst hl2
              by_cases hp2 : p2 = px
              · subst hp2
                have HV := Lib.hid (show cntI (ownP ll (l2, p2)) (j + 1) = cntI (ownP ll (l2, p2)) j + 1 by rw [HST.out, HOP.out]; simp)
                have hw9 : IntKind.i64.wrap (((cntI (ownP ll (l2, p2)) j : Nat) : Int) + 1) = ((cntI (ownP ll (l2, p2)) j : Nat) : Int) + 1 := by rw [IntKind.wrap_i64]; omega
                go_wp2_with fail
                go_roundw
                case rel => exact ⟨j + 1, by omega, by go_num, by rw [HV.out]; rfl, FIN.out⟩
                case measure => simp [intOf]; omega
              · have d9 : (p2 == px) = false := by simpa using hp2
                have HV := Lib.hid (show cntI (ownP ll (l2, px)) (j + 1) = cntI (ownP ll (l2, px)) j by rw [HST.out, HOP.out]; simp [hp2])
                clear hp2
                go_wp2_with fail
                go_roundw
                case rel => exact ⟨j + 1, by omega, by go_num, by rw [HV.out], FIN.out⟩
                case measure => simp [intOf]; omega
            · have d9 : (l2 == lx) = false := by simpa using hl2
              have HV := Lib.hid (show cntI (ownP ll (lx, px)) (j + 1) = cntI (ownP ll (lx, px)) j by rw [HST.out, HOP.out]; simp [hl2])
              clear hl2
              go_wp2_with fail
              go_roundw
              case rel => exact ⟨j + 1, by omega, by go_num, by rw [HV.out], FIN.out⟩
              case measure => simp [intOf]; omega
          · have HJ := Lib.hid (show j = len by omega)
            rw [HJ.out]
            have hk4 := hk3.trans hkj
            have bx3 := bx.kept hkj
            generalize cntI (ownP ll (lx, px)) len = have_ at HW4 HWP ⊢
            clear bx hkj hk3
            go_wp2_with fail
            have hk5 : Kept wr wr := Kept.refl _
            go_loopw [11, 61] (fun v t wq => ∃ j : Nat, j ≤ n ∧ t = .int .i64 j ∧ v = .int .i64 (cntI (putB qs (lx, px)) j : Nat) ∧ Kept wr wq) (fun _ t _ => n - (intOf t).toNat)
            case atStart => exact ⟨0, Nat.zero_le _, rfl, rfl, Kept.refl _⟩
            case round =>
              obtain ⟨j, hj, rfl, rfl, hkj⟩ := hrel
              by_cases hjl : j < n
              · obtain ⟨b9, o9, hjq, rfl, hb9, c0, c1, c2, c3, c4, _⟩ := ((hs2.kept hk4).kept hkj).get j hjl
                obtain ⟨b8, o8, hj8, rfl, hb8, cc⟩ := ((hcs2.kept hk4).kept hkj).get j hjl
                have HST := Lib.hid (cnt_step (putB qs (lx, px)) j)
                have hle := cntI_le (putB qs (lx, px)) j
                rw [codesL_at hj8] at cc
                have HPB := Lib.hid (show putB qs (lx, px) j = (decide (qs[j].1.kind = 1) && (decide (qs[j].1.who = (lx, px)) && decide (plC qs j = 0))) by unfold putB; rw [skN_eq hjq])
                generalize qs[j] = q at c0 c1 c2 c3 c4 HPB
                generalize plC qs j = cd at cc HPB
                obtain ⟨⟨kind, ⟨l2, p2⟩, ps, t9⟩, A2, m, c2x⟩ := q
                simp only at c0 c1 c2 c3 c4 HPB
                obtain ⟨Y, hY⟩ : ∃ Y, wr.heap.size = Y := ⟨_, rfl⟩
                have by_ := Box.new wr #[.int .i64 kind, .int .i64 l2, .int .u32 (W p2), .slice A2 m c2x, .int .i64 t9] 48 Y hY
                have hka : Kept wr (wr.alloc (.cells #[.int .i64 kind, .int .i64 l2, .int .u32 (W p2), .slice A2 m c2x, .int .i64 t9] 48)) := (Kept.refl _).alloc _
                have cc2 := (hka.cell (cell_lt cc)).trans cc
                have z0 := by_.at_ 0 rfl
                have z1 := by_.at_ 1 rfl
                have z2 := by_.at_ 2 rfl
                have bx2 := bx3.kept (hkj.trans hka)
                have y2 := bx2.at_ 2 rfl
                have y3 := bx2.at_ 3 rfl
                have hj1 : (0 : Int) ≤ (j : Int) := by omega
                have hj2 : (j : Int) < (n : Int) := by omega
                have FIN := Lib.hid (hkj.trans hka)
                clear hka bx2
                by_cases hk1 : kind = 1
                · subst hk1
                  by_cases hl2 : l2 = lx
                  · subst hl2
                    by_cases hp2 : p2 = px
                    · subst hp2
                      by_cases hcd : cd = 0
                      · subst hcd
                        have HV := Lib.hid (show cntI (putB qs (l2, p2)) (j + 1) = cntI (putB qs (l2, p2)) j + 1 by rw [HST.out, HPB.out]; simp)
                        have hw9 : IntKind.i64.wrap (((cntI (putB qs (l2, p2)) j : Nat) : Int) + 1) = ((cntI (putB qs (l2, p2)) j : Nat) : Int) + 1 := by rw [IntKind.wrap_i64]; omega
                        go_wp2_with fail
                        go_roundw
                        case rel => exact ⟨j + 1, by omega, by go_num, by rw [HV.out]; rfl, FIN.out⟩
                        case measure => simp [intOf]; omega
                      · have d9 : (cd == 0) = false := by simpa using hcd
                        have HV := Lib.hid (show cntI (putB qs (l2, p2)) (j + 1) = cntI (putB qs (l2, p2)) j by rw [HST.out, HPB.out]; simp [hcd])
                        clear hcd
                        go_wp2_with fail
                        go_roundw
                        case rel => exact ⟨j + 1, by omega, by go_num, by rw [HV.out], FIN.out⟩
                        case measure => simp [intOf]; omega
                    · have d9 : (p2 == px) = false := by simpa using hp2
                      have HV := Lib.hid (show cntI (putB qs (l2, px)) (j + 1) = cntI (putB qs (l2, px)) j by rw [HST.out, HPB.out]; simp [hp2])
                      clear hp2
                      go_wp2_with fail
                      go_roundw
                      case rel => exact ⟨j + 1, by omega, by go_num, by rw [HV.out], FIN.out⟩
                      case measure => simp [intOf]; omega
                  · have d9 : (l2 == lx) = false := by simpa using hl2
                    have HV := Lib.hid (show cntI (putB qs (lx, px)) (j + 1) = cntI (putB qs (lx, px)) j by rw [HST.out, HPB.out]; simp [hl2])
                    clear hl2
                    go_wp2_with fail
                    go_roundw
                    case rel => exact ⟨j + 1, by omega, by go_num, by rw [HV.out], FIN.out⟩
                    case measure => simp [intOf]; omega
                · have d9 : (kind == 1) = false := by simpa using hk1
                  have HV := Lib.hid (show cntI (putB qs (lx, px)) (j + 1) = cntI (putB qs (lx, px)) j by rw [HST.out, HPB.out]; simp [hk1])
                  clear hk1
                  go_wp2_with fail
                  go_roundw
                  case rel => exact ⟨j + 1, by omega, by go_num, by rw [HV.out], FIN.out⟩
                  case measure => simp [intOf]; omega
              · have HJ2 := Lib.hid (show j = n by omega)
                rw [HJ2.out]
                have hw4 := HW4.out
                have hwp := HWP.out
                generalize cntI (putB qs (lx, px)) n = puts at hwp ⊢
                have t4 : decide (4 < have_) = false := by simp; omega
                have t5 : decide (puts < have_) = false := by simp; omega
                have t6 : decide ((4 : Int) < (have_ : Int)) = false := by simp; omega
                have t7 : decide ((puts : Int) < (have_ : Int)) = false := by simp; omega
                have FIN := Lib.hid (hk4.trans hkj)
                clear hw4 hwp
                go_wp2_with fail
                go_roundw
                case rel => exact ⟨i + 1, by omega, by go_num, FIN.out⟩
                case measure => simp [intOf]; omega
      · go_wp2_with fail
        go_ret
        exact ⟨rfl, q2.trans hkw⟩
end Go.Proofs.Ytjcooagchjjknaa.topPageDone
