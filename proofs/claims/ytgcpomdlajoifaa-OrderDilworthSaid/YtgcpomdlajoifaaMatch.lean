/- The walk of match.find. -/
import Derived.Test.YtgcpomdlajoifaaApart
import Derived.Test.YtgcpomdlajoifaaDilT
import Derived.StillTailTactics
namespace Go.Proofs.Ytgcpomdlajoifaa
open Go Go.RowKit
set_option linter.unusedVariables false

def laV (f : Ls) (n : Nat) : List Value := (List.range n).map fun i => .int .i64 (f i)
theorem laV_at (f : Ls) {n i : Nat} (hi : i < n) : (laV f n)[i]? = some (.int .i64 (f i)) := by simp [laV, hi]
theorem laV_set (f : Ls) (n s : Nat) (v : Int) : (laV f n).set s (.int .i64 v) = laV (updL f s v) n := by
  unfold laV
  apply List.ext_getElem
  · simp
  · intro i h1 h2
    rw [List.getElem_set]
    simp only [List.getElem_map, List.getElem_range]
    by_cases e : s = i
    · subst e
      simp [updL_same]
    · rw [if_neg e, updL_other (fun h => e h.symm)]
def bitF (sw : BitVec 32) : Nat → Bool := fun j => sw.getLsbD j
theorem bitF_mark (sw : BitVec 32) {k : Nat} (hk : k < 32) : bitF (sw ||| 1#32 <<< k) = mark (bitF sw) k := by
  funext j
  unfold bitF mark
  rw [BitVec.getLsbD_or, getLsbD_bit]
  by_cases e : j = k
  · subst e; simp [hk]
  · have e2 : ¬ k = j := fun h => e h.symm
    have e3 : (j == k) = false := by simpa using e
    simp [e2, e3]
/-- the matching in memory -/
def MtC (w0 w : World) (X L : Nat) (up : Value) (n cl : Nat) (last : Ls) (sw : BitVec 32) : Prop :=
  Row w0 w X 73 [up, .slice (some ⟨L, 0, none⟩) n cl, .int .u32 (W sw)] ∧ Row w0 w L 3 (laV last n)
def uns (n : Nat) (sw : BitVec 32) : Nat := ((List.range n).filter fun j => !sw.getLsbD j).length
theorem MtC.ne {w0 w : World} {X L n cl : Nat} {up : Value} {last : Ls} {sw : BitVec 32} (h : MtC w0 w X L up n cl last sw) : X ≠ L := by
  obtain ⟨⟨⟨c1, h1, _⟩, _⟩, ⟨⟨c2, h2, _⟩, _⟩⟩ := h
  intro e
  subst e
  rw [h1] at h2
  injection h2 with h2
  injection h2 with _ h3
  exact absurd h3 (by decide)
theorem MtC.kept {w0 w w' : World} {X L n cl : Nat} {up : Value} {last : Ls} {sw : BitVec 32} (h : MtC w0 w X L up n cl last sw) (k : Kept w w') : MtC w0 w' X L up n cl last sw := ⟨h.1.kept k, h.2.kept k⟩
theorem MtC.seen {w0 w : World} {X L n cl : Nat} {up : Value} {last : Ls} {sw : BitVec 32} (h : MtC w0 w X L up n cl last sw) (s2 : BitVec 32) : MtC w0 (w.setCell ⟨X, 2, none⟩ (.int .u32 (W s2))) X L up n cl last s2 :=
  ⟨h.1.set 2 _, h.2.grown (grownC w ⟨X, 2, none⟩ _) (fun e => by injection e with e; exact h.ne e.symm) (fun k e => by injection e with e; have := h.1.2.1; subst e; exact this)⟩
theorem MtC.put {w0 w : World} {X L n cl : Nat} {up : Value} {last : Ls} {sw : BitVec 32} (h : MtC w0 w X L up n cl last sw) (j : Nat) (v : Int) : MtC w0 (w.setCell ⟨L, j, none⟩ (.int .i64 v)) X L up n cl (updL last j v) sw := by
  refine ⟨h.1.grown (grownC w ⟨L, j, none⟩ _) (fun e => by injection e with e; exact h.ne e) (fun k e => by injection e with e; have := h.2.2.1; subst e; exact this), ?_⟩
  have := h.2.set j (.int .i64 v)
  rw [laV_set] at this
  exact this
theorem uns_mark {n k : Nat} {sw s2 : BitVec 32} (hk : k < n) (hu : sw.getLsbD k = false) (hm : ∀ j, bitF s2 j = mark (bitF sw) k j) : uns n s2 < uns n sw := by
  unfold uns
  have e : ((List.range n).filter fun j => !s2.getLsbD j) = ((List.range n).filter fun j => !sw.getLsbD j).filter fun j => !(j == k) := by
    rw [List.filter_filter]
    apply List.filter_congr
    intro j _
    have := hm j
    unfold mark bitF at this
    rw [this]
    cases sw.getLsbD j <;> cases (j == k) <;> rfl
  rw [e, List.length_filter_lt_length_iff_exists]
  exact ⟨k, List.mem_filter.2 ⟨List.mem_range.2 hk, by rw [hu]; rfl⟩, by simp⟩
theorem uns_mono {n : Nat} {sw s2 : BitVec 32} (h : ∀ j, bitF sw j = true → bitF s2 j = true) : uns n s2 ≤ uns n sw := by
  unfold uns
  refine len_of_inj n id (fun v hv hp => ⟨hv, ?_⟩) (fun u v _ _ _ _ e => e)
  show (!sw.getLsbD v) = true
  cases hs : sw.getLsbD v with
  | false => rfl
  | true =>
    have := h v hs
    unfold bitF at this
    rw [this] at hp
    cases hp
/-- what find answers -/
def RetF (w0 : World) (X L : Nat) (up : Value) (n cl : Nat) (ps : List Pr) (last : Ls) (sw : BitVec 32) (i : Nat) (e : Ending) (w' : World) : Prop :=
  ∃ (b : Bool) (last' : Ls) (sw' : BitVec 32), e = .returned (.bool b) ∧ FPost (ov ps) n last (bitF sw) i b last' (bitF sw') ∧ MtC w0 w' X L up n cl last' sw'
set_option maxRecDepth 100000 in
set_option maxHeartbeats 4000000 in
theorem find_any (w0 : World) (X L b2 o2 c2 n cl : Nat) (ps : List Pr) (hn : n ≤ 6) (hup : ∀ k, k < n → b2 < w0.heap.size ∧ w0.cell? ⟨b2, o2 + k, none⟩ = some (.int .u32 (W (nth (upL n ps) k)))) :
    ∀ (f : Nat) (sw : BitVec 32) (last : Ls) (i : Nat) (w : World), uns n sw < f → MtC w0 w X L (.slice (some ⟨b2, o2, none⟩) n c2) n cl last sw → FPre (ov ps) n last (bitF sw) i →
      Calls Try.prog 47 #[.pointer (some ⟨X, 0, none⟩), .int .i64 i] w (RetF w0 X L (.slice (some ⟨b2, o2, none⟩) n c2) n cl ps last sw i) := by
  intro f
  induction f with
  | zero => intro sw last i w h; omega
  | succ f ih =>
    intro sw last i w hf hM hP
    have HIH := Lib.hid ih
    have HF := Lib.hid hf
    have HM := Lib.hid hM
    have HP := Lib.hid hP
    have HUP := Lib.hid hup
    have x0 := hM.1.cell 0 rfl
    have hin : i < n := hP.lt
    have i1 : (0 : Int) ≤ (i : Int) := by omega
    have i2 : (i : Int) < (n : Int) := by omega
    clear ih hf hM hP hup
    go_enter Try.func47, Try.ntmps47
    go_wp2_with fail
    clear x0
    go_loopw [11] (fun t wr => ∃ (k : Nat) (s2 : BitVec 32), k ≤ n ∧ t = .int .i64 (k : Nat) ∧ Hid (FMid (ov ps) n last (bitF sw) i k (bitF s2)) ∧ MtC w0 wr X L (.slice (some ⟨b2, o2, none⟩) n c2) n cl last s2) (fun t _ => n - (intOf t).toNat)
    case atStart => exact ⟨0, sw, Nat.zero_le _, rfl, Lib.hid FMid.start, HM.out⟩
    case round =>
      obtain ⟨k, s2, hk, rfl, HD, hC⟩ := hrel
      by_cases hlt : k < n
      · have y0 := hC.1.cell 0 rfl
        have HC := Lib.hid hC
        obtain ⟨y2, g2⟩ := hC.1.at0 2 (u := .int .u32 (W s2)) rfl
        have uz := (hC.1.kept0.cell (p := ⟨b2, o2 + i, none⟩) (HUP.out i hin).1).trans (HUP.out i hin).2
        have hbz := upL_at ps (by omega) hin (j := k) hlt
        generalize nth (upL n ps) i = z at uz hbz
        have HLT := Lib.hid hlt
        have j1 : (0 : Int) ≤ (k : Int) := by omega
        have j2 : (k : Int) < (n : Int) := by omega
        by_cases hki : k = i
        · have hb1 : ((k : Int) == (i : Int)) = true := by rw [beq_iff_eq]; omega
          have HSK := Lib.hid (HD.out.skip (.inl (show ov ps i k = false by unfold ov; simp [hki])))
          clear hC hlt hki hbz
          go_wp2_with fail
          go_roundw
          case rel => exact ⟨k + 1, s2, HLT.out, by go_num, HSK, HC.out⟩
          case measure => have := HLT.out; simp [intOf]; omega
        · have hb1 : ((k : Int) == (i : Int)) = false := by rw [beq_eq_false_iff_ne]; omega
          cases hub : under ps i k with
          | false =>
            have HSK := Lib.hid (HD.out.skip (.inl (show ov ps i k = false by unfold ov; rw [hub]; simp)))
            rw [hub] at hbz
            clear hC hlt hki hub
            go_wp2_with fail
            go_roundw
            case rel => exact ⟨k + 1, s2, HLT.out, by go_num, HSK, HC.out⟩
            case measure => have := HLT.out; simp [intOf]; omega
          | true =>
            have HOV := Lib.hid (show ov ps i k = true from ov_iff.2 ⟨hki, hub⟩)
            rw [hub] at hbz
            clear hub
            cases hsb : s2.getLsbD k with
            | true =>
              have HSK := Lib.hid (HD.out.skip (.inr (show bitF s2 k = true from hsb)))
              clear hC hlt hki
              go_wp2_with fail
              go_roundw
              case rel => exact ⟨k + 1, s2, HLT.out, by go_num, HSK, HC.out⟩
              case measure => have := HLT.out; simp [intOf]; omega
            | false =>
              have HUS := Lib.hid (show bitF s2 k = false from hsb)
              have hM5 := (HC.out.seen (s2 ||| 1#32 <<< k)).kept ((Kept.refl _).drew)
              have v1 := hM5.1.cell 1 rfl
              obtain ⟨v2, gv2⟩ := hM5.2.at0 k (laV_at _ HLT.out)
              have HM5 := Lib.hid hM5
              have HMK := Lib.hid (bitF_mark s2 (k := k) (by omega))
              have HUN := Lib.hid (show uns n (s2 ||| 1#32 <<< k) < f by
                have h1 := uns_mark (n := n) (sw := s2) (s2 := s2 ||| 1#32 <<< k) HLT.out hsb (fun j => by rw [HMK.out])
                have h2 := uns_mono (n := n) HD.out.more
                have h3 := HF.out
                omega)
              clear hC hlt hki hM5
              rcases HP.out.ok k HLT.out with hneg | ⟨x, hx, ex, _⟩
              · have HNEG := Lib.hid hneg
                have hd : decide (last k < 0) = true := by rw [decide_eq_true_eq]; exact hneg
                have HRET : Hid (RetF w0 X L (.slice (some ⟨b2, o2, none⟩) n c2) n cl ps last sw i (.returned (.bool true)) ((wr.setCell ⟨X, 2, none⟩ (.int .u32 (W (s2 ||| 1#32 <<< k)))).drew.setCell ⟨L, k, none⟩ (.int .i64 (i : Int)))) := Lib.hid ⟨true, updL last k (i : Int), s2 ||| 1#32 <<< k, rfl, by rw [HMK.out]; exact HD.out.take HP.out HLT.out HOV.out HUS.out HNEG.out, HM5.out.put k (i : Int)⟩
                clear hneg
                generalize last k = lk at v2 hd
                go_wp2_with fail
                go_still_tail 9, (by kernel_rfl)
                go_wp2_with fail
                go_ret
                exact HRET.out
              · rw [ex] at v2
                have hd : decide ((x : Int) < 0) = false := by simp
                have HSUB := Lib.hid (show FPre (ov ps) n last (bitF (s2 ||| 1#32 <<< k)) x by rw [HMK.out]; exact HD.out.sub HP.out HLT.out HUS.out hx ex)
                have HEX := Lib.hid ex
                have HX := Lib.hid hx
                have HCALL := Lib.hid (HIH.out (s2 ||| 1#32 <<< k) last x _ HUN.out HM5.out HSUB.out)
                clear ex
                go_wp2_with fail
                go_still_tail 9, (by kernel_rfl)
                go_wp2_with fail
                refine HCALL.out.mono ?_
                rintro e w6 ⟨b, last', s6, rfl, hpost, hM6⟩
                have u1 := hM6.1.cell 1 rfl
                obtain ⟨u2, gu2⟩ := hM6.2.at0 k (laV_at _ HLT.out)
                have HPO := Lib.hid hpost
                have HM6 := Lib.hid hM6
                clear hpost hM6 v1 v2 gv2
                cases b with
                | true =>
                  have HRET : Hid (RetF w0 X L (.slice (some ⟨b2, o2, none⟩) n c2) n cl ps last sw i (.returned (.bool true)) (w6.setCell ⟨L, k, none⟩ (.int .i64 (i : Int)))) := Lib.hid ⟨true, updL last' k (i : Int), s6, rfl, HD.out.found HP.out HLT.out HOV.out HUS.out HX.out HEX.out (by rw [← HMK.out]; exact HPO.out), HM6.out.put k (i : Int)⟩
                  go_wp2_with fail
                  go_ret
                  exact HRET.out
                | false =>
                  obtain ⟨hq1, hq2⟩ := HD.out.fail HLT.out HUS.out HX.out HEX.out (by rw [← HMK.out]; exact HPO.out)
                  subst hq1
                  have HQ2 := Lib.hid hq2
                  clear hq2
                  go_wp2_with fail
                  go_roundw
                  case rel => exact ⟨k + 1, s6, HLT.out, by go_num, HQ2, HM6.out⟩
                  case measure => have := HLT.out; simp [intOf]; omega
      · have HN := Lib.hid (show RetF w0 X L (.slice (some ⟨b2, o2, none⟩) n c2) n cl ps last sw i (.returned (.bool false)) wr from ⟨false, last, s2, rfl, FMid.none (by have := HD.out; rw [show k = n by omega] at this; exact this) HP.out, hC⟩)
        clear hC
        go_wp2_with fail
        go_ret
        exact HN.out
end Go.Proofs.Ytgcpomdlajoifaa
