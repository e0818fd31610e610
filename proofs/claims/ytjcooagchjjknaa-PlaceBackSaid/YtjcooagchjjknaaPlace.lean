/- The walks of package place: Below, Go, wrong, Find. -/
import Derived.Test.YtjcooagchjjknaaTops
import Derived.Test.YtjcooagchjjknaaPlaceP
namespace Go.Proofs.Ytjcooagchjjknaa
open Go Go.RowKit
set_option linter.unusedVariables false

/-- a new slice of ints alone -/
def RetI1 (w : World) (xs : List Int) (e : Ending) (w' : World) : Prop := ∃ A c, e = .returned (.slice A xs.length c) ∧ SlI w' A xs.length xs ∧ Kept w w'
set_option maxHeartbeats 4000000 in
theorem below_any (A : Option Addr) (n c : Nat) (ls : List Lf) (lv : Int) (pt : BitVec 32) (a : Int) (w : World) (hs : SlL w A n ls) (hn : n ≤ 1000) :
    Calls Try.prog 40 #[.slice A n c, .agg #[.int .i64 lv, .int .u32 (W pt)], .int .i64 a] w (RetI1 w (belowL ls (lv, pt) a)) := by
  have HLN := Lib.hid hs.2
  have hka0 : Kept w (w.alloc (.cells #[.int .i64 lv, .int .u32 (W pt)] 25)) := (Kept.refl _).alloc _
  have bx0 := Box.new w #[.int .i64 lv, .int .u32 (W pt)] 25 w.heap.size rfl
  go_enter Try.func40, Try.ntmps40
  go_wp2_with fail
  generalize w.heap.size = BW at bx0 ⊢
  generalize w.alloc (.cells #[.int .i64 lv, .int .u32 (W pt)] 25) = w1 at hka0 bx0
  go_loopw [7, 12] (fun v t wr => ∃ k : Nat, k ≤ n ∧ t = .int .i64 k ∧ Own w1 wr 3 1 v (belowTo ls (lv, pt) a k).length ((belowTo ls (lv, pt) a k).map iv)) (fun _ t _ => n - (intOf t).toNat)
  case atStart => exact ⟨0, Nat.zero_le _, rfl, Own.start (Kept.refl _)⟩
  case round =>
    obtain ⟨k, hk, rfl, hown⟩ := hrel
    by_cases hlt : k < n
    · obtain ⟨b, off, rfl, hb, c0, c1, c2, c3⟩ := (hs.kept (hka0.trans hown.kept0)).getN k hlt
      have HB := Lib.hid (show belowTo ls (lv, pt) a (k + 1) = belowTo ls (lv, pt) a k ++ (if (lfAt ls k).1 = a ∧ leB (lfAt ls k).2.2 (lv, pt) = true then [(k : Int)] else []) from rfl)
      generalize lfAt ls k = x at c0 c1 c2 c3 HB
      obtain ⟨up, tx, lx, px⟩ := x
      simp only at c0 c1 c2 c3 HB
      obtain ⟨X, hX⟩ : ∃ X, wr.heap.size = X := ⟨_, rfl⟩
      have bx := Box.new wr #[.int .i64 up, .int .i64 tx, .int .i64 lx, .int .u32 (W px)] 38 X hX
      have hka : Kept wr (wr.alloc (.cells #[.int .i64 up, .int .i64 tx, .int .i64 lx, .int .u32 (W px)] 38)) := (Kept.refl _).alloc _
      obtain ⟨A9, c9, rfl, hsl, _⟩ := hown.form
      have ho2 := hown.kept hka
      have hle := belowTo_le ls (lv, pt) a k
      have g0 := bx.at_ 0 rfl
      have g2 := bx.at_ 2 rfl
      have g3 := bx.at_ 3 rfl
      have bw := (bx0.kept hown.kept0).kept hka
      have f0 := bw.at_ 0 rfl
      have f1 := bw.at_ 1 rfl
      have hi1 : (0 : Int) ≤ (k : Int) := by omega
      have hi2 : (k : Int) < (n : Int) := by omega
      have HX := Lib.hid hX
      by_cases hup : up = a
      · subst hup
        go_wp2_with fail
        refine (least_any lx lv px pt _).mono ?_
        rintro e w4 ⟨rfl, k4⟩
        have ho4 := ho2.kept k4
        cases hse : leB (lx, px) (lv, pt)
        · have HV := Lib.hid hse
          clear hse
          go_wp2_with fail
          go_roundw
          case rel => exact ⟨k + 1, by omega, by go_num, by rw [HB.out, HV.out, if_neg (by simp), List.append_nil]; exact ho4⟩
          case measure => simp [intOf]; omega
        · have HV := Lib.hid hse
          clear hse
          go_wp2_with (at_builtin; refine wpList_push rfl _ _ 34 rfl 3 Try.underlying34 info_i64 rfl (by decide) (by decide) _ _ _ _ ho4 #[.int .i64 k] _ _ 1 1 rfl rfl rfl rfl (one_i64 _) (by omega) ?_; intro v' w7 hown7 _)
          go_roundw
          case rel => exact ⟨k + 1, by omega, by go_num, by rw [HB.out, HV.out, if_pos (by simp), List.length_append]; simpa [iv] using hown7⟩
          case measure => simp [intOf]; omega
      · have d0 : (up == a) = false := by simpa using hup
        have HU := Lib.hid hup
        clear hup
        go_wp2_with fail
        go_roundw
        case rel => exact ⟨k + 1, by omega, by go_num, by rw [HB.out, if_neg (fun h => HU.out h.1), List.append_nil]; exact ho2⟩
        case measure => simp [intOf]; omega
    · have HK := Lib.hid (show belowTo ls (lv, pt) a k = belowL ls (lv, pt) a by rw [show k = ls.length by rw [HLN.out]; omega]; rfl)
      rw [HK.out] at hown
      obtain ⟨A2, c2, rfl, hsl, _⟩ := hown.form
      have FIN := Lib.hid (show RetI1 w (belowL ls (lv, pt) a) (.returned (.slice A2 (belowL ls (lv, pt) a).length c2)) wr from ⟨A2, c2, rfl, ⟨hsl, rfl⟩, hka0.trans hown.kept0⟩)
      go_wp2_with fail
      go_ret
      exact FIN.out
def goV : Option Int → Value
  | none => .tuple #[.int .i64 0, .bool false]
  | some a => .tuple #[.int .i64 a, .bool true]
set_option maxHeartbeats 4000000 in
theorem go_any (A : Option Addr) (n c : Nat) (ls : List Lf) (lv : Int) (pt : BitVec 32) (A2 : Option Addr) (m c2 : Nat) (ps : List Int) (w : World) (hs : SlL w A n ls) (hp : SlI w A2 m ps) (hn : n ≤ 1000) (hm : m ≤ maxLen) :
    Calls Try.prog 38 #[.slice A n c, .agg #[.int .i64 lv, .int .u32 (W pt)], .slice A2 m c2] w fun e w' => e = .returned (goV (goF ls (lv, pt) (-1) ps)) ∧ Kept w w' := by
  have HPN := Lib.hid hp.2
  have hm62 : m ≤ 9223372036854775807 := hm
  have hka0 : Kept w (w.alloc (.cells #[.int .i64 lv, .int .u32 (W pt)] 25)) := (Kept.refl _).alloc _
  have bx0 := Box.new w #[.int .i64 lv, .int .u32 (W pt)] 25 w.heap.size rfl
  go_enter Try.func38, Try.ntmps38
  go_wp2_with fail
  generalize w.heap.size = BW at bx0 ⊢
  generalize w.alloc (.cells #[.int .i64 lv, .int .u32 (W pt)] 25) = w1 at hka0 bx0
  go_loopw [8, 14] (fun v t wr => ∃ k : Nat, k ≤ m ∧ t = .int .i64 k ∧ ∃ a : Int, v = .int .i64 a ∧ goF ls (lv, pt) (-1) ps = goF ls (lv, pt) a (ps.drop k) ∧ Kept w1 wr) (fun _ t _ => m - (intOf t).toNat)
  case atStart => exact ⟨0, Nat.zero_le _, rfl, -1, rfl, rfl, Kept.refl _⟩
  case round =>
    obtain ⟨k, hk, rfl, a, rfl, hg, hkw⟩ := hrel
    have HG := Lib.hid hg
    clear hg
    by_cases hlt : k < m
    · obtain ⟨b, off, hkp, rfl, hb, cP⟩ := (hp.kept (hka0.trans hkw)).get k hlt
      have HS := Lib.hid (goF_step (ls := ls) (who := (lv, pt)) (a := a) hkp)
      generalize ps[k] = p at cP HS
      have bw := bx0.kept hkw
      have f0 := bw.at_ 0 rfl
      have f1 := bw.at_ 1 rfl
      have hi1 : (0 : Int) ≤ (k : Int) := by omega
      have hi2 : (k : Int) < (m : Int) := by omega
      go_wp2_with fail
      refine (below_any A n c ls lv pt a _ (hs.kept (hka0.trans hkw)) hn).mono ?_
      rintro e w4 ⟨A4, c4, rfl, h4, k4⟩
      clear f0 f1
      by_cases h0 : 0 ≤ p
      · obtain ⟨q, rfl⟩ := Int.eq_ofNat_of_zero_le h0
        by_cases hl : q < (belowL ls (lv, pt) a).length
        · obtain ⟨b4, o4, hb4, rfl, _, c4'⟩ := h4.get q hl
          have HE := Lib.hid (show (belowL ls (lv, pt) a).getD q 0 = (belowL ls (lv, pt) a)[q] by rw [List.getD_eq_getElem?_getD, List.getElem?_eq_getElem hl]; rfl)
          have HN := Lib.hid (show goF ls (lv, pt) a (ps.drop k) = goF ls (lv, pt) ((belowL ls (lv, pt) a)[q]) (ps.drop (k + 1)) by rw [HS.out, if_pos ⟨by omega, by omega⟩, Int.toNat_natCast, HE.out])
          generalize (belowL ls (lv, pt) a)[q] = y at c4' HN
          generalize (belowL ls (lv, pt) a).length = len at hl
          have d0 : decide ((q : Int) < 0) = false := by simp
          have d1 : decide (len ≤ q) = false := by simpa using hl
          have hi3 : (0 : Int) ≤ (q : Int) := by omega
          have hi4 : (q : Int) < (len : Int) := by omega
          go_wp2_with fail
          go_roundw
          case rel => exact ⟨k + 1, by omega, by go_num, y, rfl, by rw [HG.out, HN.out], hkw.trans k4⟩
          case measure => simp [intOf]; omega
        · have HF := Lib.hid (show goF ls (lv, pt) (-1) ps = none by rw [HG.out, HS.out, if_neg (by omega)])
          generalize (belowL ls (lv, pt) a).length = len at hl h4
          have d0 : decide ((q : Int) < 0) = false := by simp
          have d1 : decide (len ≤ q) = true := by simpa using hl
          have FIN := Lib.hid (show Ending.returned (.tuple #[.int .i64 0, .bool false]) = .returned (goV (goF ls (lv, pt) (-1) ps)) ∧ Kept w w4 from ⟨by rw [HF.out]; rfl, (hka0.trans hkw).trans k4⟩)
          go_wp2_with fail
          go_ret2
          exact FIN.out
      · have HF := Lib.hid (show goF ls (lv, pt) (-1) ps = none by rw [HG.out, HS.out, if_neg (by omega)])
        have d0 : decide (p < 0) = true := by simp; omega
        have FIN := Lib.hid (show Ending.returned (.tuple #[.int .i64 0, .bool false]) = .returned (goV (goF ls (lv, pt) (-1) ps)) ∧ Kept w w4 from ⟨by rw [HF.out]; rfl, (hka0.trans hkw).trans k4⟩)
        go_wp2_with fail
        go_ret2
        exact FIN.out
    · have HF := Lib.hid (show goF ls (lv, pt) (-1) ps = some a by rw [HG.out, List.drop_eq_nil_of_le (by rw [HPN.out]; omega)]; rfl)
      have FIN := Lib.hid (show Ending.returned (.tuple #[.int .i64 a, .bool true]) = .returned (goV (goF ls (lv, pt) (-1) ps)) ∧ Kept w wr from ⟨by rw [HF.out]; rfl, hka0.trans hkw⟩)
      go_wp2_with fail
      go_ret2
      exact FIN.out
theorem wrong_any (A : Option Addr) (n c : Nat) (ls : List Lf) (lv : Int) (pt : BitVec 32) (w : World) (hs : SlL w A n ls) (hn : n ≤ maxLen) :
    Calls Try.prog 37 #[.slice A n c, .agg #[.int .i64 lv, .int .u32 (W pt)]] w fun e w' => e = .returned (.int .i64 (viewF ls (lv, pt))) ∧ Kept w w' := by
  have hka : Kept w (w.alloc (.cells #[.int .i64 lv, .int .u32 (W pt)] 25)) := (Kept.refl _).alloc _
  have bx := Box.new w #[.int .i64 lv, .int .u32 (W pt)] 25 w.heap.size rfl
  by_cases hp : pageF ls = 0
  · have HF := Lib.hid (show viewF ls (lv, pt) = labF (lv, pt) by unfold viewF; rw [if_neg (by simp [hp])])
    have HP := Lib.hid hp
    clear hp
    go_enter Try.func37, Try.ntmps37
    go_wp2_with fail
    refine (pageCheck_any _ _ _ ls _ (hs.kept hka) hn).mono ?_
    rintro e w1 ⟨rfl, k1⟩
    rw [HP.out]
    have bx1 := bx.kept k1
    have e0 := bx1.at_ 0 rfl
    have e1 := bx1.at_ 1 rfl
    clear bx
    go_wp2_with fail
    refine (labCheck_any lv pt _).mono ?_
    rintro e w2 ⟨rfl, k2⟩
    go_wp2_with fail
    go_ret
    exact ⟨by rw [HF.out]; rfl, (hka.trans k1).trans k2⟩
  · have HF := Lib.hid (show viewF ls (lv, pt) = pageF ls by unfold viewF; rw [if_pos hp])
    have hne : (pageF ls != 0) = true := by simpa using hp
    clear hp
    go_enter Try.func37, Try.ntmps37
    go_wp2_with fail
    refine (pageCheck_any _ _ _ ls _ (hs.kept hka) hn).mono ?_
    rintro e w1 ⟨rfl, k1⟩
    go_wp2_with fail
    go_ret
    exact ⟨by rw [HF.out]; rfl, hka.trans k1⟩
theorem go_none {A : Option Addr} {n c : Nat} {ls : List Lf} {lv : Int} {pt : BitVec 32} {A2 : Option Addr} {m c2 : Nat} {ps : List Int} (hg : goF ls (lv, pt) (-1) ps = none) {w : World} (hs : SlL w A n ls) (hp : SlI w A2 m ps) (hn : n ≤ 1000) (hm : m ≤ maxLen) :
    Calls Try.prog 38 #[.slice A n c, .agg #[.int .i64 lv, .int .u32 (W pt)], .slice A2 m c2] w fun e w' => e = .returned (.tuple #[.int .i64 0, .bool false]) ∧ Kept w w' :=
  (go_any A n c ls lv pt A2 m c2 ps w hs hp hn hm).mono fun e w' ⟨h1, h2⟩ => ⟨by rw [h1, hg]; rfl, h2⟩
theorem go_some {A : Option Addr} {n c : Nat} {ls : List Lf} {lv : Int} {pt : BitVec 32} {A2 : Option Addr} {m c2 : Nat} {ps : List Int} {a : Int} (hg : goF ls (lv, pt) (-1) ps = some a) {w : World} (hs : SlL w A n ls) (hp : SlI w A2 m ps) (hn : n ≤ 1000) (hm : m ≤ maxLen) :
    Calls Try.prog 38 #[.slice A n c, .agg #[.int .i64 lv, .int .u32 (W pt)], .slice A2 m c2] w fun e w' => e = .returned (.tuple #[.int .i64 a, .bool true]) ∧ Kept w w' :=
  (go_any A n c ls lv pt A2 m c2 ps w hs hp hn hm).mono fun e w' ⟨h1, h2⟩ => ⟨by rw [h1, hg]; rfl, h2⟩
/-- what Find gives -/
def findF (ls : List Lf) (who : Lab) (ps : List Int) : Int × Int :=
  if viewF ls who ≠ 0 then (0, viewF ls who) else if ps = [] then (0, 5) else match goF ls who (-1) ps with | none => (0, 5) | some a => (a, 0)
theorem find_any (A : Option Addr) (n c : Nat) (ls : List Lf) (lv : Int) (pt : BitVec 32) (A2 : Option Addr) (m c2 : Nat) (ps : List Int) (w : World) (hs : SlL w A n ls) (hp : SlI w A2 m ps) (hn : n ≤ maxLen) (hm : m ≤ maxLen) :
    Calls Try.prog 20 #[.slice A n c, .agg #[.int .i64 lv, .int .u32 (W pt)], .slice A2 m c2] w fun e w' => e = .returned (.tuple #[.int .i64 (findF ls (lv, pt) ps).1, .int .i64 (findF ls (lv, pt) ps).2]) ∧ Kept w w' := by
  have hka : Kept w (w.alloc (.cells #[.int .i64 lv, .int .u32 (W pt)] 25)) := (Kept.refl _).alloc _
  have bx := Box.new w #[.int .i64 lv, .int .u32 (W pt)] 25 w.heap.size rfl
  by_cases hv : viewF ls (lv, pt) = 0
  · have h40 : n ≤ 1000 := by
      have := (pageF_zero.1 (pagedB_iff.1 (viewF_iff.1 hv)).1).1
      rw [← hs.2]; omega
    have HV := Lib.hid hv
    have HPN := Lib.hid hp.2
    have HFF := Lib.hid (show findF ls (lv, pt) ps = if ps = [] then ((0 : Int), (5 : Int)) else match goF ls (lv, pt) (-1) ps with | none => ((0 : Int), (5 : Int)) | some a => (a, 0) by unfold findF; rw [if_neg (by simp [hv])])
    clear hv
    go_enter Try.func20, Try.ntmps20
    go_wp2_with fail
    refine (wrong_any A n c ls lv pt _ (hs.kept hka) hn).mono ?_
    rintro e w1 ⟨rfl, k1⟩
    rw [HV.out]
    have bx1 := bx.kept k1
    have e0 := bx1.at_ 0 rfl
    have e1 := bx1.at_ 1 rfl
    clear bx
    have q1 := hka.trans k1
    go_wp2_with fail
    cases hg : goF ls (lv, pt) (-1) ps
    · have HF := Lib.hid (show findF ls (lv, pt) ps = (0, 5) by rw [HFF.out, hg]; split <;> rfl)
      refine (go_none hg (hs.kept q1) (hp.kept q1) h40 hm).mono ?_
      rintro e w2 ⟨rfl, k2⟩
      clear hg
      go_wp2_with fail
      go_ret2
      exact ⟨by rw [HF.out]; rfl, q1.trans k2⟩
    · rename_i a
      refine (go_some hg (hs.kept q1) (hp.kept q1) h40 hm).mono ?_
      rintro e w2 ⟨rfl, k2⟩
      have q2 := q1.trans k2
      by_cases hm0 : m = 0
      · have HF := Lib.hid (show findF ls (lv, pt) ps = (0, 5) by rw [HFF.out, if_pos (List.length_eq_zero_iff.1 (by rw [HPN.out]; exact hm0))])
        subst hm0
        clear hg
        go_wp2_with fail
        go_ret2
        exact ⟨by rw [HF.out]; rfl, q2⟩
      · have hm1 : ((m : Int) == 0) = false := by simpa using hm0
        have HF := Lib.hid (show findF ls (lv, pt) ps = (a, 0) by rw [HFF.out, if_neg (fun h => hm0 (by rw [← HPN.out, h]; rfl)), hg])
        clear hg hm0
        go_wp2_with fail
        go_ret2
        exact ⟨by rw [HF.out]; rfl, q2⟩
  · have HF := Lib.hid (show findF ls (lv, pt) ps = (0, viewF ls (lv, pt)) by unfold findF; rw [if_pos hv])
    have hne : (viewF ls (lv, pt) != 0) = true := by simpa using hv
    clear hv
    go_enter Try.func20, Try.ntmps20
    go_wp2_with fail
    refine (wrong_any A n c ls lv pt _ (hs.kept hka) hn).mono ?_
    rintro e w1 ⟨rfl, k1⟩
    go_wp2_with fail
    go_ret2
    exact ⟨by rw [HF.out]; rfl, hka.trans k1⟩
end Go.Proofs.Ytjcooagchjjknaa
