/- The walk of page.View. -/
import Derived.Test.YtjcooagchjjknaaPage
import Derived.Test.YtjcooagchjjknaaOwnB
namespace Go.Proofs.Ytjcooagchjjknaa
open Go Go.RowKit
set_option linter.unusedVariables false

theorem info_leaf : (Try.prog.info? 38).map (fun i => (i.zero, i.size, i.bytes)) = some (some (.agg #[.int .i64 0, .int .i64 0, .int .i64 0, .int .u32 0]), 4, 32) := by kernel_rfl
theorem one_leaf (a b c : Int) (p : BitVec 32) : ∀ u ∈ (#[Value.int .i64 a, Value.int .i64 b, Value.int .i64 c, Value.int .u32 (W p)] : Array Value).toList, u.oneCell' = true := fun u hu => by
  simp at hu
  rcases hu with rfl | rfl | rfl | rfl <;> rfl
def nv (k : Nat) : Value := .int .i64 ((k : Nat) : Int)
def rowsI (n : Nat) (p : Nat → Nat) : List Value := (List.range n).map fun i => nv (p i)
def setN (p : Nat → Nat) (i x : Nat) : Nat → Nat := fun w => if w = i then x else p w
theorem rowsI_length (n : Nat) (p : Nat → Nat) : (rowsI n p).length = n := by simp [rowsI]
theorem rowsI_at {n k : Nat} (p : Nat → Nat) (h : k < n) : (rowsI n p)[k]? = some (.int .i64 ((p k : Nat) : Int)) := by
  unfold rowsI nv
  simp [h]
theorem rowsI_set (n : Nat) (p : Nat → Nat) (k x : Nat) : (rowsI n p).set k (.int .i64 ((x : Nat) : Int)) = rowsI n (setN p k x) := by
  unfold rowsI setN nv
  apply List.ext_getElem
  · simp
  · intro i h1 h2
    rw [List.getElem_set]
    simp only [List.getElem_map, List.getElem_range]
    by_cases e : k = i
    · subst e
      simp
    · rw [if_neg e, if_neg (fun h => e h.symm)]
theorem Box.setOther {w : World} {X B k : Nat} {cs : Array Value} (h : Box w X cs) (hne : B ≠ X) (u : Value) : Box (w.setCell ⟨B, k, none⟩ u) X cs := by
  have e : (w.setCell ⟨B, k, none⟩ u).heap[X]? = w.heap[X]? := by simp [World.setCell, Array.getElem?_modify, hne]
  refine ⟨by simpa [World.setCell] using h.1, fun i v hv => ?_, fun i => ?_⟩
  · rw [World.cell?_of_block (w := w) (a := ⟨X, i, none⟩) e]
    exact h.2.1 i v hv
  · rw [World.frozen?_of_block (w := w) (a := ⟨X, i, none⟩) e]
    exact h.2.2 i
theorem Row.setOther {w0 w : World} {X B k : Nat} {e : TypeId} {xs : List Value} (h : Row w0 w B e xs) (hne : X ≠ B) (hX : w0.heap.size ≤ X) (u : Value) : Row w0 (w.setCell ⟨X, k, none⟩ u) B e xs := by
  obtain ⟨⟨cur, h1, h2⟩, h3, h4⟩ := h
  exact ⟨⟨cur, by simp [World.setCell, Array.getElem?_modify, hne, h1], h2⟩, h3, h4.setCell (p := ⟨X, k, none⟩) hX u⟩
theorem OwnB.setNe {base : Nat} {w : World} {E : TypeId} {s n : Nat} {v : Value} {xs : List Value} (h : OwnB base w E s v n xs) {X : Nat} (hne : ∀ g, v.ownBlock = some g → g ≠ X) (k : Nat) (u : Value) : OwnB base (w.setCell ⟨X, k, none⟩ u) E s v n xs := by
  refine ⟨⟨h.1.1, ?_⟩, by simpa [World.setCell] using h.2⟩
  rcases h.1.2 with hn | ⟨g, cap, cur, rfl, hb, hgg, rest⟩
  · exact .inl hn
  · refine .inr ⟨g, cap, cur, rfl, hb, ?_, rest⟩
    have hne : ¬ X = g := fun e => hne g rfl e.symm
    simp [World.setCell, Array.getElem?_modify, hgg, hne]
/-- the new numbers of the leaves that are kept, among the first k -/
def numTo (so : Lf → Bool) (ls : List Lf) (k i : Nat) : Nat := if i < k ∧ so (lfAt ls i) = true then cntK so ls i else 0
theorem numTo_zero (so : Lf → Bool) (ls : List Lf) : numTo so ls 0 = fun _ => 0 := by
  funext i
  unfold numTo
  rw [if_neg (by omega)]
theorem numTo_no {so : Lf → Bool} {ls : List Lf} {k : Nat} (h : so (lfAt ls k) = false) : numTo so ls (k + 1) = numTo so ls k := by
  funext i
  unfold numTo
  by_cases e : i = k
  · subst e
    rw [if_neg (by rw [h]; simp), if_neg (by omega)]
  · by_cases h2 : i < k ∧ so (lfAt ls i) = true
    · rw [if_pos h2, if_pos ⟨by omega, h2.2⟩]
    · rw [if_neg h2, if_neg (fun h3 => h2 ⟨by omega, h3.2⟩)]
theorem numTo_yes {so : Lf → Bool} {ls : List Lf} {k : Nat} (h : so (lfAt ls k) = true) : setN (numTo so ls k) k (cntK so ls k) = numTo so ls (k + 1) := by
  funext i
  unfold setN numTo
  by_cases e : i = k
  · subst e
    rw [if_pos rfl, if_pos ⟨by omega, h⟩]
  · rw [if_neg e]
    by_cases h2 : i < k ∧ so (lfAt ls i) = true
    · rw [if_pos h2, if_pos ⟨by omega, h2.2⟩]
    · rw [if_neg h2, if_neg (fun h3 => h2 ⟨by omega, h3.2⟩)]
theorem rep_rowsI (n : Nat) : rep n (.int .i64 0) = (rowsI n fun _ => 0).toArray := by
  unfold rep rowsI nv
  congr 1
  apply List.ext_getElem
  · simp
  · intro i h1 h2
    simp
theorem viewTo_succ' {so : Lf → Bool} {ls : List Lf} {k : Nat} (h : k < ls.length) : viewTo so ls (k + 1) = viewTo so ls k ++ if so (lfAt ls k) then [renK so ls (lfAt ls k)] else [] := by
  rw [lfAt_eq ls k h]
  exact viewTo_succ h
/-- the code of View -/
def viewF (ls : List Lf) (who : Lab) : Int := if pageF ls ≠ 0 then pageF ls else labF who
/-- a new slice of leaves, and no error -/
def RetL (w : World) (ls : List Lf) (e : Ending) (w' : World) : Prop := ∃ A c, e = .returned (.tuple #[.slice A ls.length c, .int .i64 0]) ∧ SlL w' A ls.length ls ∧ Kept w w'
theorem viewX_no (A : Option Addr) (n c : Nat) (ls : List Lf) (lv : Int) (pt : BitVec 32) (w : World) (hs : SlL w A n ls) (hn : n ≤ maxLen) (hc : viewF ls (lv, pt) ≠ 0) :
    Calls Try.prog 13 #[.slice A n c, .agg #[.int .i64 lv, .int .u32 (W pt)]] w fun e w' => e = .returned (.tuple #[.slice none 0 0, .int .i64 (viewF ls (lv, pt))]) ∧ Kept w w' := by
  have hka : Kept w (w.alloc (.cells #[.int .i64 lv, .int .u32 (W pt)] 25)) := (Kept.refl _).alloc _
  have bx := Box.new w #[.int .i64 lv, .int .u32 (W pt)] 25 w.heap.size rfl
  by_cases hp : pageF ls = 0
  · have HF := Lib.hid (show viewF ls (lv, pt) = labF (lv, pt) by unfold viewF; rw [if_neg (by simp [hp])])
    have hne : (labF (lv, pt) != 0) = true := by rw [bne_iff_ne, ← HF.out]; exact hc
    have HP := Lib.hid hp
    clear hc hp
    go_enter Try.func13, Try.ntmps13
    go_wp2_with fail
    refine (pageCheck_any _ _ _ ls _ (hs.kept hka) hn).mono ?_
    rintro e w1 ⟨rfl, k1⟩
    rw [HP.out]
    have bx1 := bx.kept k1
    have e0 := bx1.at_ 0 rfl
    have e1 := bx1.at_ 1 rfl
    clear bx
    go_wp2_with fail
    refine (labCheck_any lv pt _).mono ?_
    rintro e w2 ⟨rfl, k2⟩
    go_wp2_with fail
    go_ret2
    exact ⟨by rw [HF.out]; rfl, (hka.trans k1).trans k2⟩
  · have HF := Lib.hid (show viewF ls (lv, pt) = pageF ls by unfold viewF; rw [if_pos hp])
    have hne : (pageF ls != 0) = true := by simpa using hp
    clear hc hp
    go_enter Try.func13, Try.ntmps13
    go_wp2_with fail
    refine (pageCheck_any _ _ _ ls _ (hs.kept hka) hn).mono ?_
    rintro e w1 ⟨rfl, k1⟩
    go_wp2_with fail
    go_ret2
    exact ⟨by rw [HF.out]; rfl, hka.trans k1⟩
set_option maxHeartbeats 4000000 in
theorem viewX_ok (A : Option Addr) (n c : Nat) (ls : List Lf) (lv : Int) (pt : BitVec 32) (w : World) (hs : SlL w A n ls) (hp : pageF ls = 0) (hl : labOk (lv, pt) = true) :
    Calls Try.prog 13 #[.slice A n c, .agg #[.int .i64 lv, .int .u32 (W pt)]] w (RetL w (viewL ls (lv, pt))) := by
  have hok := pageF_zero.1 hp
  have hn40 : n ≤ 40 := by rw [← hs.2]; exact hok.1
  have hka : Kept w (w.alloc (.cells #[.int .i64 lv, .int .u32 (W pt)] 25)) := (Kept.refl _).alloc _
  have bx := Box.new w #[.int .i64 lv, .int .u32 (W pt)] 25 w.heap.size rfl
  have HP := Lib.hid hp
  have HL := Lib.hid hl
  have HLN := Lib.hid hs.2
  have HPG := Lib.hid (show ∀ i, i < n → (-1 ≤ (lfAt ls i).1 ∧ (lfAt ls i).1 < i) ∧ (0 ≤ (lfAt ls i).1 → seen (lv, pt) (lfAt ls i) = true → seen (lv, pt) (lfAt ls (lfAt ls i).1.toNat) = true) from fun i hi => by
    have h1 := hok.2 i (by rw [hs.2]; exact hi)
    exact ⟨h1.2.1, fun h0 h2 => leB_trans (h1.2.2 h0) h2⟩)
  have HSN := Lib.hid (fun k (h : k < n) => viewTo_succ' (so := seen (lv, pt)) (ls := ls) (k := k) (by rw [hs.2]; exact h))
  have hmk := run_make1 (P := Try.prog) 34 3 Try.underlying34 info_i64 rfl (by decide) n (by omega)
  clear hp hl hok
  go_enter Try.func13, Try.ntmps13
  go_wp2_with fail
  refine (pageCheck_any _ _ _ ls _ (hs.kept hka) (by unfold maxLen; omega)).mono ?_
  rintro e w1 ⟨rfl, k1⟩
  rw [HP.out]
  have bx1 := bx.kept k1
  have e0 := bx1.at_ 0 rfl
  have e1 := bx1.at_ 1 rfl
  clear bx
  go_wp2_with fail
  refine (labCheck_any lv pt _).mono ?_
  rintro e w2 ⟨rfl, k2⟩
  rw [labF_zero HL.out]
  have bx2 := bx1.kept k2
  have q2 := (hka.trans k1).trans k2
  clear e0 e1 bx1 k1 k2 hka
  generalize w.heap.size = BW at bx2 ⊢
  go_wp2_with fail
  obtain ⟨B, hB⟩ : ∃ B, w2.heap.size = B := ⟨_, rfl⟩
  have hrow : Row w2 (w2.alloc (.cells (rep n (.int .i64 0)) 3)) B 3 (rowsI n (numTo (seen (lv, pt)) ls 0)) := by
    rw [rep_rowsI, numTo_zero]
    exact Row.new (Kept.refl w2) _ _ _ hB
  have hown : OwnB (B + 1) (w2.alloc (.cells (rep n (.int .i64 0)) 3)) 38 4 (.slice none 0 0) 0 [] := OwnB.start (by rw [← hB]; simp)
  have HB := Lib.hid hB
  rw [hB]
  clear hB hmk
  generalize w2.alloc (.cells (rep n (.int .i64 0)) 3) = w3 at hrow hown
  go_loopw [9, 27] (fun v t wr => ∃ k : Nat, k ≤ n ∧ t = .int .i64 k ∧ OwnB (B + 1) wr 38 4 v (viewTo (seen (lv, pt)) ls k).length (lfCells (viewTo (seen (lv, pt)) ls k)) ∧ Row w2 wr B 3 (rowsI n (numTo (seen (lv, pt)) ls k))) (fun _ t _ => n - (intOf t).toNat)
  case atStart => exact ⟨0, Nat.zero_le _, rfl, hown, hrow⟩
  case round =>
    obtain ⟨k, hk, rfl, hown, hrow⟩ := hrel
    by_cases hlt : k < n
    · obtain ⟨b, off, rfl, hb, c0, c1, c2, c3⟩ := ((hs.kept q2).kept hrow.kept0).getN k hlt
      have HS := Lib.hid (HSN.out k hlt)
      have HPK := Lib.hid (HPG.out k hlt)
      have HNN := Lib.hid (numTo_no (so := seen (lv, pt)) (ls := ls) (k := k))
      have HNY := Lib.hid (numTo_yes (so := seen (lv, pt)) (ls := ls) (k := k))
      have HSE := Lib.hid (show seen (lv, pt) (lfAt ls k) = leB (lfAt ls k).2.2 (lv, pt) from rfl)
      have HRE := Lib.hid (show renK (seen (lv, pt)) ls (lfAt ls k) = (if (lfAt ls k).1 < 0 then (lfAt ls k).1 else ((cntK (seen (lv, pt)) ls (lfAt ls k).1.toNat : Nat) : Int), (lfAt ls k).2) from rfl)
      have HCN := Lib.hid (viewTo_len (seen (lv, pt)) ls k)
      have hcle : (viewTo (seen (lv, pt)) ls k).length ≤ k := by
        unfold viewTo
        rw [List.length_map]
        exact len_filter_le _ _ _
      generalize lfAt ls k = x at c0 c1 c2 c3 HS HPK HNN HNY HSE HRE
      obtain ⟨up, tx, lx, px⟩ := x
      simp only at c0 c1 c2 c3 HS HPK HNN HNY HSE HRE
      obtain ⟨X, hX⟩ : ∃ X, wr.heap.size = X := ⟨_, rfl⟩
      have hBX : B < X := by rw [← hX]; exact hrow.lt
      have bx := Box.new wr #[.int .i64 up, .int .i64 tx, .int .i64 lx, .int .u32 (W px)] 38 X hX
      have rx0 : Row w2 (wr.alloc (.cells #[.int .i64 up, .int .i64 tx, .int .i64 lx, .int .u32 (W px)] 38)) X 38 [.int .i64 up, .int .i64 tx, .int .i64 lx, .int .u32 (W px)] := Row.new hrow.kept0 _ _ X hX
      have hka : Kept wr (wr.alloc (.cells #[.int .i64 up, .int .i64 tx, .int .i64 lx, .int .u32 (W px)] 38)) := (Kept.refl _).alloc _
      obtain ⟨A9, c9, rfl, _, _⟩ := hown.form
      have hvX : ∀ g, Value.ownBlock (.slice A9 (viewTo (seen (lv, pt)) ls k).length c9) = some g → g ≠ X := fun g hg => by
        have := (World.ownsRow.lt hown.1 g hg).2
        omega
      have HVX := Lib.hid hvX
      have HX := Lib.hid hX
      have bw := (bx2.kept hrow.kept0).kept hka
      have f0 := bw.at_ 0 rfl
      have f1 := bw.at_ 1 rfl
      have g2 := bx.at_ 2 rfl
      have g3 := bx.at_ 3 rfl
      go_wp2_with fail
      clear f0 f1 g2 g3 hvX
      refine (least_any lx lv px pt _).mono ?_
      rintro e w4 ⟨rfl, k4⟩
      have bx4 := bx.kept k4
      have rx4 := rx0.kept k4
      have q4 := hka.trans k4
      have hrow4 := hrow.kept q4
      have hown4 := hown.kept q4
      have hX2 : w2.heap.size ≤ X := by rw [← HX.out]; exact hrow.kept0.size
      clear bx bw hrow hown
      have e0 := bx4.at_ 0 rfl
      have e1 := bx4.at_ 1 rfl
      have e2 := bx4.at_ 2 rfl
      have e3 := bx4.at_ 3 rfl
      have p0 := bx4.2.2 0
      have hi1 : (0 : Int) ≤ (k : Int) := by omega
      have hi2 : (k : Int) < (n : Int) := by omega
      cases hse : leB (lx, px) (lv, pt)
      · have HV := Lib.hid (HSE.out.trans hse)
        clear hse
        go_wp2_with fail
        go_roundw
        case rel => exact ⟨k + 1, by omega, by go_num, by rw [HS.out, HV.out]; simpa using hown4, by rw [HNN.out HV.out]; exact hrow4⟩
        case measure => simp [intOf]; omega
      · have HV := Lib.hid (HSE.out.trans hse)
        clear hse
        have cB := hrow4.cell k (rowsI_at _ hlt)
        have fB := hrow4.free k
        -- behind 'number[i] = len(out)'
        have hr5 : Row w2 (w4.setCell ⟨B, k, none⟩ (.int .i64 ((viewTo (seen (lv, pt)) ls k).length : Nat))) B 3 (rowsI n (numTo (seen (lv, pt)) ls (k + 1))) := by
          have h := hrow4.set k (.int .i64 ((viewTo (seen (lv, pt)) ls k).length : Nat))
          rw [rowsI_set, HCN.out, HNY.out HV.out] at h
          rw [HCN.out]
          exact h
        have bx5 := bx4.setOther (B := B) (k := k) (by omega) (.int .i64 ((viewTo (seen (lv, pt)) ls k).length : Nat))
        have ho5 := hown4.setCell (B := B) (by omega) k (.int .i64 ((viewTo (seen (lv, pt)) ls k).length : Nat))
        have s0 := bx5.at_ 0 rfl
        have s1 := bx5.at_ 1 rfl
        have s2 := bx5.at_ 2 rfl
        have s3 := bx5.at_ 3 rfl
        have t0 := bx5.2.2 0
        by_cases h0 : 0 ≤ up
        · obtain ⟨u, rfl⟩ := Int.eq_ofNat_of_zero_le h0
          have hpk := HPK.out
          have huk : u < k := by have := hpk.1.2; omega
          have hun : u < n := by omega
          have hus := hpk.2 h0 HV.out
          rw [Int.toNat_natCast] at hus
          have HNU := Lib.hid (show numTo (seen (lv, pt)) ls (k + 1) u = cntK (seen (lv, pt)) ls u by unfold numTo; rw [if_pos ⟨by omega, hus⟩])
          have HR := Lib.hid (HRE.out.trans (show _ = (((cntK (seen (lv, pt)) ls u : Nat) : Int), tx, lx, px) by rw [if_neg (by omega), Int.toNat_natCast]))
          have cU := hr5.cell u (rowsI_at _ hun)
          rw [HNU.out] at cU
          have rx5 := rx4.setOther (X := B) (k := k) (by omega) hrow4.2.1 (.int .i64 ((viewTo (seen (lv, pt)) ls k).length : Nat))
          generalize cntK (seen (lv, pt)) ls u = nu at cU HR
          have rx6 := rx5.set 0 (.int .i64 ((nu : Nat) : Int))
          have hr6 := hr5.setOther (X := X) (k := 0) (by omega) hX2 (.int .i64 ((nu : Nat) : Int))
          have ho6 := ho5.setNe (X := X) HVX.out 0 (.int .i64 ((nu : Nat) : Int))
          have y0 := rx6.cell 0 (u := .int .i64 ((nu : Nat) : Int)) rfl
          have y1 := rx6.cell 1 (u := .int .i64 tx) rfl
          have y2 := rx6.cell 2 (u := .int .i64 lx) rfl
          have y3 := rx6.cell 3 (u := .int .u32 (W px)) rfl
          have hi3 : (0 : Int) ≤ (u : Int) := by omega
          have hi4 : (u : Int) < (n : Int) := by omega
          clear hpk hus
          go_wp2_with (at_builtin; refine wpList_pushB rfl _ _ 22 rfl 38 Try.underlying22 info_leaf rfl (by decide) (by decide) _ _ _ _ ho6 #[.int .i64 ((nu : Nat) : Int), .int .i64 tx, .int .i64 lx, .int .u32 (W px)] _ _ 1 1 rfl rfl (by simp [World.setCell]) rfl (one_leaf _ _ _ _) (by omega) ?_; intro v' w7 hown7 hgr7)
          have hr7 := (hr6.kept ((Kept.refl _).alloc _)).grownB hgr7 (ho6.above (by omega))
          go_roundw
          case rel => exact ⟨k + 1, by omega, by go_num, by rw [HS.out, HV.out, HR.out, if_pos rfl, lfCells_snoc, List.length_append]; exact hown7, hr7⟩
          case measure => simp [intOf]; omega
        · have d0 : decide (0 ≤ up) = false := by simpa using h0
          have HR := Lib.hid (HRE.out.trans (show _ = ((up, tx, lx, px) : Lf) by rw [if_pos (by omega)]))
          clear h0
          go_wp2_with (at_builtin; refine wpList_pushB rfl _ _ 22 rfl 38 Try.underlying22 info_leaf rfl (by decide) (by decide) _ _ _ _ ho5 #[.int .i64 up, .int .i64 tx, .int .i64 lx, .int .u32 (W px)] _ _ 1 1 rfl rfl (by simp [World.setCell]) rfl (one_leaf _ _ _ _) (by omega) ?_; intro v' w7 hown7 hgr7)
          have hr7 := (hr5.kept ((Kept.refl _).alloc _)).grownB hgr7 (ho5.above (by omega))
          go_roundw
          case rel => exact ⟨k + 1, by omega, by go_num, by rw [HS.out, HV.out, HR.out, if_pos rfl, lfCells_snoc, List.length_append]; exact hown7, hr7⟩
          case measure => simp [intOf]; omega
    · have HK := Lib.hid (show viewTo (seen (lv, pt)) ls k = viewL ls (lv, pt) by rw [show k = ls.length by rw [HLN.out]; omega, viewTo_all]; rfl)
      rw [HK.out] at hown
      obtain ⟨A2, c2, rfl, hsl, _⟩ := hown.form
      have FIN := Lib.hid (show RetL w (viewL ls (lv, pt)) (.returned (.tuple #[.slice A2 (viewL ls (lv, pt)).length c2, .int .i64 0])) wr from ⟨A2, c2, rfl, ⟨hsl, rfl⟩, q2.trans hrow.kept0⟩)
      go_wp2_with fail
      go_ret2
      exact FIN.out
end Go.Proofs.Ytjcooagchjjknaa
