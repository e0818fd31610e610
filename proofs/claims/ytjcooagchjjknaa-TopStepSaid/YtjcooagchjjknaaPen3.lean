/- pen.put whole; the walk of pen.drop. -/
import Derived.Test.YtjcooagchjjknaaPen2
namespace Go.Proofs.Ytjcooagchjjknaa
open Go Go.RowKit Go.Lib
set_option linter.unusedVariables false

theorem putAll_any (A : Option Addr) (n c : Nat) (ls : List Lf) (kind lv : Int) (pt : BitVec 32) (A2 : Option Addr) (m c2 : Nat) (ps : List Int) (tx : Int) (w : World) (hs : SlL w A n ls) (hp : SlI w A2 m ps) (hn : n ≤ 1000) (hm : m ≤ maxLen) (hmc : m ≤ c2) (hu : UpOk ls) :
    Calls Try.prog 43 #[.slice A n c, .agg (skC kind lv pt A2 m c2 tx)] w (RetPenO w (putF ls (lv, pt) ps tx)) := by
  by_cases hm0 : m = 0
  · subst hm0
    obtain rfl : ps = [] := List.eq_nil_of_length_eq_zero hp.2
    exact putX_nil A n c ls kind lv pt A2 c2 tx w
  · cases hg : goF ls (lv, pt) (-1) ps.dropLast with
    | none => exact putX_none A n c ls kind lv pt A2 m c2 ps tx w hs hp hn hm hmc (by omega) hg
    | some bb =>
      by_cases hbad : ps.getD (ps.length - 1) 0 < 0 ∨ ((belowL ls (lv, pt) bb).length : Int) < ps.getD (ps.length - 1) 0
      · exact putX_bad A n c ls kind lv pt A2 m c2 ps tx w hs hp hn hm hmc (by omega) hg _ rfl hbad
      · obtain ⟨kn, hkn⟩ := Int.eq_ofNat_of_zero_le (show 0 ≤ ps.getD (ps.length - 1) 0 by omega)
        obtain ⟨h1, h2⟩ := up_bounds (go_seen _ hg)
        exact putX_in A n c ls kind lv pt A2 m c2 ps tx w hs hp hn hm hmc (by omega) hg kn hkn (by omega) hu h1 h2
/-! ### drop -/
def rowsG (n : Nat) (p : Nat → Bool) : List Value := (List.range n).map fun i => .bool (p i)
def setG (p : Nat → Bool) (i : Nat) (x : Bool) : Nat → Bool := fun w => if w = i then x else p w
theorem rowsG_at {n k : Nat} (p : Nat → Bool) (h : k < n) : (rowsG n p)[k]? = some (.bool (p k)) := by
  unfold rowsG
  simp [h]
theorem rowsG_set (n : Nat) (p : Nat → Bool) (k : Nat) (x : Bool) : (rowsG n p).set k (.bool x) = rowsG n (setG p k x) := by
  unfold rowsG setG
  apply List.ext_getElem
  · simp
  · intro i h1 h2
    rw [List.getElem_set]
    simp only [List.getElem_map, List.getElem_range]
    by_cases e : k = i
    · subst e
      simp
    · rw [if_neg e, if_neg (fun h => e h.symm)]
theorem rep_rowsG (n : Nat) : rep n (.bool false) = (rowsG n fun _ => false).toArray := by
  unfold rep rowsG
  congr 1
  apply List.ext_getElem
  · simp
  · intro i h1 h2
    simp
def gonF (ls : List Lf) (kk k i : Nat) : Bool := if i < k then goneI ls kk i else false
theorem gonF_zero (ls : List Lf) (kk : Nat) : gonF ls kk 0 = fun _ => false := by
  funext i
  unfold gonF
  rw [if_neg (by omega)]
theorem gonF_step (ls : List Lf) (kk k : Nat) : setG (gonF ls kk k) k (goneI ls kk k) = gonF ls kk (k + 1) := by
  funext i
  unfold setG gonF
  by_cases e : i = k
  · subst e
    rw [if_pos rfl, if_pos (by omega)]
  · rw [if_neg e]
    by_cases h : i < k
    · rw [if_pos h, if_pos (by omega)]
    · rw [if_neg h, if_neg (by omega)]
def numG (g : Nat → Bool) (k i : Nat) : Nat := if i < k ∧ g i = true then cntI g i else 0
theorem numG_zero (g : Nat → Bool) : numG g 0 = fun _ => 0 := by
  funext i
  unfold numG
  rw [if_neg (by omega)]
theorem numG_no {g : Nat → Bool} {k : Nat} (h : g k = false) : numG g (k + 1) = numG g k := by
  funext i
  unfold numG
  by_cases e : i = k
  · subst e
    rw [if_neg (by rw [h]; simp), if_neg (by omega)]
  · by_cases h2 : i < k ∧ g i = true
    · rw [if_pos h2, if_pos ⟨by omega, h2.2⟩]
    · rw [if_neg h2, if_neg (fun h3 => h2 ⟨by omega, h3.2⟩)]
theorem numG_yes {g : Nat → Bool} {k : Nat} (h : g k = true) : setN (numG g k) k (cntI g k) = numG g (k + 1) := by
  funext i
  unfold setN numG
  by_cases e : i = k
  · subst e
    rw [if_pos rfl, if_pos ⟨by omega, h⟩]
  · rw [if_neg e]
    by_cases h2 : i < k ∧ g i = true
    · rw [if_pos h2, if_pos ⟨by omega, h2.2⟩]
    · rw [if_neg h2, if_neg (fun h3 => h2 ⟨by omega, h3.2⟩)]
theorem selTo_step (g : Nat → Bool) (ls : List Lf) (k : Nat) : selTo g ls (k + 1) = selTo g ls k ++ if g k then [renI g (lfAt ls k)] else [] := rfl
/-- a new slice of leaves alone -/
def RetL1 (w : World) (ls : List Lf) (e : Ending) (w' : World) : Prop := ∃ A c, e = .returned (.slice A ls.length c) ∧ Own w w' 38 4 (.slice A ls.length c) ls.length (lfCells ls)
theorem OwnB.own {w w' : World} {base : Nat} {E : TypeId} {s n : Nat} {v : Value} {xs : List Value} (h : OwnB base w' E s v n xs) (hb : w.heap.size ≤ base) (k : Kept w w') : Own w w' E s v n xs := by
  refine ⟨⟨h.1.1, ?_⟩, k⟩
  rcases h.1.2 with hn | ⟨g, cap, cur, hv, hg, rest⟩
  · exact .inl hn
  · exact .inr ⟨g, cap, cur, hv, Nat.le_trans hb hg, rest⟩
set_option maxHeartbeats 8000000 in
theorem drop_any (A : Option Addr) (n c : Nat) (ls : List Lf) (kk : Nat) (w : World) (hs : SlL w A n ls) (hn : n ≤ 1000) (hu : UpOk ls) (hkk : kk < n) :
    Calls Try.prog 44 #[.slice A n c, .int .i64 kk] w (RetL1 w (dropL ls kk)) := by
  obtain ⟨g, hg⟩ : ∃ g, keepI ls kk = g := ⟨_, rfl⟩
  have HGK := Lib.hid (fun i => show g i = !goneI ls kk i by rw [← hg]; rfl)
  have HD := Lib.hid (show dropL ls kk = selTo g ls ls.length by rw [← hg]; rfl)
  have HLN := Lib.hid hs.2
  have HST := Lib.hid (fun k (h : k < n) => gone_step (k := kk) hu (i := k) (by rw [hs.2]; exact h))
  have HUP := Lib.hid (fun i (h : i < n) => hu i (by rw [hs.2]; exact h))
  have hmk := run_make1 (P := Try.prog) 34 3 Try.underlying34 info_i64 rfl (by decide) n (by omega)
  have hmk2 := run_make1 (P := Try.prog) 93 4 Try.underlying93 info_bool rfl (by decide) n (by omega)
  obtain ⟨BN, hBN⟩ : ∃ B, w.heap.size = B := ⟨_, rfl⟩
  have hrowN : Row w ((w.alloc (.cells (rep n (.int .i64 0)) 3)).alloc (.cells (rep n (.bool false)) 4)) BN 3 (rowsI n (numG g 0)) := by
    rw [rep_rowsI, numG_zero]
    exact (Row.new (Kept.refl w) _ _ _ hBN).kept ((Kept.refl _).alloc _)
  have hrowG : Row w ((w.alloc (.cells (rep n (.int .i64 0)) 3)).alloc (.cells (rep n (.bool false)) 4)) (BN + 1) 4 (rowsG n (gonF ls kk 0)) := by
    rw [rep_rowsG, gonF_zero]
    exact Row.new ((Kept.refl w).alloc _) _ _ _ (by simp [hBN])
  have hown : OwnB (BN + 1 + 1) ((w.alloc (.cells (rep n (.int .i64 0)) 3)).alloc (.cells (rep n (.bool false)) 4)) 38 4 (.slice none 0 0) 0 [] := OwnB.start (by rw [← hBN]; simp)
  clear hg hu
  go_enter Try.func44, Try.ntmps44
  go_wp2_with fail
  have HB := Lib.hid hBN
  clear hBN hmk hmk2
  generalize (w.alloc (.cells (rep n (.int .i64 0)) 3)).alloc (.cells (rep n (.bool false)) 4) = w3 at hrowN hrowG hown
  go_loopw [7, 18] (fun v t wr => ∃ k : Nat, k ≤ n ∧ t = .int .i64 k ∧ OwnB (BN + 1 + 1) wr 38 4 v (selTo g ls k).length (lfCells (selTo g ls k)) ∧ Row w wr BN 3 (rowsI n (numG g k)) ∧ Row w wr (BN + 1) 4 (rowsG n (gonF ls kk k))) (fun _ t _ => n - (intOf t).toNat)
  case atStart => exact ⟨0, Nat.zero_le _, rfl, hown, hrowN, hrowG⟩
  case round =>
    clear hrowN hrowG hown
    obtain ⟨k, hk, rfl, hown, hrN, hrG⟩ := hrel
    by_cases hlt : k < n
    · obtain ⟨b, off, rfl, hb, c0, c1, c2, c3⟩ := (hs.kept hrN.kept0).getN k hlt
      have HS := Lib.hid (selTo_step g ls k)
      have HGO := Lib.hid (HST.out k hlt)
      have hup := HUP.out k hlt
      have HGN := Lib.hid (numG_no (g := g) (k := k))
      have HGY := Lib.hid (numG_yes (g := g) (k := k))
      have HGS := Lib.hid (gonF_step ls kk k)
      have HCN := Lib.hid (selTo_len g ls k)
      have hcle := cntI_le g k
      have hcl2 : (selTo g ls k).length ≤ k := by rw [HCN.out]; exact hcle
      have HRE := Lib.hid (show renI g (lfAt ls k) = (if (lfAt ls k).1 < 0 then (lfAt ls k).1 else ((cntI g (lfAt ls k).1.toNat : Nat) : Int), (lfAt ls k).2) from rfl)
      generalize lfAt ls k = x at c0 c1 c2 c3 HS HGO hup HRE
      obtain ⟨up, tx, lx, px⟩ := x
      simp only at c0 c1 c2 c3 HS HGO hup HRE
      obtain ⟨X, hX⟩ : ∃ X, wr.heap.size = X := ⟨_, rfl⟩
      have hBX : BN + 1 < X := by rw [← hX]; exact hrG.lt
      obtain ⟨A9, c9, rfl, _, _⟩ := hown.form
      have hX2 : w.heap.size ≤ X := by rw [← hX]; exact hrN.kept0.size
      have hwB : w.heap.size = BN := HB.out
      have hi1 : (0 : Int) ≤ (k : Int) := by omega
      have hi2 : (k : Int) < (n : Int) := by omega
      have cG := hrG.cell k (rowsG_at _ hlt)
      have fG := hrG.free k
      have GST := Lib.hid (fun (y : Bool) (hy : goneI ls kk k = y) => (show Row w (wr.setCell ⟨BN + 1, k, none⟩ (.bool y)) (BN + 1) 4 (rowsG n (gonF ls kk (k + 1))) by
        have h := hrG.set k (.bool y)
        rw [rowsG_set, ← hy, HGS.out] at h
        rw [← hy]
        exact h))
      have HGF := Lib.hid (show gonF ls kk (k + 1) k = goneI ls kk k by unfold gonF; rw [if_pos (by omega)])
      have HN2 := Lib.hid (fun y : Bool => hrN.setOther (X := BN + 1) (k := k) (by omega) (by omega) (.bool y))
      have HO2 := Lib.hid (fun y : Bool => hown.setCell (B := BN + 1) (by omega) k (.bool y))
      have HGU := Lib.hid (fun u (h : u < k) => (show wr.cell? ⟨BN + 1, u, none⟩ = some (.bool (goneI ls kk u)) by
        have h2 := hrG.cell u (rowsG_at _ (show u < n by omega))
        rw [show gonF ls kk k u = goneI ls kk u by unfold gonF; rw [if_pos h]] at h2
        exact h2))
      clear hrN hrG hown
      have KEEP := Lib.hid (fun (hyg : g k = true) => (show Row w (((wr.setCell ⟨BN + 1, k, none⟩ (.bool false)).alloc (.cells #[.int .i64 up, .int .i64 tx, .int .i64 lx, .int .u32 (W px)] 38)).setCell ⟨BN, k, none⟩ (.int .i64 ((selTo g ls k).length : Nat))) BN 3 (rowsI n (numG g (k + 1))) by
        have h := ((HN2.out false).kept ((Kept.refl _).alloc (.cells #[.int .i64 up, .int .i64 tx, .int .i64 lx, .int .u32 (W px)] 38))).set k (.int .i64 ((selTo g ls k).length : Nat))
        rw [rowsI_set, HCN.out, HGY.out hyg] at h
        rw [HCN.out]
        exact h))
      have HRX := Lib.hid (show Row w ((wr.setCell ⟨BN + 1, k, none⟩ (.bool false)).alloc (.cells #[.int .i64 up, .int .i64 tx, .int .i64 lx, .int .u32 (W px)] 38)) X 38 [.int .i64 up, .int .i64 tx, .int .i64 lx, .int .u32 (W px)] from
        Row.new (HN2.out false).kept0 _ _ X (by simp [World.setCell, hX]))
      have HVX := Lib.hid (show ∀ g9, Value.ownBlock (.slice A9 (selTo g ls k).length c9) = some g9 → g9 ≠ X from fun g9 hg => by
        have := (World.ownsRow.lt (HO2.out false).1 g9 hg).2
        have h9 : (wr.setCell ⟨BN + 1, k, none⟩ (.bool false)).heap.size = X := by simp [World.setCell, hX]
        omega)
      by_cases hkq : k = kk
      · have t1 : ((k : Int) == (kk : Int)) = true := by simp; omega
        have t1' : (k == kk) = true := by simpa using hkq
        have HY := Lib.hid (show goneI ls kk k = true by rw [HGO.out]; simp [hkq])
        have HGK0 := Lib.hid (show g k = false by rw [HGK.out, HY.out]; rfl)
        have r5 := GST.out true HY.out
        have s5 := r5.cell k (rowsG_at _ hlt)
        rw [HGF.out, HY.out] at s5
        have HR5 := Lib.hid r5
        clear hkq r5
        go_wp2_with fail
        go_roundw
        case rel => exact ⟨k + 1, by omega, by go_num, by rw [HS.out, HGK0.out]; simpa using (HO2.out true).kept ((Kept.refl _).alloc _), by rw [HGN.out HGK0.out]; exact (HN2.out true).kept ((Kept.refl _).alloc _), HR5.out.kept ((Kept.refl _).alloc _)⟩
        case measure => simp [intOf]; omega
      · have t1 : ((k : Int) == (kk : Int)) = false := by simp; omega
        have t1' : (k == kk) = false := by simpa using hkq
        have HKQ := Lib.hid hkq
        clear hkq
        by_cases h0 : 0 ≤ up
        · obtain ⟨u, rfl⟩ := Int.eq_ofNat_of_zero_le h0
          have huk : u < k := by omega
          have hi3 : (0 : Int) ≤ (u : Int) := by omega
          have hi4 : (u : Int) < (n : Int) := by omega
          have cU := HGU.out u huk
          obtain ⟨y, hy⟩ : ∃ y, goneI ls kk u = y := ⟨_, rfl⟩
          rw [hy] at cU
          have HY0 := Lib.hid (show goneI ls kk k = y by rw [HGO.out, ← hy]; simp [HKQ.out])
          have HYU := Lib.hid hy
          clear hy h0
          cases y
          · have HY := HY0
            have HGU1 := Lib.hid (show g u = true by rw [HGK.out, HYU.out]; rfl)
            have HGK1 := Lib.hid (show g k = true by rw [HGK.out, HY.out]; rfl)
            have r5 := GST.out false HY.out
            have s5 := r5.cell k (rowsG_at _ hlt)
            rw [HGF.out, HY.out] at s5
            have n5 := (HN2.out false).kept ((Kept.refl _).alloc (.cells #[.int .i64 (u : Int), .int .i64 tx, .int .i64 lx, .int .u32 (W px)] 38))
            have cN := n5.cell k (rowsI_at _ hlt)
            have fN := n5.free k
            have n6 := KEEP.out HGK1.out
            have HG6 := Lib.hid ((r5.kept ((Kept.refl _).alloc (.cells #[.int .i64 (u : Int), .int .i64 tx, .int .i64 lx, .int .u32 (W px)] 38))).setOther (X := BN) (k := k) (by omega) (by omega) (.int .i64 ((selTo g ls k).length : Nat)))
            have HO6 := Lib.hid (((HO2.out false).kept ((Kept.refl _).alloc (.cells #[.int .i64 (u : Int), .int .i64 tx, .int .i64 lx, .int .u32 (W px)] 38))).setCell (B := BN) (by omega) k (.int .i64 ((selTo g ls k).length : Nat)))
            have rx6 := HRX.out.setOther (X := BN) (k := k) (by omega) (by omega) (.int .i64 ((selTo g ls k).length : Nat))
            have x0 := rx6.cell 0 (u := .int .i64 (u : Int)) rfl
            have x1 := rx6.cell 1 (u := .int .i64 tx) rfl
            have x2 := rx6.cell 2 (u := .int .i64 lx) rfl
            have x3 := rx6.cell 3 (u := .int .u32 (W px)) rfl
            have p0 := rx6.free 0
            have cM := n6.cell u (rowsI_at _ (show u < n by omega))
            rw [show numG g (k + 1) u = cntI g u by unfold numG; rw [if_pos ⟨by omega, HGU1.out⟩]] at cM
            have HR := Lib.hid (HRE.out.trans (show _ = ((((cntI g u : Nat) : Int), tx, lx, px) : Lf) by rw [if_neg (by omega), Int.toNat_natCast]))
            have HN6 := Lib.hid n6
            generalize cntI g u = nu at cM HR
            have rx7 := rx6.set 0 (.int .i64 ((nu : Nat) : Int))
            have HN7 := Lib.hid (HN6.out.setOther (X := X) (k := 0) (by omega) (by omega) (.int .i64 ((nu : Nat) : Int)))
            have HG7 := Lib.hid (HG6.out.setOther (X := X) (k := 0) (by omega) (by omega) (.int .i64 ((nu : Nat) : Int)))
            have HO7 := Lib.hid (HO6.out.setNe (X := X) HVX.out 0 (.int .i64 ((nu : Nat) : Int)))
            have y0 := rx7.cell 0 (u := .int .i64 ((nu : Nat) : Int)) rfl
            have y1 := rx7.cell 1 (u := .int .i64 tx) rfl
            have y2 := rx7.cell 2 (u := .int .i64 lx) rfl
            have y3 := rx7.cell 3 (u := .int .u32 (W px)) rfl
            clear r5 n6 n5 rx6 rx7
            go_wp2_with (at_builtin; refine wpList_pushB rfl _ _ 22 rfl 38 Try.underlying22 info_leaf rfl (by decide) (by decide) _ _ _ _ HO7.out #[.int .i64 ((nu : Nat) : Int), .int .i64 tx, .int .i64 lx, .int .u32 (W px)] _ _ 1 1 rfl rfl (by simp [World.setCell, hX]) rfl (one_leaf _ _ _ _) (by omega) ?_; intro v' w7 hown7 hgr7)
            have hN8 := (HN7.out.kept ((Kept.refl _).alloc _)).grownB hgr7 (OwnB.above HO7.out (by omega))
            have hG8 := (HG7.out.kept ((Kept.refl _).alloc _)).grownB hgr7 (OwnB.above HO7.out (by omega))
            go_roundw
            case rel => exact ⟨k + 1, by omega, by go_num, by rw [HS.out, HGK1.out, HR.out, if_pos rfl, lfCells_snoc, List.length_append]; exact hown7, hN8, hG8⟩
            case measure => simp [intOf]; omega
          · have HGK0 := Lib.hid (show g k = false by rw [HGK.out, HY0.out]; rfl)
            have r5 := GST.out true HY0.out
            have s5 := r5.cell k (rowsG_at _ hlt)
            rw [HGF.out, HY0.out] at s5
            have HR5 := Lib.hid r5
            clear r5
            go_wp2_with fail
            go_roundw
            case rel => exact ⟨k + 1, by omega, by go_num, by rw [HS.out, HGK0.out]; simpa using (HO2.out true).kept ((Kept.refl _).alloc _), by rw [HGN.out HGK0.out]; exact (HN2.out true).kept ((Kept.refl _).alloc _), HR5.out.kept ((Kept.refl _).alloc _)⟩
            case measure => simp [intOf]; omega
        · have d0 : decide (0 ≤ up) = false := by simpa using h0
          have HY := Lib.hid (show goneI ls kk k = false by rw [HGO.out]; simp [HKQ.out, h0])
          have HGK1 := Lib.hid (show g k = true by rw [HGK.out, HY.out]; rfl)
          have r5 := GST.out false HY.out
          have s5 := r5.cell k (rowsG_at _ hlt)
          rw [HGF.out, HY.out] at s5
          have n5 := (HN2.out false).kept ((Kept.refl _).alloc (.cells #[.int .i64 up, .int .i64 tx, .int .i64 lx, .int .u32 (W px)] 38))
          have cN := n5.cell k (rowsI_at _ hlt)
          have fN := n5.free k
          have n6 := KEEP.out HGK1.out
          have HG6 := Lib.hid ((r5.kept ((Kept.refl _).alloc (.cells #[.int .i64 up, .int .i64 tx, .int .i64 lx, .int .u32 (W px)] 38))).setOther (X := BN) (k := k) (by omega) (by omega) (.int .i64 ((selTo g ls k).length : Nat)))
          have HO6 := Lib.hid (((HO2.out false).kept ((Kept.refl _).alloc (.cells #[.int .i64 up, .int .i64 tx, .int .i64 lx, .int .u32 (W px)] 38))).setCell (B := BN) (by omega) k (.int .i64 ((selTo g ls k).length : Nat)))
          have rx6 := HRX.out.setOther (X := BN) (k := k) (by omega) (by omega) (.int .i64 ((selTo g ls k).length : Nat))
          have x0 := rx6.cell 0 (u := .int .i64 up) rfl
          have x1 := rx6.cell 1 (u := .int .i64 tx) rfl
          have x2 := rx6.cell 2 (u := .int .i64 lx) rfl
          have x3 := rx6.cell 3 (u := .int .u32 (W px)) rfl
          have HR := Lib.hid (HRE.out.trans (show _ = ((up, tx, lx, px) : Lf) by rw [if_pos (by omega)]))
          have HN6 := Lib.hid n6
          clear r5 n6 n5 rx6 h0
          go_wp2_with (at_builtin; refine wpList_pushB rfl _ _ 22 rfl 38 Try.underlying22 info_leaf rfl (by decide) (by decide) _ _ _ _ HO6.out #[.int .i64 up, .int .i64 tx, .int .i64 lx, .int .u32 (W px)] _ _ 1 1 rfl rfl (by simp [World.setCell, hX]) rfl (one_leaf _ _ _ _) (by omega) ?_; intro v' w7 hown7 hgr7)
          have hN7 := (HN6.out.kept ((Kept.refl _).alloc _)).grownB hgr7 (OwnB.above HO6.out (by omega))
          have hG7 := (HG6.out.kept ((Kept.refl _).alloc _)).grownB hgr7 (OwnB.above HO6.out (by omega))
          go_roundw
          case rel => exact ⟨k + 1, by omega, by go_num, by rw [HS.out, HGK1.out, HR.out, if_pos rfl, lfCells_snoc, List.length_append]; exact hown7, hN7, hG7⟩
          case measure => simp [intOf]; omega
    · have HK := Lib.hid (show selTo g ls k = dropL ls kk by rw [HD.out, show k = ls.length by rw [HLN.out]; omega])
      rw [HK.out] at hown
      obtain ⟨A2, c2, rfl, hsl, _⟩ := hown.form
      have FIN := Lib.hid (show RetL1 w (dropL ls kk) (.returned (.slice A2 (dropL ls kk).length c2)) wr from ⟨A2, c2, rfl, hown.own (by have := HB.out; omega) hrN.kept0⟩)
      go_wp2_with fail
      go_ret
      exact FIN.out
end Go.Proofs.Ytjcooagchjjknaa
