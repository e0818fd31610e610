/- The walk of sums.build. -/
import Derived.Test.YtodkpojmonikiaaTold
import Derived.Deep.RegionHeld3
import Derived.Deep.RegionLaw
namespace Go.Proofs.Ytodkpojmonikiaa
open Go Go.RowKit
set_option linter.unusedVariables false

theorem info_row : (Try.prog.info? 96).map (fun i => (i.zero, i.size, i.bytes)) = some (some (.agg #[.int .u32 0, .int .u32 0]), 2, 8) := by kernel_rfl
theorem ruCells_snoc (l : List Ru) (x y : BitVec 32) : ruCells (l ++ [(x, y)]) = ruCells l ++ [.int .u32 (W x), .int .u32 (W y)] := by
  unfold ruCells
  rw [List.flatMap_append]
  simp
theorem one_ru (x y : BitVec 32) : ∀ u ∈ (#[Value.int .u32 (W x), Value.int .u32 (W y)] : Array Value).toList, u.oneCell' = true := fun u hu => by
  simp at hu
  rcases hu with rfl | rfl <;> rfl
theorem ruCells_set : ∀ (l : List Ru) (j : Nat) (x y : BitVec 32), ((ruCells l).set (j * 2) (.int .u32 (W x))).set (j * 2 + 1) (.int .u32 (W y)) = ruCells (l.set j (x, y)) := by
  intro l
  induction l with
  | nil => intro j x y; simp [ruCells]
  | cons a l ih =>
    intro j x y
    cases j with
    | zero => simp [ruCells]
    | succ j =>
      have := ih j x y
      have e : (j + 1) * 2 = j * 2 + 1 + 1 := by omega
      rw [e]
      simpa [ruCells] using this
theorem fixR_same {r : Ru} {j : Nat} {l : List Ru} (h : j < l.length) (hc : cut1 l[j] r = l[j]) : fixR r (j + 1) l = fixR r j l := by
  unfold fixR
  rw [take_snoc l j h, List.map_append, List.append_assoc, List.drop_eq_getElem_cons h]
  simp [hc]
theorem fixR_set {r : Ru} {j : Nat} {l : List Ru} (h : j < l.length) : fixR r (j + 1) l = (fixR r j l).set j (cut1 l[j] r) := by
  apply List.ext_getElem
  · rw [List.length_set, fixR_length, fixR_length]
  · intro i h1 h2
    rw [fixR_length] at h1
    rw [List.getElem_set, fixR_at h1, fixR_at h1]
    by_cases e : j = i
    · subst e; simp
    · rw [if_neg e]
      by_cases h3 : i < j
      · rw [if_pos h3, if_pos (by omega)]
      · rw [if_neg h3, if_neg (by omega)]
theorem fixR_zero (r : Ru) (l : List Ru) : fixR r 0 l = l := by simp [fixR]
/-- the base behind k questions -/
def BInv (w wr : World) (B : Nat) (l : List Ru) (m : Nat) : Prop := ∃ vl vz zw, Row w wr B 94 [vl, vz] ∧ Own w wr 96 2 vl l.length (ruCells l) ∧ Own w wr 23 1 vz m ((zw : List (BitVec 32)).map wv)
/-- a base with its sums that are nothing -/
def SBaseZ (w : World) (B : Nat) (A : Option Addr) (n c : Nat) (l : List Ru) : Prop := SBase w B A n c l ∧ ∃ A3 m c3 zw, w.cell? ⟨B, 1, none⟩ = some (.slice A3 m c3) ∧ SlW w A3 m zw ∧ m ≤ 20
set_option maxRecDepth 100000 in
set_option maxHeartbeats 16000000 in
theorem buildZ_any (A : Option Addr) (len c : Nat) (qs : List (BitVec 32)) (n : Nat) (w : World) (hs : SlW w A len qs) (hn8 : n ≤ 8) (hok : ∀ q ∈ qs, fitB n q = true) (hlen : len ≤ 20) :
    Calls Try.prog 53 #[.slice A len c] w fun e w' => ∃ B A2 c2, e = .returned (.pointer (some ⟨B, 0, none⟩)) ∧ SBaseZ w' B A2 (rowsQ qs len).length c2 (rowsQ qs len) ∧ Kept w w' := by
  have HREF := Lib.hid (fun k hk => rowsQ_ref (n := n) (qs := qs) hn8 hok k hk)
  have HOKQ := Lib.hid hok
  have hr0 : Row w (w.alloc (.cells #[.slice none 0 0, .slice none 0 0] 94)) w.heap.size 94 [.slice none 0 0, .slice none 0 0] := Row.new (Kept.refl w) _ [.slice none 0 0, .slice none 0 0] _ rfl
  obtain ⟨B, hB⟩ : ∃ B : Nat, w.heap.size = B := ⟨_, rfl⟩
  clear hok
  go_enter Try.func53, Try.ntmps53
  go_wp2_with fail
  rw [hB] at hr0
  go_loopw [14] (fun t wr => ∃ k m : Nat, k ≤ len ∧ m ≤ k ∧ t = .int .i64 k ∧ BInv w wr B (rowsQ qs k) m) (fun t _ => len - (intOf t).toNat)
  case atStart => exact ⟨0, 0, Nat.zero_le _, Nat.le_refl _, rfl, _, _, [], hr0, Own.start hr0.kept0, Own.start hr0.kept0⟩
  case round =>
    obtain ⟨k, m, hk, hm, rfl, vl, vz, zw, hrow, hown, hz⟩ := hrel
    obtain ⟨zs, hzs⟩ : ∃ zs, zw.map wv = zs := ⟨_, rfl⟩
    rw [hzs] at hz
    have HZS := Lib.hid hzs
    clear hzs
    by_cases hlt : k < len
    · obtain ⟨b, off, hkq, rfl, hb, cq⟩ := (hs.kept hrow.kept0).get k hlt
      have HS := Lib.hid (show rowsQ qs (k + 1) = addQ (rowsQ qs k) k qs[k] by show addQ _ _ (nth qs k) = _; rw [nth_eq _ _ hkq])
      have href := HREF.out k (by rw [hs.2]; omega)
      have hql := HOKQ.out _ (List.getElem_mem hkq)
      have hlen2 := rowsQ_len qs k
      generalize rowsQ qs k = l at hown href HS hlen2
      generalize qs[k] = q at cq HS hql
      obtain ⟨A2, c2, rfl, hsl, hc2⟩ := hown.form
      obtain ⟨A3, c3, rfl, hsz, hc3⟩ := hz.form
      have hbase : SBase wr B A2 l.length c2 l := ⟨hrow.lt, hrow.cell 0 rfl, hsl, rfl⟩
      obtain ⟨hx1, hx2⟩ := less_all (r := (q, 1#32 <<< k)) href hn8 hql
      have HLESS := Lib.hid (fun w => less_any B A2 l.length c2 l (q, 1#32 <<< k) w)
      have hokl : ∀ o ∈ l, fitB 8 o.1 = true ∧ o.1 ≠ 0#32 := fun o ho => by
        obtain ⟨i, hi, rfl⟩ := List.getElem_of_mem ho
        exact ⟨fit_eight hn8 (href.1 i hi).2, (href.1 i hi).1⟩
      have HCALL := Lib.hid (fun w' h => HLESS.out w' h hokl (by omega))
      have hadd : addQ l k q = if (lessR l (q, 1#32 <<< k)).1 == 0#32 then l else fixR (lessR l (q, 1#32 <<< k)) l.length l ++ [lessR l (q, 1#32 <<< k)] := rfl
      generalize lessR l (q, 1#32 <<< k) = r at hx1 hx2 HCALL hadd
      obtain ⟨x, y⟩ := r
      have HADD := Lib.hid (HS.out.trans hadd)
      simp only at hx1 hx2
      have HX := Lib.hid hx1
      have HX2 := Lib.hid hx2
      have HR := Lib.hid href
      clear hadd HS hokl HLESS hx1 hx2 href hql
      have hi1 : (0 : Int) ≤ (k : Int) := by omega
      have hi2 : (k : Int) < (len : Int) := by omega
      go_wp2_with fail
      refine (HCALL.out _ hbase).mono ?_
      rintro e w1 ⟨rfl, k1⟩
      have hrow1 := hrow.kept k1
      have hown1 := hown.kept k1
      have hz1 := hz.kept k1
      have hka : Kept w1 (w1.alloc (.cells #[.int .u32 (W x), .int .u32 (W y)] 96)) := (Kept.refl _).alloc _
      have bx := Box.new w1 #[.int .u32 (W x), .int .u32 (W y)] 96 w1.heap.size rfl
      have hrow2 := hrow1.kept hka
      have hown2 := hown1.kept hka
      have hz2 := hz1.kept hka
      have hbox2 : Row w (w1.alloc (.cells #[.int .u32 (W x), .int .u32 (W y)] 96)) w1.heap.size 96 [.int .u32 (W x), .int .u32 (W y)] := Row.new hrow1.kept0 _ [.int .u32 (W x), .int .u32 (W y)] _ rfl
      have b0 := hrow2.cell 0 rfl
      cases hx0 : (x == 0#32)
      · have HX0 := Lib.hid hx0
        have e0 := bx.at_ 0 rfl
        have e1 := bx.at_ 1 rfl
        have hxne : x ≠ 0#32 := by simpa using hx0
        have hlen := fun w => len8_any x (fit_eight hn8 HX.out) hxne w
        have ht8 : topN x < 8 := (top_spec (fit_eight hn8 HX.out) hxne).2.1
        have hcut : ∀ (o : Ru) (b : Bool), o.1.getLsbD (topN x) = b → cut1 o (x, y) = if b then (o.1 ^^^ x, o.2 ^^^ y) else o := fun o b h => by
          unfold cut1
          show (if o.1.getLsbD (topN x) then _ else _) = _
          rw [h]
          rfl
        obtain ⟨t, ht⟩ : ∃ t : Nat, topN x = t := ⟨_, rfl⟩
        rw [ht] at hlen ht8 hcut
        have HCUT := Lib.hid hcut
        have HG := Lib.hid (show ∀ g, A2 = some ⟨g, 0, none⟩ → g < w1.heap.size from fun g hg => (World.ownsRow.lt hown1.1 g (by rw [hg]; rfl)).2)
        have HGA := Lib.hid (show ∀ a, A2 = some a → a.block < w1.heap.size from fun a ha => (World.ownsRow.lt hown1.1 a.block (by rw [ha]; rfl)).2)
        clear hxne ht hcut bx
        go_wp2_with fail
        refine (hlen _).mono ?_
        rintro e w2 ⟨rfl, rfl⟩
        go_wp2_with fail
        go_loopw [48] (fun v wr => ∃ j : Nat, j ≤ l.length ∧ v = .int .i64 j ∧ Row w wr B 94 [.slice A2 l.length c2, .slice A3 m c3] ∧ Own w wr 96 2 (.slice A2 l.length c2) l.length (ruCells (fixR (x, y) j l)) ∧ Own w wr 23 1 (.slice A3 m c3) m zs ∧ Row w wr w1.heap.size 96 [.int .u32 (W x), .int .u32 (W y)]) (fun v _ => l.length - (intOf v).toNat)
        case atStart => exact ⟨0, Nat.zero_le _, rfl, hrow2, by rw [fixR_zero]; exact hown2, hz2, hbox2⟩
        case round =>
          obtain ⟨j, hj, rfl, hrow, hown, hz, hbox⟩ := hrel
          by_cases hlt2 : j < l.length
          · obtain ⟨g, rfl, hg0, hglt⟩ := hown.block (by omega)
            have hgne := HG.out g rfl
            have hat : (fixR (x, y) j l)[j]? = some l[j] := by
              rw [List.getElem?_eq_getElem (by rw [fixR_length]; exact hlt2), fixR_at hlt2, if_neg (Nat.lt_irrefl j)]
            obtain ⟨hc1, hc2'⟩ := ruCells_at _ j _ hat
            have c1 := hown.cell _ hc1
            have c2 := hown.cell _ hc2'
            have g1 := hown.free (j * 2)
            have g2 := hown.free (j * 2 + 1)
            have HSAME := Lib.hid (fixR_same (r := (x, y)) hlt2)
            have HSET := Lib.hid (fixR_set (r := (x, y)) hlt2)
            generalize l[j] = o at c1 c2 HSAME HSET
            obtain ⟨p, z⟩ := o
            simp only at c1 c2
            have hi3 : (0 : Int) ≤ (j : Int) := by omega
            have hi4 : (j : Int) < (l.length : Int) := by omega
            have hka : Kept wr (wr.alloc (.cells #[.int .u32 (W p), .int .u32 (W z)] 96)) := (Kept.refl _).alloc _
            have hrow3 := hrow.kept hka
            have hown3 := hown.kept hka
            have hz3 := hz.kept hka
            have hbox3 := hbox.kept hka
            cases hb : p.getLsbD t
            · have HB := Lib.hid (HCUT.out (p, z) _ hb)
              go_wp2_with fail
              go_roundw
              case rel => exact ⟨j + 1, by omega, by go_num, hrow3, by rw [HSAME.out HB.out]; exact hown3, hz3, hbox3⟩
              case measure => simp [intOf]; omega
            · have HB := Lib.hid (HCUT.out (p, z) _ hb)
              have bx := Box.new wr #[.int .u32 (W p), .int .u32 (W z)] 96 wr.heap.size rfl
              have p0 := bx.at_ 0 rfl
              have p1 := bx.at_ 1 rfl
              have x0 := hbox3.cell 0 rfl
              have x1 := hbox3.cell 1 rfl
              have b0 := hrow3.cell 0 rfl
              have c1' := hown3.cell _ hc1
              have c2'' := hown3.cell _ hc2'
              have g1 := hown3.free (j * 2)
              have g2 := hown3.free (j * 2 + 1)
              clear bx
              go_wp2_with fail
              go_region
              have hfar : B ≠ g := fun h => hown.far hrow (by decide) (by rw [h]; rfl)
              have hfar2 := hz.far2 hown (by decide)
              have hg1 := (grown_set wr ⟨g, j * 2, none⟩ (.int .u32 (W (p ^^^ x)))).trans (grown_set _ ⟨g, j * 2 + 1, none⟩ (.int .u32 (W (z ^^^ y))))
              have hsince : ∀ k, some g = some k → w.heap.size ≤ k := fun k hk => by injection hk with hk; omega
              have R1 := (hrow.grown hg1 (fun h => hfar (by injection h)) hsince).kept (((Kept.refl _).alloc (.cells #[.int .u32 (W p), .int .u32 (W z)] 96)).drew)
              have R2 := ((hown.put (j * 2) (.int .u32 (W (p ^^^ x)))).put (j * 2 + 1) (.int .u32 (W (z ^^^ y)))).kept (((Kept.refl _).alloc (.cells #[.int .u32 (W p), .int .u32 (W z)] 96)).drew)
              have R3 := (hz.grown hg1 hfar2 hsince).kept (((Kept.refl _).alloc (.cells #[.int .u32 (W p), .int .u32 (W z)] 96)).drew)
              have R4 := (hbox.grown hg1 (fun h => by injection h with h; have : w1.heap.size = g := h; omega) hsince).kept (((Kept.refl _).alloc (.cells #[.int .u32 (W p), .int .u32 (W z)] 96)).drew)
              rw [ruCells_set] at R2
              have HS := Lib.hid (show fixR (x, y) (j + 1) l = (fixR (x, y) j l).set j (p ^^^ x, z ^^^ y) by rw [HSET.out, HB.out]; rfl)
              have H1 := Lib.hid R1
              have H2 := Lib.hid R2
              have H3 := Lib.hid R3
              have H4 := Lib.hid R4
              clear R1 R2 R3 R4 hg1 hsince
              go_wp2_with fail
              go_roundw
              case rel => exact ⟨j + 1, by omega, by go_num, H1.out, by rw [HS.out]; exact H2.out, H3.out, H4.out⟩
              case measure => simp [intOf]; omega
          · have HJ := Lib.hid (show j = l.length by omega)
            have b0 := hrow.cell 0 rfl
            have bf := hrow.free 0
            have x0 := hbox.cell 0 rfl
            have x1 := hbox.cell 1 rfl
            have hbl := hrow.lt
            have hxl := hbox.lt
            have HNEW := Lib.hid (show rowsQ qs (k + 1) = fixR (x, y) j l ++ [(x, y)] by rw [HJ.out, HADD.out]; show (if (x == 0#32) = true then _ else _) = _; rw [HX0.out]; rfl)
            have HNL := Lib.hid (show (rowsQ qs (k + 1)).length = l.length + 1 by rw [HNEW.out]; simp [fixR_length])
            have hkd : Kept wr (wr.alloc (.cells #[.int .u32 (W x), .int .u32 (W y)] 96)).drew := ((Kept.refl _).alloc _).drew
            have RA := hrow.kept hkd
            have XA := hbox.kept hkd
            have OA := hown.kept hkd
            have ZA := hz.kept hkd
            have hA : (wr.alloc (.cells #[.int .u32 (W x), .int .u32 (W y)] 96)).drew.cell? ⟨B, 0, none⟩ = some (.slice A2 l.length c2) ∧ (wr.alloc (.cells #[.int .u32 (W x), .int .u32 (W y)] 96)).drew.frozen? ⟨B, 0, none⟩ = false ∧ (wr.alloc (.cells #[.int .u32 (W x), .int .u32 (W y)] 96)).drew.cell? ⟨w1.heap.size, 0, none⟩ = some (.int .u32 (W x)) ∧ (wr.alloc (.cells #[.int .u32 (W x), .int .u32 (W y)] 96)).drew.cell? ⟨w1.heap.size, 1, none⟩ = some (.int .u32 (W y)) :=
              ⟨RA.cell 0 rfl, RA.free 0, XA.cell 0 rfl, XA.cell 1 rfl⟩
            have HA := Lib.hid hA
            have RA := Lib.hid RA
            have XA := Lib.hid XA
            have OA := Lib.hid OA
            have ZA := Lib.hid ZA
            have HFAR := Lib.hid (OA.out.far RA.out (by decide))
            have HFAR2 := Lib.hid (ZA.out.far2 OA.out (by decide))
            have HXF : Hid (some w1.heap.size ≠ (Value.slice A2 l.length c2).ownBlock) := Lib.hid fun h => by
              rcases A2 with _ | a
              · cases h
              · have := HGA.out a rfl
                injection h with h
                have h : w1.heap.size = a.block := h
                omega
            clear hA hkd
            go_wp2_with fail
            go_region_law
              ((refine step_push (by rfl) _ _ 92 (by rfl) 96 Try.underlying92 info_row rfl (by decide) (by decide) _ _ _ _ ((hown.alloc _).drew) #[.int .u32 (W x), .int .u32 (W y)] 96 (0, 0) wr.heap.size 1 1 (heap_alloc_new wr _) (by rfl) (by rfl) rfl (one_ru _ _) (by omega) ?_; intro v7 w7 hown7 hgr7; obtain ⟨A7, c7, rfl, hsl7⟩ := hown7.form; have R7 := Lib.hid (RA.out.grown hgr7 HFAR.out OA.out.since); have X7 := Lib.hid (XA.out.grown hgr7 HXF.out OA.out.since); have Z7 := Lib.hid (ZA.out.grown hgr7 HFAR2.out OA.out.since); have b7 := R7.out.cell 0 rfl; have f7 := R7.out.free 0))
            all_goals
              go_wp2_with fail
              go_roundw
              case rel => exact ⟨k + 1, m, by omega, by omega, by go_num, _, _, zw, R7.out.set 0 _, by rw [HNL.out, HNEW.out, ruCells_snoc]; exact hown7.setRow R7.out (by decide) 0 _, by rw [HZS.out]; exact Z7.out.setRow R7.out (by decide) 0 _⟩
              case measure => simp [intOf]; omega
      · have HX0 := Lib.hid hx0
        have HNEW := Lib.hid (show rowsQ qs (k + 1) = l by rw [HADD.out]; show (if (x == 0#32) = true then _ else _) = _; rw [HX0.out]; rfl)
        have bf := hrow2.free 0
        have bf1 := hrow2.free 1
        have b1 := hrow2.cell 1 rfl
        have e0 := bx.at_ 0 rfl
        have e1 := bx.at_ 1 rfl
        have hkd : Kept (w1.alloc (.cells #[.int .u32 (W x), .int .u32 (W y)] 96)) ((w1.alloc (.cells #[.int .u32 (W x), .int .u32 (W y)] 96)).alloc (.cells #[.int .u32 (W y)] 23)).drew := ((Kept.refl _).alloc _).drew
        have RA := Lib.hid (hrow2.kept hkd)
        have OA := Lib.hid (hown2.kept hkd)
        have ZA := Lib.hid (hz2.kept hkd)
        have HFAR := Lib.hid (ZA.out.far RA.out (by decide))
        have HFAR2 := Lib.hid (OA.out.far2 ZA.out (by decide))
        obtain ⟨B2, hB2⟩ : ∃ B2 : Nat, (w1.alloc (.cells #[.int .u32 (W x), .int .u32 (W y)] 96)).heap.size = B2 := ⟨_, rfl⟩
        have hnew : ((w1.alloc (.cells #[.int .u32 (W x), .int .u32 (W y)] 96)).alloc (.cells #[.int .u32 (W y)] 23)).heap[B2]? = some (.cells #[.int .u32 (W y)] 23) := hB2 ▸ heap_alloc_new _ _
        have hkb : Kept (w1.alloc (.cells #[.int .u32 (W x), .int .u32 (W y)] 96)) ((w1.alloc (.cells #[.int .u32 (W x), .int .u32 (W y)] 96)).alloc (.cells #[.int .u32 (W y)] 23)) := (Kept.refl _).alloc _
        have b1' := (hrow2.kept hkb).cell 1 rfl
        have f1' := (hrow2.kept hkb).free 1
        have x1' := (hbox2.kept hkb).cell 1 rfl
        clear hkd bx hkb
        go_wp2_with fail
        go_region_law
          ((refine step_push (by rfl) _ _ 40 (by rfl) 23 Try.underlying40 info_u32 rfl (by decide) (by decide) _ _ _ _ ((hz2.alloc _).drew) #[.int .u32 (W y)] 23 (0, 0) B2 1 1 hnew (by rfl) (by rfl) rfl (one_words [y]) (by omega) ?_; intro v7 w7 hown7 hgr7; obtain ⟨A7, c7, rfl, hsl7⟩ := hown7.form; have R7 := Lib.hid (RA.out.grown hgr7 HFAR.out ZA.out.since); have Z7 := Lib.hid (OA.out.grown hgr7 HFAR2.out ZA.out.since); have b7 := R7.out.cell 1 rfl; have f7 := R7.out.free 1))
        all_goals
          go_wp2_with fail
          go_roundw
          case rel => exact ⟨k + 1, m + 1, by omega, by omega, by go_num, _, _, zw ++ [y], R7.out.set 1 _, by rw [HNEW.out]; exact Z7.out.setRow R7.out (by decide) 1 _, by rw [List.map_append, HZS.out]; exact hown7.setRow R7.out (by decide) 1 _⟩
          case measure => simp [intOf]; omega
    · obtain ⟨A2, c2, rfl, hsl, hc2⟩ := hown.form
      obtain ⟨A3, c3, rfl, hsz, hc3⟩ := hz.form
      have HK := Lib.hid (show k = len by omega)
      have FIN := Lib.hid (show SBaseZ wr B A2 (rowsQ qs k).length c2 (rowsQ qs k) ∧ Kept w wr from ⟨⟨⟨hrow.lt, hrow.cell 0 rfl, hsl, rfl⟩, A3, m, c3, zw, hrow.cell 1 rfl, ⟨by rw [HZS.out]; exact hsz, by have := hz.1.1; rw [← HZS.out, List.length_map] at this; omega⟩, by omega⟩, hrow.kept0⟩)
      go_wp2_with fail
      go_ret
      exact ⟨B, A2, c2, rfl, by rw [← HK.out]; exact FIN.out.1, FIN.out.2⟩
theorem build_any (A : Option Addr) (len c : Nat) (qs : List (BitVec 32)) (n : Nat) (w : World) (hs : SlW w A len qs) (hn8 : n ≤ 8) (hok : ∀ q ∈ qs, fitB n q = true) (hlen : len ≤ 20) :
    Calls Try.prog 53 #[.slice A len c] w fun e w' => ∃ B A2 c2, e = .returned (.pointer (some ⟨B, 0, none⟩)) ∧ SBase w' B A2 (rowsQ qs len).length c2 (rowsQ qs len) ∧ Kept w w' :=
  (buildZ_any A len c qs n w hs hn8 hok hlen).mono fun e w' ⟨B, A2, c2, h1, h2, h3⟩ => ⟨B, A2, c2, h1, h2.1, h3⟩
end Go.Proofs.Ytodkpojmonikiaa
