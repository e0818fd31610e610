/- The walks of grant.joined and grant.path. -/
import Derived.Test.YtekpifobhgjepaaGrant1
import Derived.Test.YtekpifobhgjepaaGrantQ
import Derived.Test.YtekpifobhgjepaaRep
import Derived.Test.YtekpifobhgjepaaQueue
import Derived.Deep.RegionHeld3
namespace Go.Proofs.Ytekpifobhgjepaa
open Go Go.RowKit
set_option linter.unusedVariables false
set_option linter.unusedSimpArgs false

/-- a graph as it is read: n rows of 14 words -/
def GrR (w : World) (g n : Nat) (Bs : Nat → Nat) (m : Mx) : Prop := ∀ i j, i < n → j < 14 → g < w.heap.size ∧ Bs i < w.heap.size ∧ w.cell? ⟨g, i, none⟩ = some (.slice (some ⟨Bs i, 0, none⟩) 14 14) ∧ w.cell? ⟨Bs i, j, none⟩ = some (.int .u32 (W (m i j)))
theorem GrS.read {w0 w : World} {g c n : Nat} {Bs : Nat → Nat} {m : Mx} (h : GrS w0 w g c n Bs m) : GrR w g n Bs m := fun i j hi hj => by
  refine ⟨?_, (h.2.1 i hi).lt, h.1.cell i (outL_at hi), (h.2.cell hi hj).1⟩
  have := World.ownsRow.lt h.1.1 g rfl
  exact this.2
theorem GrR.kept {w w' : World} {g n : Nat} {Bs : Nat → Nat} {m : Mx} (h : GrR w g n Bs m) (k : Kept w w') : GrR w' g n Bs m := fun i j hi hj => by
  obtain ⟨h1, h2, h3, h4⟩ := h i j hi hj
  exact ⟨Nat.lt_of_lt_of_le h1 k.size, Nat.lt_of_lt_of_le h2 k.size, (k.cell (p := ⟨g, i, none⟩) h1).trans h3, (k.cell (p := ⟨Bs i, j, none⟩) h2).trans h4⟩
set_option maxHeartbeats 1000000 in
theorem joined_any (g c n : Nat) (Bs : Nat → Nat) (m : Mx) (i j : Nat) (w : World) (h : GrR w g n Bs m) (hn : n ≤ 14) (hi : i < n) (hj : j < n) :
    Calls Try.prog 64 #[.slice (some ⟨g, 0, none⟩) n c, .int .i64 i, .int .i64 j] w fun e w' => e = .returned (.bool (joinB m i j)) ∧ Kept w w' := by
  obtain ⟨_, _, q1, q2⟩ := h i j hi (by omega)
  obtain ⟨_, _, q3, q4⟩ := h j i hj (by omega)
  have i1 : (0 : Int) ≤ (i : Int) := by omega
  have i2 : (i : Int) < (n : Int) := by omega
  have j1 : (0 : Int) ≤ (j : Int) := by omega
  have j2 : (j : Int) < (n : Int) := by omega
  have i3 : (i : Int) < 14 := by omega
  have j3 : (j : Int) < 14 := by omega
  have HJ := Lib.hid (show joinB m i j = ((m i j ||| m j i) &&& 3#32 != 0#32) from rfl)
  generalize joinB m i j = r at HJ ⊢
  generalize m i j = x at q2 HJ
  generalize m j i = y at q4 HJ
  have e3 : bits .and .u32 (W (x ||| y)) 3 = W ((x ||| y) &&& 3#32) := bits_and_W (x ||| y) 3#32
  go_enter Try.func64, Try.ntmps64
  go_wp2_with fail
  go_quiet (fail)
  go_wp2_with fail
  go_ret
  exact ⟨by rw [HJ.out]; rfl, (Kept.refl _).drewN _⟩
/-! ### the array of those towards x -/
def nxV (n : Nat) (nx : Nat → Int) : List Value := (List.range n).map fun j => .int .i64 (nx j)
theorem nxV_at {n j : Nat} (nx : Nat → Int) (h : j < n) : (nxV n nx)[j]? = some (.int .i64 (nx j)) := by
  unfold nxV
  simp [h]
theorem nxV_set (n : Nat) (nx : Nat → Int) (j : Nat) (v : Int) : (nxV n nx).set j (.int .i64 v) = nxV n (updI nx j v) := by
  unfold nxV updI
  apply List.ext_getElem
  · simp
  · intro i h1 h2
    rw [List.getElem_set]
    simp only [List.getElem_map, List.getElem_range]
    by_cases e : j = i
    · subst e
      simp
    · rw [if_neg e, if_neg (fun h => e h.symm)]
theorem nxV_rep (n : Nat) : List.replicate n (iv (-1)) = nxV n fun _ => -1 := by
  unfold nxV
  apply List.ext_getElem
  · simp
  · intro i h1 h2
    simp [iv]
theorem nx0_eq (x : Nat) : updI (fun _ => -1) x (x : Int) = nx0 x := rfl
def visV (l : List Nat) : List Value := l.map fun v : Nat => .int .i64 (v : Int)
theorem visV_snoc (l : List Nat) (v : Nat) : visV (l ++ [v]) = visV l ++ [.int .i64 (v : Int)] := by simp [visV]
/-- where path is -/
def PthR (wa : World) (B n : Nat) (m : Mx) (x y : Nat) (rt : BitVec 32) (j : Nat) (vq : Value) (vis : List Nat) (k : Nat) (nx : Nat → Int) (wr : World) : Prop :=
  ∃ q qg qo qc, vis.length = k + q ∧ vq = .slice (some ⟨qg, qo, none⟩) q qc ∧ qg ≠ B ∧ Que wa wr 3 1 (.slice (some ⟨qg, qo, none⟩) q qc) q (visV (vis.drop k)) ∧ Row wa wr B 3 (nxV n nx) ∧ BfsI n m x y rt vis k j nx
def PthK (wa : World) (B n : Nat) (m : Mx) (x y : Nat) (rt : BitVec 32) (z : Nat) (vq : Value) (wr : World) : Prop := ∃ vis k nx, PthR wa B n m x y rt 0 vq vis k nx wr ∧ n - k ≤ z
def PthJ (wa : World) (B n : Nat) (m : Mx) (x y : Nat) (rt : BitVec 32) (k v j : Nat) (vq : Value) (wr : World) : Prop := ∃ vis nx, PthR wa B n m x y rt j vq vis k nx wr ∧ vis[k]? = some v
theorem PthR.kept {wa wr w' : World} {B n : Nat} {m : Mx} {x y : Nat} {rt : BitVec 32} {j : Nat} {vq : Value} {vis : List Nat} {k : Nat} {nx : Nat → Int} (h : PthR wa B n m x y rt j vq vis k nx wr) (hk : Kept wr w') {j' : Nat} (hb : BfsI n m x y rt vis k j' nx) : PthR wa B n m x y rt j' vq vis k nx w' := by
  obtain ⟨q, qg, qo, qc, h1, h2, h3, h4, h5, _⟩ := h
  exact ⟨q, qg, qo, qc, h1, h2, h3, h4.kept hk, h5.kept hk, hb⟩
theorem Row.alloc' {w0 w : World} {B : Nat} {e : TypeId} {xs : List Value} (h : Row w0 w B e xs) (o : Obj) : Row w0 (w.alloc o) B e xs := h.kept ((Kept.refl _).alloc o)
theorem Que.since {w0 w : World} {E : TypeId} {s n g o c : Nat} {xs : List Value} (h : Que w0 w E s (.slice (some ⟨g, o, none⟩) n c) n xs) : w0.heap.size ≤ g := by
  obtain ⟨g', o', c', e, hb, _⟩ := h.block
  injection e with e1
  injection e1 with e1
  injection e1 with e1
  rw [e1]
  exact hb
theorem drop_snoc {l : List Nat} {k : Nat} (v : Nat) (h : k ≤ l.length) : (l ++ [v]).drop k = l.drop k ++ [v] := List.drop_append_of_le_length h
/-- what path hands back -/
def RetPath (w : World) (r : Bool) (e : Ending) (w' : World) : Prop := Kept w w' ∧ ((r = false ∧ e = .returned (.slice none 0 0)) ∨ (r = true ∧ ∃ b k c, e = .returned (.slice (some ⟨b, 0, none⟩) k c)))
set_option maxRecDepth 100000 in
set_option maxHeartbeats 2000000 in
theorem path_any (g c n : Nat) (Bs : Nat → Nat) (m : Mx) (x y : Nat) (rt : BitVec 32) (w : World) (h : GrR w g n Bs m) (hn : n ≤ 6) (hx : x < n) (hy : y < n) :
    Calls Try.prog 50 #[.slice (some ⟨g, 0, none⟩) n c, .int .i64 x, .int .i64 y, .int .u32 (W rt)] w (RetPath w (canB n m x y rt)) := by
  have HG := Lib.hid (fun w' (k : Kept w w') => h.kept k)
  have HX := Lib.hid hx
  have HY := Lib.hid hy
  clear h
  go_enter Try.func50, Try.ntmps50
  go_wp2_with fail
  have hs1 : SlI (w.alloc (.cells #[.int .i64 (-1)] 3)) (some ⟨w.heap.size, 0, none⟩) 1 [-1] := ⟨Sl.new w #[.int .i64 (-1)] 3 1 1 rfl, rfl⟩
  have ka : Kept w (w.alloc (.cells #[.int .i64 (-1)] 3)) := (Kept.refl _).alloc _
  have KA := Lib.hid ka
  refine (repeat_any _ _ n _ hs1 (by omega) (by omega)).mono ?_
  rintro e w1 ⟨v, rfl, hown⟩
  obtain ⟨wa, hwa⟩ : ∃ wa, w.alloc (.cells #[.int .i64 (-1)] 3) = wa := ⟨_, rfl⟩
  rw [hwa] at hown KA
  clear hwa hs1 ka
  obtain ⟨A, cv, rfl, _, _⟩ := hown.form
  obtain ⟨B, rfl, hrow⟩ := Row.of_own hown (by omega)
  rw [nxV_rep] at hrow
  have c0 := hrow.cell x (nxV_at _ hx)
  have f0 := hrow.free x
  have hi1 : (0 : Int) ≤ (x : Int) := by omega
  have hi2 : (x : Int) < (n : Int) := by omega
  obtain ⟨M, hM⟩ := measure_of (PthK wa B n m x y rt)
  have HM := Lib.hid hM
  have hst : ∃ z, PthK wa B n m x y rt z (.slice (some ⟨(w1.setCell ⟨B, x, none⟩ (.int .i64 x)).heap.size, 0, none⟩) 1 1) ((w1.setCell ⟨B, x, none⟩ (.int .i64 x)).alloc (.cells #[.int .i64 x] 3)) := by
    have hr2 := hrow.set x (.int .i64 x)
    rw [nxV_set, nx0_eq] at hr2
    have ho := Own.made hr2.kept0 3 #[.int .i64 x] 1 1 _ rfl rfl (by decide)
    refine ⟨_, [x], 0, nx0 x, ⟨1, _, 0, 1, rfl, rfl, ?_, Que.of_own ho (by omega), hr2.kept ((Kept.refl _).alloc _), BfsI.start hx⟩, Nat.le_refl _⟩
    intro e
    have := hrow.lt
    simp at e
    omega
  have HST := Lib.hid hst
  have HN := Lib.hid hn
  clear hst hM hrow hown
  go_wp2_with fail
  go_loopw [10] (fun vq wr => ∃ z, PthK wa B n m x y rt z vq wr) (fun vq wr => M vq wr)
  case atStart => simpa using HST.out
  case round =>
    obtain ⟨z0, hz0⟩ := hrel
    obtain ⟨vis, k, nx, ⟨q, qg, qo, qc, hql, rfl, hne, hque, hrow, hb⟩, hle⟩ := (HM.out _ _ _ hz0).1
    clear hz0
    by_cases hk : k < vis.length
    · obtain ⟨v, hv⟩ : ∃ v, vis[k]? = some v := ⟨_, List.getElem?_eq_getElem hk⟩
      have hvn := (hb.ok v (List.mem_of_getElem? hv)).1
      have HV := Lib.hid hv
      have HVN := Lib.hid hvn
      have HLE := Lib.hid hle
      obtain ⟨p, rfl⟩ : ∃ p, q = p + 1 := ⟨q - 1, by omega⟩
      have hq0 : (visV (vis.drop k))[0]? = some (.int .i64 (v : Int)) := by
        unfold visV
        rw [List.getElem?_map, List.getElem?_drop, Nat.add_zero, hv]
        rfl
      have q0 : wr.cell? ⟨qg, qo, none⟩ = some (.int .i64 (v : Int)) := hque.cell 0 hq0
      have hw1 := hque.kept0
      obtain ⟨_, _, g1, g2⟩ := HG.out wr (KA.out.trans hw1) v y hvn (by omega)
      have hi1 : (0 : Int) ≤ (v : Int) := by omega
      have hi2 : (v : Int) < (n : Int) := by omega
      have hi3 : (0 : Int) ≤ (y : Int) := by omega
      have hi4 : (y : Int) < 14 := by omega
      have hplen := hb.len
      have HST : Hid (PthJ wa B n m x y rt k v 0 (.slice (some ⟨qg, qo, none⟩) (p + 1) qc) wr) := Lib.hid ⟨vis, nx, ⟨p + 1, qg, qo, qc, hql, rfl, hne, hque, hrow, hb⟩, hv⟩
      have HB := Lib.hid hb
      have HROW := Lib.hid hrow
      have HH := Lib.hid (show hitB m y rt v = (decide (v ≠ y) && (m v y &&& rt != 0#32)) from rfl)
      generalize m v y = xx at g2 HH
      clear hb hrow hque hle hk hql hv hq0 hvn hne
      have hcase : v = y ∨ (v ≠ y ∧ (xx &&& rt != 0#32) = false) ∨ (v ≠ y ∧ (xx &&& rt != 0#32) = true) := by
        by_cases e : v = y
        · exact .inl e
        · cases hx2 : (xx &&& rt != 0#32)
          · exact .inr (.inl ⟨e, rfl⟩)
          · exact .inr (.inr ⟨e, rfl⟩)
      have hsplit : (∃ d : Bool, ((v : Int) != (y : Int)) = d ∧ (d = true → (xx &&& rt != 0#32) = false) ∧ hitB m y rt v = false) ∨ (((v : Int) != (y : Int)) = true ∧ (xx &&& rt != 0#32) = true ∧ hitB m y rt v = true) := by
        rcases hcase with e | ⟨e, h⟩ | ⟨e, h⟩
        · exact .inl ⟨false, by rw [e]; simp, (fun h => by cases h), by rw [HH.out, e]; simp⟩
        · exact .inl ⟨true, by rw [bne_iff_ne]; omega, fun _ => h, by rw [HH.out, h]; simp⟩
        · exact .inr ⟨by rw [bne_iff_ne]; omega, h, by rw [HH.out, h]; simpa using e⟩
      clear hcase HH
      rcases hsplit with ⟨d, hd1, hd2, hh⟩ | ⟨hd1, hd2, hh⟩
      · have HNO := Lib.hid hh
        clear hh
        have hcond : ∃ b : Bool, (d = true ∧ (xx &&& rt != 0#32) = false) ∨ d = false := ⟨true, by
          cases d
          · exact .inr rfl
          · exact .inl ⟨rfl, hd2 rfl⟩⟩
        clear hd2
        obtain ⟨_, hcond⟩ := hcond
        rcases hcond with ⟨rfl, hd3⟩ | rfl
        all_goals
          go_wp2_with fail
          go_loopw [10, 66] (fun vq vj wr' => ∃ j : Nat, j ≤ n ∧ vj = .int .i64 (j : Nat) ∧ PthJ wa B n m x y rt k v j vq wr') (fun _ vj _ => n - (intOf vj).toNat)
          case atStart => exact ⟨0, Nat.zero_le _, rfl, HST.out⟩
          case round =>
            obtain ⟨j, hj, rfl, vis2, nx2, ⟨q2, qg2, qo2, qc2, hql2, rfl, hne2, hque2, hrow2, hb2⟩, hv2⟩ := hrel
            have HB2 := Lib.hid hb2
            have HV2 := Lib.hid hv2
            have HQL2 := Lib.hid hql2
            have HNE2 := Lib.hid hne2
            have HQ2 := Lib.hid hque2
            have HR2 := Lib.hid hrow2
            have hq6 : q2 ≤ 6 := by
              have := hb2.len
              omega
            by_cases hlt : j < n
            · have cj := hrow2.cell j (nxV_at nx2 hlt)
              have hj1 : (0 : Int) ≤ (j : Int) := by omega
              have hj2 : (j : Int) < (n : Int) := by omega
              by_cases hneg : nx2 j < 0
              · have dn : decide (nx2 j < 0) = true := by simpa using hneg
                have HNG := Lib.hid hneg
                have HJC := Lib.hid (joined_any g c n Bs m v j wr (HG.out _ (KA.out.trans hque2.kept0)) (by omega) HVN.out hlt)
                clear hb2 hv2 hql2 hne2 hneg hque2 hrow2
                go_wp2_with fail
                refine HJC.out.mono ?_
                rintro e w5 ⟨rfl, k5⟩
                cases hjb : joinB m v j
                · have HJN : Hid (PthJ wa B n m x y rt k v (j + 1) (.slice (some ⟨qg2, qo2, none⟩) q2 qc2) w5) := Lib.hid ⟨vis2, nx2, ⟨q2, qg2, qo2, qc2, HQL2.out, rfl, HNE2.out, HQ2.out.kept k5, HR2.out.kept k5, HB2.out.skip HV2.out (fun _ hc => by rw [hjb] at hc; cases hc)⟩, HV2.out⟩
                  clear hjb k5
                  go_wp2_with fail
                  go_roundw
                  case rel => exact ⟨j + 1, by omega, by go_num, HJN.out⟩
                  case measure => simp [intOf]; omega
                · have HJB := Lib.hid hjb
                  have row5 := HR2.out.kept k5
                  have c5 := row5.cell j (nxV_at nx2 hlt)
                  have f5 := row5.free j
                  have row6 := row5.set j (.int .i64 (v : Int))
                  rw [nxV_set] at row6
                  have que6 : Que wa (w5.setCell ⟨B, j, none⟩ (.int .i64 (v : Int))) 3 1 (.slice (some ⟨qg2, qo2, none⟩) q2 qc2) q2 (visV (vis2.drop k)) := (HQ2.out.kept k5).grown (grown_set w5 ⟨B, j, none⟩ _) (fun e => by injection e with e; exact HNE2.out e) (fun b hb => by injection hb with hb; have : B = b := hb; have := row5.2.1; omega)
                  have HROW6 := Lib.hid row6
                  have HQUE6 := Lib.hid que6
                  clear hjb k5 row5 row6
                  go_wp2_with (at_builtin; refine wpList_pushQ rfl _ _ 88 rfl 3 Try.underlying88 info_i64 rfl (by decide) (by decide) qg2 qo2 _ qc2 _ que6 rfl #[.int .i64 (j : Int)] 3 _ 1 rfl (by simp) rfl (one_i64 _) (by omega) ?_; intro v7 w7 hq7 hg7 hb7)
                  have HJN : Hid (PthJ wa B n m x y rt k v (j + 1) v7 w7) := by
                    obtain ⟨qg7, qo7, qc7, rfl, _, _⟩ := hq7.block
                    have e1 : (vis2 ++ [j]).length = k + (q2 + 1) := by
                      rw [List.length_append, List.length_singleton, HQL2.out]
                      omega
                    have e2 : visV ((vis2 ++ [j]).drop k) = visV (vis2.drop k) ++ [.int .i64 (j : Int)] := by
                      rw [drop_snoc j (by rw [HQL2.out]; omega), visV_snoc]
                    refine Lib.hid ⟨vis2 ++ [j], updI nx2 j v, ⟨q2 + 1, qg7, qo7, qc7, e1, rfl, ?_, by rw [e2]; exact hq7, (HROW6.out.alloc' _).grown hg7 (fun e => by injection e with e; exact HNE2.out e.symm) (fun b hb => by injection hb with hb; have := HQUE6.out.since; omega), HB2.out.add HV2.out hlt HNG.out HJB.out⟩, by rw [List.getElem?_append_left (by have := (List.getElem?_eq_some_iff.1 HV2.out).1; exact this)]; exact HV2.out⟩
                    intro e
                    have hlt7 := HROW6.out.lt
                    rcases hb7 with hb7 | hb7
                    · injection hb7 with hb7
                      exact HNE2.out (by rw [← hb7]; exact e)
                    · injection hb7 with hb7
                      have hb7 : qg7 = _ := hb7
                      omega
                  clear hq7 hg7 hb7
                  go_roundw
                  case rel => exact ⟨j + 1, by omega, by go_num, HJN.out⟩
                  case measure => simp [intOf]; omega
              · have dn : decide (nx2 j < 0) = false := by simpa using hneg
                have HJN : Hid (PthJ wa B n m x y rt k v (j + 1) (.slice (some ⟨qg2, qo2, none⟩) q2 qc2) wr) := Lib.hid ⟨vis2, nx2, ⟨q2, qg2, qo2, qc2, hql2, rfl, hne2, hque2, hrow2, hb2.skip hv2 (fun hjn _ => Decidable.byContradiction fun hc => hneg ((hb2.free j hjn).2 hc))⟩, hv2⟩
                clear hb2 hv2 hql2 hne2 hneg hque2 hrow2
                go_wp2_with fail
                go_roundw
                case rel => exact ⟨j + 1, by omega, by go_num, HJN.out⟩
                case measure => simp [intOf]; omega
            · have HNX : Hid (∀ w' vq', PthR wa B n m x y rt 0 vq' vis2 (k + 1) nx2 w' → PthK wa B n m x y rt (n - (k + 1)) vq' w') := Lib.hid fun w' vq' hp => ⟨vis2, k + 1, nx2, hp, Nat.le_refl _⟩
              have hjn : j = n := by omega
              have hb3 := hb2
              rw [hjn] at hb3
              have HB3 := Lib.hid (hb3.next hv2 HNO.out)
              have HKN := Lib.hid (show k < n by have := hb2.len; have := (List.getElem?_eq_some_iff.1 hv2).1; omega)
              obtain ⟨p2, rfl⟩ : ∃ p2, q2 = p2 + 1 := ⟨q2 - 1, by have := (List.getElem?_eq_some_iff.1 hv2).1; omega⟩
              have hbd := hque2.bound
              have HED := Lib.hid (show (visV (vis2.drop k)).drop 1 = visV (vis2.drop (k + 1)) by unfold visV; rw [← List.map_drop, List.drop_drop])
              clear hb2 hv2 hql2 hne2 hrow2 hb3 hjn
              by_cases hc1 : qc2 = 1
              · subst hc1
                obtain rfl : p2 = 0 := by omega
                have hqt := hque2.tail1
                rw [HED.out] at hqt
                have HST2 := Lib.hid (HNX.out _ _ ⟨0, qg2, qo2, 0, HQL2.out, rfl, HNE2.out, hqt, HR2.out, HB3.out⟩)
                clear hqt hque2 hbd
                go_wp2_with fail
                go_roundw
                case rel => exact ⟨_, HST2.out⟩
                case measure =>
                  have h1 := (HM.out _ _ _ HST2.out).2
                  have h2 := HLE.out
                  have h3 := HKN.out
                  simp at h1 h2 ⊢
                  omega
              · obtain ⟨qd, rfl⟩ : ∃ qd, qc2 = qd + 1 := ⟨qc2 - 1, by omega⟩
                have hqt := hque2.tail hc1
                rw [HED.out] at hqt
                have HST2 := Lib.hid (HNX.out _ _ ⟨p2, qg2, qo2 + 1, qd, by rw [HQL2.out]; omega, rfl, HNE2.out, hqt, HR2.out, HB3.out⟩)
                have hqd : ¬ qd = 0 := by omega
                clear hqt hque2 hc1
                go_wp2_with fail
                go_roundw
                case rel => exact ⟨_, HST2.out⟩
                case measure =>
                  have h1 := (HM.out _ _ _ HST2.out).2
                  have h2 := HLE.out
                  have h3 := HKN.out
                  simp at h1 h2 ⊢
                  omega
      · have HCAN := Lib.hid (HB.out.found HV.out hh)
        have KW := Lib.hid (KA.out.trans hw1)
        clear hh
        obtain ⟨wo, hwo⟩ : ∃ wo : World, wo = wr := ⟨_, rfl⟩
        subst hwo
        go_wp2_with fail
        go_loopw [11, 12] (fun vi vl wr' => ∃ (t u l : Nat) (xs : List Value), vi = .int .i64 (u : Nat) ∧ Own wo wr' 3 1 vl l xs ∧ 0 < l ∧ Hid (vis[t]? = some u ∧ l + t ≤ 10 ∧ u < n)) (fun vi _ _ => vis.idxOf (intOf vi).toNat)
        case atStart => exact ⟨k, v, 1, _, rfl, Own.made (Kept.refl _) 3 #[.int .i64 v] 1 1 _ rfl rfl (by decide), by omega, Lib.hid ⟨HV.out, by have := (List.getElem?_eq_some_iff.1 HV.out).1; omega, HVN.out⟩⟩
        case round =>
          obtain ⟨t, u, l, xs, rfl, hown, hl0, HT⟩ := hrel
          obtain ⟨Al, cl, rfl, _, _⟩ := hown.form
          by_cases hux : u = x
          · have hdx : ((u : Int) != (x : Int)) = false := by rw [hux]; simp
            obtain ⟨gl, rfl, _, _⟩ := hown.block hl0
            have FIN := Lib.hid (show RetPath w (canB n m x y rt) (.returned (.slice (some ⟨gl, 0, none⟩) l cl)) _ from ⟨KW.out.trans hown.kept0, .inr ⟨HCAN.out, gl, l, cl, rfl⟩⟩)
            clear hown hux
            go_wp2_with fail
            go_ret
            exact FIN.out
          · have hdx : ((u : Int) != (x : Int)) = true := by rw [bne_iff_ne]; omega
            obtain ⟨s2, u2, hs2, hu2, hnx, hun⟩ := HB.out.back HT.out.1 hux
            have hun0 := HT.out.2.2
            have hlb := HT.out.2.1
            have HT2 := Lib.hid (show vis[s2]? = some u2 ∧ (l + 1) + s2 ≤ 10 ∧ u2 < n from ⟨hu2, by omega, hun⟩)
            have HLT := Lib.hid (show vis.idxOf u2 < vis.idxOf u by rw [idx_at HB.out.nd hu2, idx_at HB.out.nd HT.out.1]; exact hs2)
            have cu := (HROW.out.kept hown.kept0).cell u (nxV_at _ hun0)
            rw [hnx] at cu
            have hi5 : (0 : Int) ≤ (u : Int) := by omega
            have hi6 : (u : Int) < (n : Int) := by omega
            have HCU := Lib.hid (fun w' (k' : Kept wo w') => by
              have := (HROW.out.kept k').cell u (nxV_at _ hun0)
              rw [hnx] at this
              exact this)
            clear hux hs2 hu2 hnx hun hun0
            go_wp2_with (at_builtin; refine wpList_push rfl _ _ 88 rfl 3 Try.underlying88 info_i64 rfl (by decide) (by decide) _ _ _ _ hown #[.int .i64 (u2 : Int)] _ _ 1 1 rfl rfl rfl rfl (one_i64 _) (by omega) ?_; intro v7 w7 hown7 hg7; have cu7 := HCU.out w7 hown7.kept0)
            go_roundw
            case rel => exact ⟨s2, u2, l + 1, _, rfl, hown7, by omega, HT2⟩
            case measure => simpa [intOf] using HLT.out
    · obtain rfl : q = 0 := by omega
      have HB := Lib.hid (hb.none (by omega))
      have FIN := Lib.hid (show RetPath w (canB n m x y rt) (.returned (.slice none 0 0)) wr from ⟨KA.out.trans hque.kept0, .inl ⟨HB.out, rfl⟩⟩)
      clear hb hrow hque hle hk hql
      go_wp2_with fail
      go_ret
      exact FIN.out
end Go.Proofs.Ytekpifobhgjepaa
