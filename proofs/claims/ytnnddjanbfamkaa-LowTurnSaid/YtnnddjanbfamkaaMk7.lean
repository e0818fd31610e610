/- The walk of mark.Play. -/
import Derived.Test.YtnnddjanbfamkaaMk6
import Derived.Test.YtnnddjanbfamkaaLow8
namespace Go.Proofs.Ytnnddjanbfamkaa
open Go Go.RowKit
set_option linter.unusedVariables false

/-- the start -/
def mark0 : MSt := ⟨fun _ => (0, 0#32), fun _ => 0#32, fun t => 1#32 <<< t⟩
theorem three_rows {w w1 : World} {X : Nat} (hk : Kept w w1) (hX : w1.heap.size = X) (a b c : List Value) (ea eb ec : TypeId) : Row w ((((w1.alloc (.cells a.toArray ea)).alloc (.cells b.toArray eb)).alloc (.cells c.toArray ec)).drew) X ea a ∧ Row w ((((w1.alloc (.cells a.toArray ea)).alloc (.cells b.toArray eb)).alloc (.cells c.toArray ec)).drew) (X + 1) eb b ∧ Row w ((((w1.alloc (.cells a.toArray ea)).alloc (.cells b.toArray eb)).alloc (.cells c.toArray ec)).drew) (X + 1 + 1) ec c :=
  ⟨(Row.new hk _ _ _ hX).kept ((((Kept.refl _).alloc _).alloc _).drew), (Row.new (hk.alloc _) _ _ _ (by simp [hX])).kept (((Kept.refl _).alloc _).drew), (Row.new ((hk.alloc _).alloc _) _ _ _ (by simp [hX])).drew⟩
theorem MkSt.grown {w0 w w' : World} {Bc Bt O Bk M F K V : Nat} {A1 A2 : Option Addr} {nc c1 nt c2 : Nat} {VC : Value} {s : MSt} {v : Value} {n : Nat} {xs : List Value} (h : MkSt w0 w Bc Bt O Bk M F K V A1 A2 nc c1 nt c2 VC s) (o : Own w0 w 25 1 v n xs) (hg : w.grownBy w' v.ownBlock) : MkSt w0 w' Bc Bt O Bk M F K V A1 A2 nc c1 nt c2 VC s :=
  ⟨h.bc.grown hg (o.far h.bc (by decide)) o.since, h.bt.grown hg (o.far h.bt (by decide)) o.since, h.ot.grown hg (o.far h.ot (by decide)) o.since, h.bk.grown hg (o.far h.bk (by decide)) o.since, h.mr.grown hg (o.far h.mr (by decide)) o.since, h.fr.grown hg (o.far h.fr (by decide)) o.since, h.kn.grown hg (o.far h.kn (by decide)) o.since, h.ne, h.vr.grown hg (o.far h.vr (by decide)) o.since, h.nv⟩
theorem MkSt.setO {w0 w : World} {Bc Bt O Bk M F K V : Nat} {A1 A2 : Option Addr} {nc c1 nt c2 : Nat} {VC : Value} {s : MSt} (h : MkSt w0 w Bc Bt O Bk M F K V A1 A2 nc c1 nt c2 VC s) (VD : Value) : MkSt w0 (w.setCell ⟨O, 0, none⟩ VD) Bc Bt O Bk M F K V A1 A2 nc c1 nt c2 VD s :=
  have o := fun {B : Nat} {e : TypeId} {xs : List Value} (r : Row w0 w B e xs) (hne : B ≠ O) => r.other (p := ⟨O, 0, none⟩) VD hne h.ot.2.1
  ⟨o h.bc (row_neL h.bc h.ot (by decide)), o h.bt (row_neL h.bt h.ot (by decide)), h.ot.set 0 VD, o h.bk (row_neL h.bk h.ot (by decide)), o h.mr (row_neL h.mr h.ot (by decide)), o h.fr (row_neL h.fr h.ot (by decide)), o h.kn (row_neL h.kn h.ot (by decide)), h.ne, o h.vr (Ne.symm h.nv), h.nv⟩
theorem Row.slN {w0 w : World} {B : Nat} {e : TypeId} {xs : List Value} (h : Row w0 w B e xs) (s n : Nat) (hn : xs.length = n * s) : Sl w s (some ⟨B, 0, none⟩) n xs :=
  ⟨hn, fun _ => ⟨B, 0, rfl, h.lt, fun j u hu => by rw [Nat.zero_add]; exact h.cell j hu⟩⟩
def fillU (i : Nat) : Nat → BitVec 32 := fun q => if q < i then 1#32 <<< q else 0#32
theorem fillU_zero : fillU 0 = fun _ => 0#32 := by funext q; unfold fillU; simp
theorem fillU_succ (i : Nat) : upd (fillU i) i (1#32 <<< i) = fillU (i + 1) := by
  funext q
  unfold upd fillU
  by_cases h : q = i
  · subst h; simp
  · rw [if_neg h]
    by_cases h2 : q < i
    · rw [if_pos h2, if_pos (by omega)]
    · rw [if_neg h2, if_neg (by omega)]
theorem fillU_done (n : Nat) : rowsV n (fillU n) = rowsV n fun t => 1#32 <<< t := by
  unfold rowsV
  apply List.map_congr_left
  intro q hq
  rw [List.mem_range] at hq
  unfold fillU
  rw [if_pos hq]
/-- ways that end alike, shown once -/
theorem share4 {R : Prop} {H G : World → Nat → Nat → Nat → Prop} (main : (∀ w M F O, H w M F O → G w M F O) → R) (key : ∀ w M F O, H w M F O → G w M F O) : R := main key
/-- the same with the capacity of the codes -/
def MarkedC (w' : World) (nc nt nd : Nat) (codes : List Int) (s : MSt) (e : Ending) : Prop :=
  ∃ (AC AM AF : Option Addr) (cC cM cF : Nat), nd ≤ cC ∧ e = .returned (.tuple #[.agg #[.slice AC nd cC, .slice AM nc cM, .slice AF nt cF], .int .i64 0]) ∧ SlI w' AC nd codes ∧ SlLab w' AM nc ((List.range nc).map s.marks) ∧ SlW w' AF nt ((List.range nt).map s.from_)
theorem MarkedC.two {w' : World} {nc nt nd : Nat} {codes : List Int} {s : MSt} {e : Ending} (h : MarkedC w' nc nt nd codes s e) : Marked2 w' nc nt nd codes s e := by
  obtain ⟨a, b, c, d, e', f, _, h⟩ := h
  exact ⟨a, b, c, d, e', f, h⟩
theorem own_cap {w0 w : World} {E : TypeId} {s n : Nat} {A : Option Addr} {k c : Nat} {xs : List Value} (h : Own w0 w E s (.slice A k c) n xs) (hs : 0 < s) : n ≤ c := by
  rcases h.1.2 with ⟨hv, hx⟩ | ⟨g, cap, cur, hv, hb, hgg, hle, rest⟩
  · cases hv; omega
  · cases hv; exact hle
set_option maxRecDepth 100000 in
set_option maxHeartbeats 8000000 in
theorem mplay_goodC (A1 : Option Addr) (nc c1 : Nat) (clear : List Lab) (A2 : Option Addr) (nt c2 : Nat) (things : List Lab) (A3 : Option Addr) (nd c3 : Nat) (ds : List De) (w : World) (s1 : SlLab w A1 nc clear) (s2 : SlLab w A2 nt things) (hd : SlD w A3 nd ds) (h0 : marksF clear things nd = 0) (hn1 : 1 ≤ nc) (hn5 : nc ≤ 5) (hn8 : nt ≤ 8) (hn30 : nd ≤ 30) :
    Calls Try.prog 19 #[.slice A1 nc c1, .slice A2 nt c2, .slice A3 nd c3] w fun e w' => Kept w w' ∧ MarkedC w' nc nt nd (codesOf (markDo nc nt (lab clear) (lab things)) mark0 ds) (stOf (markDo nc nt (lab clear) (lab things)) mark0 ds) e := by
  have hka : Kept w (((w.alloc (.cells #[.slice A1 nc c1] 36)).alloc (.cells #[.slice A2 nt c2] 36)).alloc (.cells #[.slice none 0 0, .slice none 0 0, .slice none 0 0] 41)) := (((Kept.refl _).alloc _).alloc _).alloc _
  have hBc := (Row.new (Kept.refl w) 36 [.slice A1 nc c1] _ rfl).kept (((Kept.refl _).alloc (.cells #[.slice A2 nt c2] 36)).alloc (.cells #[.slice none 0 0, .slice none 0 0, .slice none 0 0] 41))
  have hBt := (Row.new ((Kept.refl w).alloc (.cells #[.slice A1 nc c1] 36)) 36 [.slice A2 nt c2] (w.heap.size + 1) (by simp)).kept ((Kept.refl _).alloc (.cells #[.slice none 0 0, .slice none 0 0, .slice none 0 0] 41))
  have hV := Row.new (((Kept.refl w).alloc (.cells #[.slice A1 nc c1] 36)).alloc (.cells #[.slice A2 nt c2] 36)) 41 [.slice none 0 0, .slice none 0 0, .slice none 0 0] (w.heap.size + 1 + 1) (by simp)
  have HWR := Lib.hid (markWrong_any A1 nc c1 clear A2 nt c2 things nd _ (s1.kept hka) (s2.kept hka))
  rw [h0] at HWR
  have hmk := run_make1 (P := Try.prog) 39 22 Try.underlying39 info_u32 rfl (by decide) nt (by omega)
  have hmk2 := run_make1 (P := Try.prog) 39 22 Try.underlying39 info_u32 rfl (by decide) nc (by omega)
  have hml := run_makeL nc (by omega)
  simp only [rep_rows] at hmk hmk2
  have HRows := Lib.hid (fun w1 (k : Kept _ w1) => And.intro (hBc.kept k) (And.intro (hBt.kept k) (hV.kept k)))
  have HKA := Lib.hid hka
  clear h0 hBc hBt hV hka
  go_enter Try.func19, Try.ntmps19
  go_wp2_with fail
  refine HWR.out.mono ?_
  rintro e w1 ⟨rfl, k1⟩
  obtain ⟨hBc, hBt, hV⟩ := HRows.out _ k1
  have HK1 := Lib.hid (HKA.out.trans k1)
  have RBc := Lib.hid hBc
  have RBt := Lib.hid hBt
  have RV := Lib.hid hV
  clear hBc hBt hV k1 HRows HKA HWR
  generalize w.heap.size + 1 + 1 = V at RV ⊢
  generalize w.heap.size + 1 = Bt at RBt ⊢
  generalize w.heap.size = Bc at RBc ⊢
  have p0 := RBc.out.cell 0 rfl
  have p1 := RBt.out.cell 0 rfl
  have HS1 := Lib.hid (fun w' (k : Kept w1 w') => show w'.cell? ⟨Bc, 0, none⟩ = some (.slice A1 nc c1) ∧ w'.cell? ⟨Bt, 0, none⟩ = some (.slice A2 nt c2) ∧ Kept w1 w' from ⟨(RBc.out.kept k).cell 0 rfl, (RBt.out.kept k).cell 0 rfl, k⟩)
  go_wp2_with fail
  clear p0 p1
  apply share4 (H := fun w2 M F O => Kept w1 w2 ∧ Row w w2 M 24 (labsV nc fun _ => (0, 0#32)) ∧ Row w w2 F 22 (rowsV nt fun _ => 0#32) ∧ Row w w2 O 41 [.slice none 0 0, .slice (some ⟨M, 0, none⟩) nc nc, .slice (some ⟨F, 0, none⟩) nt nt] ∧ O ≠ V)
  case main =>
    intro key
    go_region_held3 (fun w' => w'.cell? ⟨Bc, 0, none⟩ = some (.slice A1 nc c1) ∧ w'.cell? ⟨Bt, 0, none⟩ = some (.slice A2 nt c2) ∧ Kept w1 w')
      ((refine HS1.out _ ?_; repeat first | exact Kept.refl _ | refine Kept.alloc ?_ _ | refine Kept.drew ?_ | refine Kept.setCell ?_ (by simp) _))
      ((fail))
    all_goals
     rename_i hHeld
     clear hHeld
     first
     | (obtain ⟨w2, hw2⟩ : ∃ w2, (((w1.alloc (.cells (labsV nc fun _ => (0, 0#32)).toArray 24)).alloc (.cells (rowsV nt fun _ => 0#32).toArray 22)).alloc (.cells #[.slice none 0 0, .slice (some ⟨w1.heap.size, 0, none⟩) nc nc, .slice (some ⟨w1.heap.size + 1, 0, none⟩) nt nt] 41)).drew = w2 := ⟨_, rfl⟩
        rw [hw2]
        have hk2 : Kept w1 w2 := hw2 ▸ ((((Kept.refl w1).alloc _).alloc _).alloc _).drew
        have h3 := three_rows HK1.out rfl (labsV nc fun _ => (0, 0#32)) (rowsV nt fun _ => 0#32) [.slice none 0 0, .slice (some ⟨w1.heap.size, 0, none⟩) nc nc, .slice (some ⟨w1.heap.size + 1, 0, none⟩) nt nt] 24 22 41
        rw [show _ = w2 from hw2] at h3
        obtain ⟨rL, rW, rO⟩ := h3
        have hov : w1.heap.size + 1 + 1 ≠ V := by have := RV.out.lt; omega
        generalize w1.heap.size + 1 + 1 = O at rL rW rO hov ⊢
        generalize w1.heap.size + 1 = F at rL rW rO ⊢
        generalize w1.heap.size = M at rL rW rO ⊢
        exact key w2 M F O ⟨hk2, rL, rW, rO, hov⟩)
     | (obtain ⟨w2, hw2⟩ : ∃ w2, (((w1.alloc (.cells (labsV nc fun _ => (0, 0#32)).toArray 24)).alloc (.cells #[.slice none 0 0, .slice (some ⟨w1.heap.size, 0, none⟩) nc nc, .slice (some ⟨w1.heap.size + 1 + 1, 0, none⟩) nt nt] 41)).alloc (.cells (rowsV nt fun _ => 0#32).toArray 22)).drew = w2 := ⟨_, rfl⟩
        rw [hw2]
        have hk2 : Kept w1 w2 := hw2 ▸ ((((Kept.refl w1).alloc _).alloc _).alloc _).drew
        have h3 := three_rows HK1.out rfl (labsV nc fun _ => (0, 0#32)) [.slice none 0 0, .slice (some ⟨w1.heap.size, 0, none⟩) nc nc, .slice (some ⟨w1.heap.size + 1 + 1, 0, none⟩) nt nt] (rowsV nt fun _ => 0#32) 24 41 22
        rw [show _ = w2 from hw2] at h3
        obtain ⟨rL, rO, rW⟩ := h3
        generalize w1.heap.size + 1 + 1 = F at rL rW rO ⊢
        have hov : w1.heap.size + 1 ≠ V := by have := RV.out.lt; omega
        generalize w1.heap.size + 1 = O at rL rW rO hov ⊢
        generalize w1.heap.size = M at rL rW rO ⊢
        exact key w2 M F O ⟨hk2, rL, rW, rO, hov⟩)
     | (obtain ⟨w2, hw2⟩ : ∃ w2, (((w1.alloc (.cells (rowsV nt fun _ => 0#32).toArray 22)).alloc (.cells (labsV nc fun _ => (0, 0#32)).toArray 24)).alloc (.cells #[.slice none 0 0, .slice (some ⟨w1.heap.size + 1, 0, none⟩) nc nc, .slice (some ⟨w1.heap.size, 0, none⟩) nt nt] 41)).drew = w2 := ⟨_, rfl⟩
        rw [hw2]
        have hk2 : Kept w1 w2 := hw2 ▸ ((((Kept.refl w1).alloc _).alloc _).alloc _).drew
        have h3 := three_rows HK1.out rfl (rowsV nt fun _ => 0#32) (labsV nc fun _ => (0, 0#32)) [.slice none 0 0, .slice (some ⟨w1.heap.size + 1, 0, none⟩) nc nc, .slice (some ⟨w1.heap.size, 0, none⟩) nt nt] 22 24 41
        rw [show _ = w2 from hw2] at h3
        obtain ⟨rW, rL, rO⟩ := h3
        have hov : w1.heap.size + 1 + 1 ≠ V := by have := RV.out.lt; omega
        generalize w1.heap.size + 1 + 1 = O at rL rW rO hov ⊢
        generalize w1.heap.size + 1 = M at rL rW rO ⊢
        generalize w1.heap.size = F at rL rW rO ⊢
        exact key w2 M F O ⟨hk2, rL, rW, rO, hov⟩)
     | (obtain ⟨w2, hw2⟩ : ∃ w2, (((w1.alloc (.cells (rowsV nt fun _ => 0#32).toArray 22)).alloc (.cells #[.slice none 0 0, .slice (some ⟨w1.heap.size + 1 + 1, 0, none⟩) nc nc, .slice (some ⟨w1.heap.size, 0, none⟩) nt nt] 41)).alloc (.cells (labsV nc fun _ => (0, 0#32)).toArray 24)).drew = w2 := ⟨_, rfl⟩
        rw [hw2]
        have hk2 : Kept w1 w2 := hw2 ▸ ((((Kept.refl w1).alloc _).alloc _).alloc _).drew
        have h3 := three_rows HK1.out rfl (rowsV nt fun _ => 0#32) [.slice none 0 0, .slice (some ⟨w1.heap.size + 1 + 1, 0, none⟩) nc nc, .slice (some ⟨w1.heap.size, 0, none⟩) nt nt] (labsV nc fun _ => (0, 0#32)) 22 41 24
        rw [show _ = w2 from hw2] at h3
        obtain ⟨rW, rO, rL⟩ := h3
        generalize w1.heap.size + 1 + 1 = M at rL rW rO ⊢
        have hov : w1.heap.size + 1 ≠ V := by have := RV.out.lt; omega
        generalize w1.heap.size + 1 = O at rL rW rO hov ⊢
        generalize w1.heap.size = F at rL rW rO ⊢
        exact key w2 M F O ⟨hk2, rL, rW, rO, hov⟩)
     | (obtain ⟨w2, hw2⟩ : ∃ w2, (((w1.alloc (.cells #[.slice none 0 0, .slice (some ⟨w1.heap.size + 1, 0, none⟩) nc nc, .slice (some ⟨w1.heap.size + 1 + 1, 0, none⟩) nt nt] 41)).alloc (.cells (labsV nc fun _ => (0, 0#32)).toArray 24)).alloc (.cells (rowsV nt fun _ => 0#32).toArray 22)).drew = w2 := ⟨_, rfl⟩
        rw [hw2]
        have hk2 : Kept w1 w2 := hw2 ▸ ((((Kept.refl w1).alloc _).alloc _).alloc _).drew
        have h3 := three_rows HK1.out rfl [.slice none 0 0, .slice (some ⟨w1.heap.size + 1, 0, none⟩) nc nc, .slice (some ⟨w1.heap.size + 1 + 1, 0, none⟩) nt nt] (labsV nc fun _ => (0, 0#32)) (rowsV nt fun _ => 0#32) 41 24 22
        rw [show _ = w2 from hw2] at h3
        obtain ⟨rO, rL, rW⟩ := h3
        generalize w1.heap.size + 1 + 1 = F at rL rW rO ⊢
        generalize w1.heap.size + 1 = M at rL rW rO ⊢
        have hov : w1.heap.size ≠ V := by have := RV.out.lt; omega
        generalize w1.heap.size = O at rL rW rO hov ⊢
        exact key w2 M F O ⟨hk2, rL, rW, rO, hov⟩)
     | (obtain ⟨w2, hw2⟩ : ∃ w2, (((w1.alloc (.cells #[.slice none 0 0, .slice (some ⟨w1.heap.size + 1 + 1, 0, none⟩) nc nc, .slice (some ⟨w1.heap.size + 1, 0, none⟩) nt nt] 41)).alloc (.cells (rowsV nt fun _ => 0#32).toArray 22)).alloc (.cells (labsV nc fun _ => (0, 0#32)).toArray 24)).drew = w2 := ⟨_, rfl⟩
        rw [hw2]
        have hk2 : Kept w1 w2 := hw2 ▸ ((((Kept.refl w1).alloc _).alloc _).alloc _).drew
        have h3 := three_rows HK1.out rfl [.slice none 0 0, .slice (some ⟨w1.heap.size + 1 + 1, 0, none⟩) nc nc, .slice (some ⟨w1.heap.size + 1, 0, none⟩) nt nt] (rowsV nt fun _ => 0#32) (labsV nc fun _ => (0, 0#32)) 41 22 24
        rw [show _ = w2 from hw2] at h3
        obtain ⟨rO, rW, rL⟩ := h3
        generalize w1.heap.size + 1 + 1 = M at rL rW rO ⊢
        generalize w1.heap.size + 1 = F at rL rW rO ⊢
        have hov : w1.heap.size ≠ V := by have := RV.out.lt; omega
        generalize w1.heap.size = O at rL rW rO hov ⊢
        exact key w2 M F O ⟨hk2, rL, rW, rO, hov⟩)
  case key =>
    intro w2 M F O hk
    obtain ⟨hk2, rM, rF, rO, hov⟩ := hk
    have HOV := Lib.hid hov
    clear hov
    have qBc := RBc.out.kept hk2
    have qBt := RBt.out.kept hk2
    have qV := RV.out.kept hk2
    have p1 := qBt.cell 0 rfl
    clear HS1 hk2
    go_wp2_with fail
    go_loopw [33] (fun t wr => ∃ i : Nat, i ≤ nt ∧ t = .int .i64 i ∧ Row w wr Bc 36 [.slice A1 nc c1] ∧ Row w wr Bt 36 [.slice A2 nt c2] ∧ Row w wr V 41 [.slice none 0 0, .slice none 0 0, .slice none 0 0] ∧ Row w wr M 24 (labsV nc fun _ => (0, 0#32)) ∧ Row w wr F 22 (rowsV nt (fillU i)) ∧ Row w wr O 41 [.slice none 0 0, .slice (some ⟨M, 0, none⟩) nc nc, .slice (some ⟨F, 0, none⟩) nt nt]) (fun t _ => nt - (intOf t).toNat)
    case atStart => exact ⟨0, Nat.zero_le _, rfl, qBc, qBt, qV, rM, by rw [fillU_zero]; exact rF, rO⟩
    case round =>
      clear qBc qBt qV rM rF rO p1
      obtain ⟨i, hi, rfl, hBc, hBt, hV, hM, hF, hO⟩ := hrel
      by_cases hlti : i < nt
      · have hi1 : (0 : Int) ≤ (i : Int) := by omega
        have hi2 : (i : Int) < (nt : Int) := by omega
        have HBc := Lib.hid hBc
        have HBt := Lib.hid hBt
        have HV := Lib.hid hV
        have HM := Lib.hid hM
        have HF := Lib.hid hF
        have HO := Lib.hid hO
        have o2 := hO.cell 2 rfl
        have fc := hF.cell i (rowsV_at (fillU i) hlti)
        have ff := hF.free i
        clear hBc hBt hV hM hF hO
        go_wp2_with fail
        go_still_tail 6, (by kernel_rfl)
        go_wp2_with fail
        go_roundw
        case rel => exact ⟨i + 1, by omega, by go_num, (HBc.out.other (p := ⟨F, i, none⟩) _ (row_neL HBc.out HF.out (by decide)) HF.out.2.1).drew, (HBt.out.other (p := ⟨F, i, none⟩) _ (row_neL HBt.out HF.out (by decide)) HF.out.2.1).drew, (HV.out.other (p := ⟨F, i, none⟩) _ (row_neL HV.out HF.out (by decide)) HF.out.2.1).drew, (HM.out.other (p := ⟨F, i, none⟩) _ (row_neL HM.out HF.out (by decide)) HF.out.2.1).drew, by
          have h := HF.out.set i (.int .u32 (W (1#32 <<< i)))
          rw [rowsV_upd, fillU_succ] at h
          exact h.drew, (HO.out.other (p := ⟨F, i, none⟩) _ (row_neL HO.out HF.out (by decide)) HF.out.2.1).drew⟩
        case measure => simp [intOf]; omega
      · obtain rfl : i = nt := by omega
        rw [fillU_done] at hF
        have p0 := hBc.cell 0 rfl
        have hkw := (((Kept.refl wr).alloc (.cells (rowsV nc fun _ => 0#32).toArray 22)).alloc (.cells #[.slice (some ⟨wr.heap.size, 0, none⟩) nc nc] 39))
        have rK := (Row.new hBc.kept0 22 (rowsV nc fun _ => 0#32) _ rfl).kept ((Kept.refl _).alloc (.cells #[.slice (some ⟨wr.heap.size, 0, none⟩) nc nc] 39))
        have rBk := Row.new (hBc.kept0.alloc (.cells (rowsV nc fun _ => 0#32).toArray 22)) 39 [.slice (some ⟨wr.heap.size, 0, none⟩) nc nc] (wr.heap.size + 1) (by simp)
        have hst0 : MkSt w _ Bc Bt O (wr.heap.size + 1) M F wr.heap.size V A1 A2 nc c1 i c2 (.slice none 0 0) mark0 := ⟨hBc.kept hkw, hBt.kept hkw, hO.kept hkw, rBk, hM.kept hkw, hF.kept hkw, rK, by have := hF.lt; omega, hV.kept hkw, HOV.out⟩
        have HDI := Lib.hid (fun w' (k : Kept w w') => hd.kept k)
        have HDL := Lib.hid hd.2
        have HS1 := Lib.hid s1
        have HS2 := Lib.hid s2
        have HSN := Lib.hid (fun k h => stOf_snoc (markDo nc i (lab clear) (lab things)) mark0 ds k h)
        have HCN := Lib.hid (fun k h => codesOf_snoc (markDo nc i (lab clear) (lab things)) mark0 ds k h)
        have HC0 := Lib.hid (show codesOf (markDo nc i (lab clear) (lab things)) mark0 (ds.take 0) = [] from rfl)
        have HS0 := Lib.hid (show stOf (markDo nc i (lab clear) (lab things)) mark0 (ds.take 0) = mark0 from rfl)
        obtain ⟨stq, hstq⟩ : ∃ stq : Nat → MSt, ∀ q, stOf (markDo nc i (lab clear) (lab things)) mark0 (ds.take q) = stq q := ⟨_, fun _ => rfl⟩
        obtain ⟨cdq, hcdq⟩ : ∃ cdq : Nat → List Int, ∀ q, codesOf (markDo nc i (lab clear) (lab things)) mark0 (ds.take q) = cdq q := ⟨_, fun _ => rfl⟩
        simp only [hstq] at HSN HS0 HCN
        simp only [hcdq] at HCN HC0
        have HSTQ := Lib.hid hstq
        have HCDQ := Lib.hid hcdq
        clear hstq hcdq hBc hBt hV hM hF hO rK rBk hkw
        go_wp2_with fail
        generalize wr.heap.size + 1 = Bk at hst0 ⊢
        generalize wr.heap.size = K at hst0 ⊢
        go_loopw [49] (fun t wr2 => ∃ (q : Nat) (VC : Value), q ≤ nd ∧ t = .int .i64 q ∧ MkSt w wr2 Bc Bt O Bk M F K V A1 A2 nc c1 i c2 VC (stq q) ∧ Own w wr2 25 1 VC q ((cdq q).map iv)) (fun t _ => nd - (intOf t).toNat)
        case atStart => exact ⟨0, _, Nat.zero_le _, rfl, by rw [HS0.out]; exact hst0, by rw [HC0.out]; exact Own.start hst0.bc.kept0⟩
        case round =>
          clear hst0
          obtain ⟨q, VC, hq, rfl, hst, hco⟩ := hrel
          by_cases hltq : q < nd
          · obtain ⟨AC, cC, rfl, _, _⟩ := hco.form
            obtain ⟨b, off, hkq, rfl, hb, d0, d1, d2, d3, d4, d5⟩ := (HDI.out _ hst.bc.kept0).get q hltq
            have HSQ := Lib.hid (HSN.out q hkq)
            have HCQ := Lib.hid (HCN.out q hkq)
            generalize ds[q] = d at d0 d1 d2 d3 d4 d5 HSQ HCQ
            obtain ⟨kd, by_, to_, lv, pt, vl⟩ := d
            simp only at d0 d1 d2 d3 d4 d5
            have hq1 : (0 : Int) ≤ (q : Int) := by omega
            have hq2 : (q : Int) < (nd : Int) := by omega
            have hka := (Kept.refl wr).alloc (.cells #[.int .i64 kd, .int .i64 by_, .int .i64 to_, .int .i64 lv, .int .u32 (W pt), .int .i64 vl] 75)
            have HDO := Lib.hid (fun w' (k : Kept (wr.alloc (.cells #[.int .i64 kd, .int .i64 by_, .int .i64 to_, .int .i64 lv, .int .u32 (W pt), .int .i64 vl] 75)) w') => mk_any Bc Bt O Bk M F K V A1 A2 nc c1 i c2 (.slice AC q cC) (stq q) clear things (kd, by_, to_, lv, pt, vl) w w' ((hst.kept hka).kept k) HS1.out HS2.out)
            obtain ⟨r, hr⟩ : ∃ r, markDo nc i (lab clear) (lab things) (stq q) (kd, by_, to_, lv, pt, vl) = r := ⟨_, rfl⟩
            rw [hr] at HDO HSQ HCQ
            clear hr
            obtain ⟨code, sn⟩ := r
            have HCO := Lib.hid (hco.kept hka)
            have bx := Box.new wr #[.int .i64 kd, .int .i64 by_, .int .i64 to_, .int .i64 lv, .int .u32 (W pt), .int .i64 vl] 75 wr.heap.size rfl
            have x0 := bx.at_ 0 rfl
            have x1 := bx.at_ 1 rfl
            have x2 := bx.at_ 2 rfl
            have x3 := bx.at_ 3 rfl
            have x4 := bx.at_ 4 rfl
            have x5 := bx.at_ 5 rfl
            have o0 := (hst.kept hka).ot.cell 0 rfl
            clear bx hst hco hka
            go_wp2_with fail
            go_region_law
              (first
               | (go_simp; go_at_call 45
                  refine (HDO.out _ (by repeat first | with_reducible exact Kept.refl _ | with_reducible refine Kept.drew ?_ | with_reducible refine Kept.alloc ?_ _)).mono ?_
                  rintro e w6 ⟨rfl, hw6, hkeep⟩
                  have HW6 := Lib.hid hw6
                  have CO6 := Lib.hid (hkeep _ _ _ (HCO.out.kept (by repeat first | with_reducible exact Kept.refl _ | with_reducible refine Kept.drew ?_ | with_reducible refine Kept.alloc ?_ _)))
                  have o0 := hw6.ot.cell 0 rfl
                  have o0a := (hw6.kept ((Kept.refl w6).alloc (.cells #[.int .i64 code] 25))).ot.cell 0 rfl
                  clear hw6 hkeep)
               | (refine step_pushAt (by rfl) _ _ 38 (by rfl) (.slice AC q cC) (by rfl) _ 1 1 (by rfl) 25 Try.underlying38 info_errno rfl (by decide) (by decide) _ q ((cdq q).map iv) (CO6.out.kept (by repeat first | with_reducible exact Kept.refl _ | with_reducible refine Kept.drew ?_ | with_reducible refine Kept.alloc ?_ _)) #[.int .i64 code] (own_slL (Own.made HW6.out.ot.kept0 25 #[.int .i64 code] 1 1 _ rfl rfl (by decide))) (by intro u hu; simp at hu; subst hu; rfl) (by decide) (by omega) ?_
                  intro v7 w7 hown7 hgr7 hat7
                  have HW7 := Lib.hid (MkSt.grown (HW6.out.kept ((Kept.refl w6).alloc (.cells #[.int .i64 code] 25))) (CO6.out.alloc (.cells #[.int .i64 code] 25)) hgr7)
                  have O7 := Lib.hid hown7
                  obtain ⟨A7, c7, rfl, _, _⟩ := hown7.form
                  have o0 := HW7.out.ot.cell 0 rfl
                  have f0 := HW7.out.ot.free 0
                  have hsl := HW7.out.ot.lt
                  clear hown7 hgr7 hat7))
            all_goals
              go_wp2_with fail
              go_roundw
              case rel => exact ⟨q + 1, .slice A7 (q + 1) c7, by omega, by go_num, by rw [HSQ.out]; exact HW7.out.setO _, by rw [HCQ.out, List.map_append]; exact O7.out.setRow HW7.out.ot (by decide) 0 _⟩
              case measure => simp [intOf]; omega
          · obtain rfl : q = nd := by omega
            obtain ⟨AC, cC, rfl, _, _⟩ := hco.form
            have HW2 := Lib.hid hst
            have HCO := Lib.hid hco
            have RV := Lib.hid hst.vr
            have o0 := hst.ot.cell 0 rfl
            have o1 := hst.ot.cell 1 rfl
            have o2 := hst.ot.cell 2 rfl
            have v0 := RV.out.cell 0 rfl
            have v1 := RV.out.cell 1 rfl
            have v2 := RV.out.cell 2 rfl
            have f0 := RV.out.free 0
            have f1 := RV.out.free 1
            have f2 := RV.out.free 2
            clear hst hco
            have HOV2 := HOV.out
            have R1 := Lib.hid (RV.out.set 0 (.slice AC q cC))
            have R2 := Lib.hid (R1.out.set 1 (.slice (some ⟨M, 0, none⟩) nc nc))
            have R3 := Lib.hid (R2.out.set 2 (.slice (some ⟨F, 0, none⟩) i i))
            have MM4 := Lib.hid (((HW2.out.mr.other (p := ⟨V, 0, none⟩) (.slice AC q cC) (row_neL HW2.out.mr RV.out (by decide)) RV.out.2.1).other (p := ⟨V, 1, none⟩) (.slice (some ⟨M, 0, none⟩) nc nc) (row_neL HW2.out.mr RV.out (by decide)) RV.out.2.1).other (p := ⟨V, 2, none⟩) (.slice (some ⟨F, 0, none⟩) i i) (row_neL HW2.out.mr RV.out (by decide)) RV.out.2.1)
            have FF4 := Lib.hid (((HW2.out.fr.other (p := ⟨V, 0, none⟩) (.slice AC q cC) (row_neL HW2.out.fr RV.out (by decide)) RV.out.2.1).other (p := ⟨V, 1, none⟩) (.slice (some ⟨M, 0, none⟩) nc nc) (row_neL HW2.out.fr RV.out (by decide)) RV.out.2.1).other (p := ⟨V, 2, none⟩) (.slice (some ⟨F, 0, none⟩) i i) (row_neL HW2.out.fr RV.out (by decide)) RV.out.2.1)
            have CC4 := Lib.hid (((HCO.out.setRow RV.out (by decide) 0 (.slice AC q cC)).setRow R1.out (by decide) 1 (.slice (some ⟨M, 0, none⟩) nc nc)).setRow R2.out (by decide) 2 (.slice (some ⟨F, 0, none⟩) i i))
            have Y0 := Lib.hid (R3.out.cell 0 rfl)
            have Y1 := Lib.hid (R3.out.cell 1 rfl)
            have Y2 := Lib.hid (R3.out.cell 2 rfl)
            have HE1 := Lib.hid (HSTQ.out q)
            have HE2 := Lib.hid (HCDQ.out q)
            rw [List.take_of_length_le (by rw [HDL.out]; exact Nat.le_refl _)] at HE1 HE2
            have HLC := Lib.hid (show (cdq q).length = q by rw [← HE2.out, codesOf_length, HDL.out])
            have FIN := Lib.hid (show Kept w ((((wr.setCell ⟨V, 0, none⟩ (.slice AC q cC)).setCell ⟨V, 1, none⟩ (.slice (some ⟨M, 0, none⟩) nc nc)).setCell ⟨V, 2, none⟩ (.slice (some ⟨F, 0, none⟩) i i))) ∧ MarkedC ((((wr.setCell ⟨V, 0, none⟩ (.slice AC q cC)).setCell ⟨V, 1, none⟩ (.slice (some ⟨M, 0, none⟩) nc nc)).setCell ⟨V, 2, none⟩ (.slice (some ⟨F, 0, none⟩) i i))) nc i q (codesOf (markDo nc i (lab clear) (lab things)) mark0 ds) (stOf (markDo nc i (lab clear) (lab things)) mark0 ds) (.returned (.tuple #[.agg #[.slice AC q cC, .slice (some ⟨M, 0, none⟩) nc nc, .slice (some ⟨F, 0, none⟩) i i], .int .i64 0])) from
              ⟨R3.out.kept0, AC, some ⟨M, 0, none⟩, some ⟨F, 0, none⟩, cC, nc, i, own_cap CC4.out (by decide), rfl, ⟨by rw [HE2.out]; exact own_slL CC4.out, by rw [HE2.out]; exact HLC.out⟩, ⟨by rw [HE1.out]; exact MM4.out.slN 2 nc (labsV_length _ _), by simp⟩, ⟨by rw [HE1.out, rowsV_words]; exact FF4.out.slN 1 i (by simp [rowsV]), by simp⟩⟩)
            go_wp2_with fail
            exact bodyPost_ret (v := .tuple #[.agg #[.slice AC q cC, .slice (some ⟨M, 0, none⟩) nc nc, .slice (some ⟨F, 0, none⟩) i i], .int .i64 0]) (by simp [results, Try.results19, go_sem, Y0.out, Y1.out, Y2.out]) rfl FIN.out
theorem mplay_good (A1 : Option Addr) (nc c1 : Nat) (clear : List Lab) (A2 : Option Addr) (nt c2 : Nat) (things : List Lab) (A3 : Option Addr) (nd c3 : Nat) (ds : List De) (w : World) (s1 : SlLab w A1 nc clear) (s2 : SlLab w A2 nt things) (hd : SlD w A3 nd ds) (h0 : marksF clear things nd = 0) (hn1 : 1 ≤ nc) (hn5 : nc ≤ 5) (hn8 : nt ≤ 8) (hn30 : nd ≤ 30) :
    Calls Try.prog 19 #[.slice A1 nc c1, .slice A2 nt c2, .slice A3 nd c3] w fun e w' => Kept w w' ∧ Marked2 w' nc nt nd (codesOf (markDo nc nt (lab clear) (lab things)) mark0 ds) (stOf (markDo nc nt (lab clear) (lab things)) mark0 ds) e :=
  (mplay_goodC A1 nc c1 clear A2 nt c2 things A3 nd c3 ds w s1 s2 hd h0 hn1 hn5 hn8 hn30).mono fun e w' ⟨h1, h2⟩ => ⟨h1, h2.two⟩
end Go.Proofs.Ytnnddjanbfamkaa
