/- The walk of pen.put where the place is found. -/
import Derived.Test.YtjcooagchjjknaaPen1
import Derived.Deep.RegionHeld3
namespace Go.Proofs.Ytjcooagchjjknaa
open Go Go.RowKit Go.Lib
set_option linter.unusedVariables false

theorem Own.baseP {w w1 w2 : World} {E : TypeId} {s n : Nat} {v : Value} {xs : List Value} (h : Own w1 w2 E s v n xs) (k : Kept w w1) : Own w w2 E s v n xs := by
  refine ⟨⟨h.1.1, ?_⟩, k.trans h.2⟩
  rcases h.1.2 with hn | ⟨g, cap, cur, hv, hb, rest⟩
  · exact .inl hn
  · exact .inr ⟨g, cap, cur, hv, Nat.le_trans k.size hb, rest⟩
theorem Row.baseP {w w1 w2 : World} {B : Nat} {e : TypeId} {xs : List Value} (h : Row w1 w2 B e xs) (k : Kept w w1) : Row w w2 B e xs := ⟨h.1, Nat.le_trans k.size h.2.1, k.trans h.2.2⟩
theorem ownP_step (ls : List Lf) (who : Lab) (k : Nat) : cntI (ownP ls who) (k + 1) = cntI (ownP ls who) k + if ownP ls who k then 1 else 0 := rfl
/-! ### the shift, leaf by leaf -/
def rawL (ls : List Lf) (a : Nat) (x : Lf) : List Lf := ls.take a ++ [x] ++ ls.drop a
def shTo (rs : List Lf) (a j : Nat) : List Lf := (List.range rs.length).map fun i => if a < i ∧ i < j then shiftU a (lfAt rs i) else lfAt rs i
theorem raw_len {ls : List Lf} {a : Nat} {x : Lf} (ha : a ≤ ls.length) : (rawL ls a x).length = ls.length + 1 := by unfold rawL; simp; omega
theorem lfAt_get (ls : List Lf) (i : Nat) : lfAt ls i = ls[i]?.getD (0, 0, 0, 0#32) := by
  unfold lfAt
  first
  | rfl
  | rw [List.getD_eq_getElem?_getD]
theorem shTo_len (rs : List Lf) (a j : Nat) : (shTo rs a j).length = rs.length := by unfold shTo; simp
theorem shTo_at {rs : List Lf} {a j i : Nat} (hi : i < rs.length) : lfAt (shTo rs a j) i = if a < i ∧ i < j then shiftU a (lfAt rs i) else lfAt rs i := by
  rw [lfAt_get]
  unfold shTo
  rw [List.getElem?_map, List.getElem?_range hi]
  rfl
theorem shTo_start (rs : List Lf) (a : Nat) : shTo rs a (a + 1) = rs := by
  apply lf_ext (shTo_len _ _ _)
  intro i hi
  rw [shTo_len] at hi
  rw [shTo_at hi, if_neg (by omega)]
theorem raw_at {ls : List Lf} {a : Nat} {x : Lf} (ha : a ≤ ls.length) (j : Nat) : lfAt (rawL ls a x) j = if j < a then lfAt ls j else if j = a then x else lfAt ls (j - 1) := by
  rw [lfAt_get]
  unfold rawL
  by_cases h1 : j < a
  · rw [if_pos h1, List.append_assoc, List.getElem?_append_left (by rw [List.length_take]; omega), List.getElem?_take, if_pos h1, lfAt_get]
  · rw [if_neg h1]
    by_cases h2 : j = a
    · subst h2
      rw [if_pos rfl, List.append_assoc, List.getElem?_append_right (by rw [List.length_take]; omega), List.length_take, show j - min j ls.length = 0 by omega]
      rfl
    · rw [if_neg h2, List.getElem?_append_right (by rw [List.length_append, List.length_take]; show _ + 1 ≤ _; omega), List.length_append, List.length_take, List.getElem?_drop, lfAt_get,
        show a + (j - (min a ls.length + [x].length)) = j - 1 by show a + (j - (min a ls.length + 1)) = j - 1; omega]
theorem shTo_done {ls : List Lf} {a : Nat} {x : Lf} (ha : a ≤ ls.length) : shTo (rawL ls a x) a (ls.length + 1) = putL ls a x := by
  have hl := raw_len (x := x) ha
  apply lf_ext (by rw [shTo_len, hl, put_len ha])
  intro i hi
  rw [shTo_len] at hi
  rw [shTo_at hi]
  rw [raw_at ha]
  by_cases h1 : i < a
  · rw [if_neg (by omega), if_pos h1, put_lo ha h1]
  · by_cases h2 : i = a
    · subst h2
      rw [if_neg (by omega), if_neg (by omega), if_pos rfl, put_at ha]
    · rw [if_pos (by omega), if_neg h1, if_neg h2]
      have := put_hi (ls := ls) (x := x) ha (i := i - 1) (by omega) (by omega)
      rw [show i - 1 + 1 = i by omega] at this
      exact this.symm
theorem lfCells_set : ∀ (ls : List Lf) (k : Nat) (u : Int), k < ls.length → (lfCells ls).set (k * 4) (.int .i64 u) = lfCells (ls.set k (u, (lfAt ls k).2))
  | [], k, u, h => absurd h (Nat.not_lt_zero _)
  | x :: l, 0, u, _ => rfl
  | x :: l, k + 1, u, h => by
    have ih := lfCells_set l k u (Nat.lt_of_succ_lt_succ h)
    have e : lfAt (x :: l) (k + 1) = lfAt l k := rfl
    rw [e]
    show (lfv x ++ lfCells l).set _ _ = lfv x ++ lfCells _
    rw [← ih, List.set_append_right _ _ (by show 4 ≤ _; omega)]
    congr 2
    show (k + 1) * 4 - 4 = k * 4
    omega
theorem lfAt_set {ls : List Lf} {k i : Nat} {x : Lf} (hi : i < ls.length) : lfAt (ls.set k x) i = if i = k then x else lfAt ls i := by
  rw [lfAt_get, lfAt_get, List.getElem?_set]
  by_cases h : i = k
  · subst h
    simp [hi]
  · rw [if_neg (fun e => h e.symm), if_neg h]
theorem shTo_yes {rs : List Lf} {a j : Nat} (hj : j < rs.length) (haj : a < j) (hu : (a : Int) ≤ (lfAt rs j).1) : (shTo rs a j).set j ((lfAt rs j).1 + 1, (lfAt (shTo rs a j) j).2) = shTo rs a (j + 1) := by
  apply lf_ext (by rw [List.length_set, shTo_len, shTo_len])
  intro i hi
  rw [List.length_set, shTo_len] at hi
  have e2 : (lfAt (shTo rs a j) j) = lfAt rs j := by rw [shTo_at hj, if_neg (by omega)]
  rw [lfAt_set (by rw [shTo_len]; exact hi), e2, shTo_at hi, shTo_at hi]
  by_cases e : i = j
  · subst e
    rw [if_pos rfl, if_pos (by omega)]
    unfold shiftU
    rw [if_pos hu]
  · rw [if_neg e]
    by_cases h : a < i ∧ i < j
    · rw [if_pos h, if_pos (by omega)]
    · rw [if_neg h, if_neg (by omega)]
theorem shTo_no {rs : List Lf} {a j : Nat} (hj : j < rs.length) (hu : ¬ (a : Int) ≤ (lfAt rs j).1) : shTo rs a j = shTo rs a (j + 1) := by
  apply lf_ext (by rw [shTo_len, shTo_len])
  intro i hi
  rw [shTo_len] at hi
  rw [shTo_at hi, shTo_at hi]
  by_cases e : i = j
  · subst e
    rw [if_neg (by omega)]
    by_cases h : a < i ∧ i < i + 1
    · rw [if_pos h]
      unfold shiftU
      rw [if_neg hu]
    · rw [if_neg h]
  · by_cases h : a < i ∧ i < j
    · rw [if_pos h, if_pos (by omega)]
    · rw [if_neg h, if_neg (by omega)]
theorem shTo_cur {rs : List Lf} {a j : Nat} (hj : j < rs.length) : lfAt (shTo rs a j) j = lfAt rs j := by rw [shTo_at hj, if_neg (by omega)]
theorem raw_cells (ls : List Lf) (a : Nat) (x : Lf) : (lfCells ls).take (a * 4) ++ lfv x ++ (lfCells ls).drop (a * 4) = lfCells (rawL ls a x) := by
  have h1 : ∀ (l : List Lf) (k : Nat), (lfCells l).take (k * 4) = lfCells (l.take k) := by
    intro l
    induction l with
    | nil => intro k; simp [lfCells]
    | cons y l ih =>
      intro k
      cases k with
      | zero => simp [lfCells]
      | succ k =>
        show (lfv y ++ lfCells l).take _ = lfv y ++ lfCells (l.take k)
        rw [← ih k, show (k + 1) * 4 = (lfv y).length + k * 4 by show _ = 4 + _; omega, List.take_length_add_append]
  have h2 : ∀ (l : List Lf) (k : Nat), (lfCells l).drop (k * 4) = lfCells (l.drop k) := by
    intro l
    induction l with
    | nil => intro k; simp [lfCells]
    | cons y l ih =>
      intro k
      cases k with
      | zero => simp [lfCells]
      | succ k =>
        show (lfv y ++ lfCells l).drop _ = lfCells (l.drop k)
        rw [← ih k, show (k + 1) * 4 = (lfv y).length + k * 4 by show _ = 4 + _; omega, List.drop_length_add_append]
  rw [h1, h2]
  unfold rawL lfCells
  simp
theorem Row.sl4 {w0 w : World} {B : Nat} {e : TypeId} {xs : List Value} {s n : Nat} (h : Row w0 w B e xs) (hn : xs.length = n * s) : Sl w s (some ⟨B, 0, none⟩) n xs :=
  ⟨hn, fun _ => ⟨B, 0, rfl, h.lt, fun j v hj => by rw [Nat.zero_add]; exact h.cell j hj⟩⟩
theorem lfv_one (x : Lf) : ∀ u ∈ lfv x, u.oneCell' = true := fun u hu => by
  unfold lfv at hu
  simp at hu
  rcases hu with rfl | rfl | rfl | rfl <;> rfl
theorem ins_any {w0 : World} (v : Value) (n i : Nat) (ls : List Lf) (x : Lf) (vb vc : Nat) (w : World) (ho : Own w0 w 38 4 v n (lfCells ls)) (hv : Row w0 w vb 38 (lfv x)) (hne : v.ownBlock ≠ some vb) (hi : i ≤ n) (hl : ls.length = n) (hn : n ≤ 1000) :
    Calls Try.prog 50 #[v, .int .i64 i, .slice (some ⟨vb, 0, none⟩) 1 vc] w fun e w' => ∃ v', e = .returned v' ∧ Own w0 w' 38 4 v' (n + 1) (lfCells (rawL ls i x)) := by
  by_cases he : i = n
  · subst he
    have e : lfCells (rawL ls i x) = lfCells ls ++ lfv x := by
      unfold rawL
      rw [List.take_of_length_le (by omega), List.drop_eq_nil_of_le (by omega), List.append_nil, lfCells_snoc]
    rw [e]
    exact insEnd_any v i (lfCells ls) (lfv x) vb vc w ho (hv.sl4 rfl) (lfv_one x) hn
  · have h := insMid_any v n i (lfCells ls) (lfv x) vb vc w ho hv rfl hne (lfCells_one ls) (lfv_one x) (by omega) hn
    rw [raw_cells] at h
    exact h
set_option maxRecDepth 100000 in
set_option maxHeartbeats 16000000 in
theorem putX_in (A : Option Addr) (n c : Nat) (ls : List Lf) (kind lv : Int) (pt : BitVec 32) (A2 : Option Addr) (m c2 : Nat) (ps : List Int) (tx : Int) (w : World) (hs : SlL w A n ls) (hp : SlI w A2 m ps) (hn : n ≤ 1000) (hm : m ≤ maxLen) (hmc : m ≤ c2) (hm0 : 0 < m) {bb : Int}
    (hg : goF ls (lv, pt) (-1) ps.dropLast = some bb) (kn : Nat) (hk : ps.getD (ps.length - 1) 0 = kn) (hkl : kn ≤ (belowL ls (lv, pt) bb).length) (hu : UpOk ls) (hb1 : -1 ≤ bb) (hb2 : bb < ls.length) :
    Calls Try.prog 43 #[.slice A n c, .agg (skC kind lv pt A2 m c2 tx)] w (RetPenO w (putF ls (lv, pt) ps tx)) := by
  have HF := Lib.hid (show putF ls (lv, pt) ps tx = if 4 ≤ ownN ls (lv, pt) ∨ 40 ≤ ls.length then (1, []) else (0, putL ls (putAt ls (lv, pt) bb kn) (bb, tx, (lv, pt))) by
    unfold putF
    rw [if_neg (fun h => by rw [h] at hp; have := hp.2; simp at this; omega), hg]
    show putK _ _ _ _ _ = _
    unfold putK
    rw [hk, if_neg (by omega), Int.toNat_natCast])
  have HPA := Lib.hid (putAt_spec (who := (lv, pt)) hu hb1 hb2 hkl)
  have HPD := Lib.hid (show putAt ls (lv, pt) bb kn = if kn = 0 then (bb + 1).toNat else ((belowL ls (lv, pt) bb).getD (kn - 1) 0 + 1).toNat from rfl)
  have HNL := Lib.hid hs.2
  have hka : Kept w (w.alloc (.cells #[.int .i64 kind, .int .i64 lv, .int .u32 (W pt), .slice A2 m c2, .int .i64 tx] 48)) := (Kept.refl _).alloc _
  have bx := Box.new w #[.int .i64 kind, .int .i64 lv, .int .u32 (W pt), .slice A2 m c2, .int .i64 tx] 48 w.heap.size rfl
  have e1 := bx.at_ 1 rfl
  have e2 := bx.at_ 2 rfl
  have e3 := bx.at_ 3 rfl
  have e4 := bx.at_ 4 rfl
  have z1 := kw_cell e1
  have z2 := kw_cell e2
  have z3 := kw_cell e3
  obtain ⟨mm, rfl⟩ : ∃ mm, m = mm + 1 := ⟨m - 1, by omega⟩
  have hp2 : SlI w A2 mm ps.dropLast := by
    have h := hp.take (i := mm) (by omega)
    have e : ps.take mm = ps.dropLast := by rw [← dropLast_take, hp.2]; rfl
    rwa [e] at h
  obtain ⟨b, off, hlk, rfl, hb, ck⟩ := hp.get mm (by omega)
  have HG := Lib.hid hg
  unfold maxLen at hm
  have HS := Lib.hid (fun x : KW (w.alloc (.cells #[.int .i64 kind, .int .i64 lv, .int .u32 (W pt), .slice (some ⟨b, off, none⟩) (mm + 1) c2, .int .i64 tx] 48)) => hs.kept (hka.trans x.kept))
  have HP := Lib.hid (fun x : KW (w.alloc (.cells #[.int .i64 kind, .int .i64 lv, .int .u32 (W pt), .slice (some ⟨b, off, none⟩) (mm + 1) c2, .int .i64 tx] 48)) => hp2.kept (hka.trans x.kept))
  have i1 : (0 : Int) ≤ (mm : Int) := by omega
  have i2 : (mm : Int) ≤ (c2 : Int) := by omega
  have i4 : ((mm + 1 : Nat) : Int) - 1 = (mm : Int) := by omega
  have i5 : IntKind.i64.wrap (mm : Int) = (mm : Int) := by rw [IntKind.wrap_i64]; omega
  have i6 : (mm : Int) < (mm : Int) + 1 := by omega
  have i3 : (((mm + 1 : Nat) : Int) == 0) = false := by simp; omega
  have HPK := Lib.hid (show ps[mm] = (kn : Int) by rw [← hk, show ps.length - 1 = mm by rw [hp.2]; rfl, List.getD_eq_getElem?_getD, List.getElem?_eq_getElem hlk]; rfl)
  obtain ⟨kx, hkx⟩ : ∃ kx : Int, (kn : Int) = kx := ⟨_, rfl⟩
  rw [hkx] at HPK
  unfold skC
  go_enter Try.func43, Try.ntmps43
  go_wp2_with fail
  refine wp_region_kept (by kernel_rfl) (by kernel_rfl) ?_
  repeat (go_big_quiet_step ((go_at_call 38; exact kept_of (go_some HG.out (HS.out _) (HP.out _) hn (by unfold maxLen; omega)))))
  refine wpQuiet_nil ?_
  intro w2 k2
  have q2 := hka.trans k2
  have d1 := (k2.cell (cell_lt e1)).trans e1
  have d2 := (k2.cell (cell_lt e2)).trans e2
  have d3 := (k2.cell (cell_lt e3)).trans e3
  have d4 := (k2.cell (cell_lt e4)).trans e4
  have dk := (q2.cell (cell_lt ck)).trans ck
  have hs2 := Lib.hid (hs.kept q2)
  have Q2 := Lib.hid q2
  have hd1 : (#[Value.int .i64 kind, .int .i64 lv, .int .u32 (W pt), .slice (some ⟨b, off, none⟩) (mm + 1) c2, .int .i64 tx] : Array Value)[1] = .int .i64 lv := rfl
  have hd2 : (#[Value.int .i64 kind, .int .i64 lv, .int .u32 (W pt), .slice (some ⟨b, off, none⟩) (mm + 1) c2, .int .i64 tx] : Array Value)[2] = .int .u32 (W pt) := rfl
  have hd3 : (#[Value.int .i64 kind, .int .i64 lv, .int .u32 (W pt), .slice (some ⟨b, off, none⟩) (mm + 1) c2, .int .i64 tx] : Array Value)[3] = .slice (some ⟨b, off, none⟩) (mm + 1) c2 := rfl
  have hd4 : (#[Value.int .i64 kind, .int .i64 lv, .int .u32 (W pt), .slice (some ⟨b, off, none⟩) (mm + 1) c2, .int .i64 tx] : Array Value)[4] = .int .i64 tx := rfl
  rw [hd1] at d1
  rw [hd2] at d2
  rw [hd3] at d3
  rw [hd4] at d4
  clear hd1 hd2 hd3 hd4 e1 e2 e3 e4 z1 z2 z3 hs hp hp2 hka bx k2 q2 HS HP hg ck
  rw [HPK.out] at dk
  generalize ps[mm] = kk at HPK dk
  generalize w.heap.size = B at d1 d2 d3 d4 ⊢
  have HSW := Lib.hid (fun w' (k : Kept w2 w') => show w'.cell? ⟨B, 1, none⟩ = some (.int .i64 lv) ∧ w'.cell? ⟨B, 2, none⟩ = some (.int .u32 (W pt)) ∧ w'.cell? ⟨B, 3, none⟩ = some (.slice (some ⟨b, off, none⟩) (mm + 1) c2) ∧ w'.cell? ⟨b, off + mm, none⟩ = some (.int .i64 kx) ∧ Kept w2 w' from
    ⟨(k.cell (cell_lt d1)).trans d1, (k.cell (cell_lt d2)).trans d2, (k.cell (cell_lt d3)).trans d3, (k.cell (cell_lt dk)).trans dk, k⟩)
  go_wp2_with fail
  go_region_held3 (fun w' => w'.cell? ⟨B, 1, none⟩ = some (.int .i64 lv) ∧ w'.cell? ⟨B, 2, none⟩ = some (.int .u32 (W pt)) ∧ w'.cell? ⟨B, 3, none⟩ = some (.slice (some ⟨b, off, none⟩) (mm + 1) c2) ∧ w'.cell? ⟨b, off + mm, none⟩ = some (.int .i64 kx) ∧ Kept w2 w')
    ((refine HSW.out _ ?_; repeat first | exact Kept.refl _ | exact K4.out | refine Kept.alloc ?_ _ | refine Kept.drew ?_))
    ((go_at_call 40
      refine (below_any A n c ls lv pt bb _ (hs2.out.kept (by repeat first | exact Kept.refl _ | refine Kept.alloc ?_ _ | refine Kept.drew ?_)) hn).mono ?_
      rintro e w4 ⟨A4, c4, rfl, h4, k4⟩
      have K4 := Lib.hid (Kept.trans (show Kept w2 _ by repeat first | exact Kept.refl _ | refine Kept.alloc ?_ _ | refine Kept.drew ?_) k4)
      have H4 := Lib.hid h4
      clear h4 k4))
  all_goals
    rename_i hHeld
    obtain ⟨g1, g2, g3, _, _⟩ := hHeld
    have hs4 := hs2.out.kept K4.out
    have q4 := Lib.hid (Q2.out.trans K4.out)
    subst hkx
    clear d1 d2 d3 HSW dk
    have g4 := (K4.out.cell (cell_lt d4)).trans d4
    clear d4
    have t1 : decide ((kn : Int) < 0) = false := by simp
    have HKL := Lib.hid hkl
    have t2 : decide ((belowL ls (lv, pt) bb).length < kn) = false := by simp; exact hkl
    have hn4 : n ≤ 1000 := hn
    have GG := Lib.hid (show w4.cell? ⟨B, 1, none⟩ = some (.int .i64 lv) ∧ w4.cell? ⟨B, 2, none⟩ = some (.int .u32 (W pt)) ∧ w4.cell? ⟨B, 4, none⟩ = some (.int .i64 tx) from ⟨g1, g2, g4⟩)
    clear g1 g2 g3 g4
    generalize (belowL ls (lv, pt) bb).length = len at H4 HKL t2
    go_wp2_with fail
    go_loopw [11, 58] (fun v t wr => ∃ k : Nat, k ≤ n ∧ t = .int .i64 k ∧ v = .int .i64 (cntI (ownP ls (lv, pt)) k : Nat) ∧ Kept w4 wr) (fun _ t _ => n - (intOf t).toNat)
    case atStart => exact ⟨0, Nat.zero_le _, rfl, rfl, Kept.refl _⟩
    case round =>
      obtain ⟨k, hk9, rfl, rfl, hkw⟩ := hrel
      by_cases hlt : k < n
      · obtain ⟨b9, o9, rfl, hb9, c0, c1, c2', c3⟩ := (hs4.kept hkw).getN k hlt
        have HST := Lib.hid (ownP_step ls (lv, pt) k)
        have hle := cntI_le (ownP ls (lv, pt)) k
        have HOP := Lib.hid (show ownP ls (lv, pt) k = decide ((lfAt ls k).2.2 = (lv, pt)) from rfl)
        generalize lfAt ls k = x at c0 c1 c2' c3 HOP
        obtain ⟨up, t9, lx, px⟩ := x
        simp only at c0 c1 c2' c3 HOP
        obtain ⟨X, hX⟩ : ∃ X, wr.heap.size = X := ⟨_, rfl⟩
        have bx := Box.new wr #[.int .i64 up, .int .i64 t9, .int .i64 lx, .int .u32 (W px)] 38 X hX
        have hka : Kept wr (wr.alloc (.cells #[.int .i64 up, .int .i64 t9, .int .i64 lx, .int .u32 (W px)] 38)) := (Kept.refl _).alloc _
        have z2 := bx.at_ 2 rfl
        have z3 := bx.at_ 3 rfl
        have y1 := ((hkw.trans hka).cell (cell_lt GG.out.1)).trans GG.out.1
        have y2 := ((hkw.trans hka).cell (cell_lt GG.out.2.1)).trans GG.out.2.1
        have hi1 : (0 : Int) ≤ (k : Int) := by omega
        have hi2 : (k : Int) < (n : Int) := by omega
        by_cases hop : lx = lv ∧ px = pt
        · obtain ⟨rfl, rfl⟩ := hop
          have HV := Lib.hid (show cntI (ownP ls (lx, px)) (k + 1) = cntI (ownP ls (lx, px)) k + 1 by rw [HST.out, HOP.out]; simp)
          have hw9 : IntKind.i64.wrap (((cntI (ownP ls (lx, px)) k : Nat) : Int) + 1) = ((cntI (ownP ls (lx, px)) k : Nat) : Int) + 1 := by rw [IntKind.wrap_i64]; omega
          go_wp2_with fail
          go_roundw
          case rel => exact ⟨k + 1, by omega, by go_num, by rw [HV.out]; rfl, hkw.trans hka⟩
          case measure => simp [intOf]; omega
        · have HV := Lib.hid (show cntI (ownP ls (lv, pt)) (k + 1) = cntI (ownP ls (lv, pt)) k by rw [HST.out, HOP.out]; simp only [Prod.mk.injEq, decide_eq_true_eq]; rw [if_neg hop]; rfl)
          have FIN := Lib.hid (hkw.trans hka)
          by_cases hlx : lx = lv
          · subst hlx
            have hpx : ¬ px = pt := fun h => hop ⟨rfl, h⟩
            have d9 : (px == pt) = false := by simpa using hpx
            clear hop hka
            go_wp2_with fail
            go_roundw
            case rel => exact ⟨k + 1, by omega, by go_num, by rw [HV.out], FIN.out⟩
            case measure => simp [intOf]; omega
          · have d9 : (lx == lv) = false := by simpa using hlx
            clear hop hka
            go_wp2_with fail
            go_roundw
            case rel => exact ⟨k + 1, by omega, by go_num, by rw [HV.out], FIN.out⟩
            case measure => simp [intOf]; omega
      · have HK := Lib.hid (show cntI (ownP ls (lv, pt)) k = ownN ls (lv, pt) by unfold ownN; rw [show k = ls.length by rw [HNL.out]; omega])
        rw [HK.out]
        by_cases hfull : 4 ≤ ownN ls (lv, pt) ∨ 40 ≤ n
        · have FIN := Lib.hid (RetPenO.no 1 (q4.out.trans hkw))
          have HF1 := Lib.hid (show putF ls (lv, pt) ps tx = (1, []) by rw [HF.out, if_pos (by rw [HNL.out]; exact hfull)])
          by_cases h4 : 4 ≤ ownN ls (lv, pt)
          · have t4 : decide (4 ≤ ownN ls (lv, pt)) = true := by simpa using h4
            go_wp2_with fail
            go_ret2
            rw [HF1.out]
            exact FIN.out
          · have t4 : decide (4 ≤ ownN ls (lv, pt)) = false := by simpa using h4
            have t5 : decide (40 ≤ n) = true := by simp; omega
            go_wp2_with fail
            go_ret2
            rw [HF1.out]
            exact FIN.out
        · have HF1 := Lib.hid (show putF ls (lv, pt) ps tx = (0, putL ls (putAt ls (lv, pt) bb kn) (bb, tx, (lv, pt))) by rw [HF.out, if_neg (by rw [HNL.out]; exact hfull)])
          have t4 : decide (4 ≤ ownN ls (lv, pt)) = false := by simp; omega
          have t5 : decide (40 ≤ n) = false := by simp; omega
          have hn40 : n < 40 := by omega
          generalize ownN ls (lv, pt) = own at *
          obtain ⟨a, ha⟩ : ∃ a, putAt ls (lv, pt) bb kn = a := ⟨_, rfl⟩
          rw [ha] at HPA HPD HF1
          have ha1 := HPA.out.1
          have ha2 := HPA.out.2.1
          rw [HNL.out] at ha1
          have HPD2 := Lib.hid (show (a : Int) = if kn = 0 then bb + 1 else (belowL ls (lv, pt) bb).getD (kn - 1) 0 + 1 by
            have h := HPD.out
            by_cases h0 : kn = 0
            · rw [if_pos h0] at h ⊢; omega
            · obtain ⟨i9, _, _, _, h9⟩ := belowL_from (ls := ls) (who := (lv, pt)) (b := bb) (q := kn - 1) (by omega)
              rw [if_neg h0] at h ⊢
              rw [h9] at h ⊢
              omega)
          have hwa : IntKind.i64.wrap (a : Int) = (a : Int) := by rw [IntKind.wrap_i64]; omega
          have HU := Lib.hid hu
          have HA1 := Lib.hid ha1
          have hgg := GG.out
          have f1 := (hkw.cell (cell_lt hgg.1)).trans hgg.1
          have f2 := (hkw.cell (cell_lt hgg.2.1)).trans hgg.2.1
          have f4 := (hkw.cell (cell_lt hgg.2.2)).trans hgg.2.2
          have HSW := Lib.hid (fun w' (k : Kept wr w') => show w'.cell? ⟨B, 1, none⟩ = some (.int .i64 lv) ∧ w'.cell? ⟨B, 2, none⟩ = some (.int .u32 (W pt)) ∧ w'.cell? ⟨B, 4, none⟩ = some (.int .i64 tx) ∧ Kept wr w' from
            ⟨(k.cell (cell_lt f1)).trans f1, (k.cell (cell_lt f2)).trans f2, (k.cell (cell_lt f4)).trans f4, k⟩)
          have hswr := hs4.kept hkw
          have Q5 := Lib.hid (q4.out.trans hkw)
          rcases Nat.eq_zero_or_pos kn with h0 | h0
          all_goals first
          | (obtain rfl : kn = 0 := h0
             have hA : bb + 1 = (a : Int) := by have h := HPD2.out; rw [if_pos rfl] at h; exact h.symm
             clear HPD2 HPD HPA HF hk hkl ha hgg hu ha1 ha2
             go_wp2_with fail)
          | (obtain ⟨kp, rfl⟩ : ∃ kp, kn = kp + 1 := ⟨kn - 1, by omega⟩
             have hkp : kp < (belowL ls (lv, pt) bb).length := by omega
             have hkp9 : (belowL ls (lv, pt) bb).length ≤ ls.length := belowTo_le ls (lv, pt) bb ls.length
             have hkp8 := HNL.out
             have hkp2 : kp < len := by have := H4.out.2; omega
             obtain ⟨b7, o7, hb7, rfl, _, cy⟩ := (H4.out.kept hkw).get kp hkp2
             have hA : (belowL ls (lv, pt) bb)[kp] + 1 = (a : Int) := by
               have h := HPD2.out
               rw [if_neg (by omega), show kp + 1 - 1 = kp by omega, List.getD_eq_getElem?_getD, List.getElem?_eq_getElem hb7] at h
               exact h.symm
             generalize (belowL ls (lv, pt) bb)[kp] = y at cy hA
             have j1 : ((kp + 1 : Nat) : Int) - 1 = (kp : Int) := by omega
             have j2 : IntKind.i64.wrap (kp : Int) = (kp : Int) := by rw [IntKind.wrap_i64]; omega
             have j3 : (0 : Int) ≤ (kp : Int) := by omega
             have j4 : (kp : Int) < (len : Int) := by omega
             have j5 : decide (0 < kp + 1) = true := by simp
             clear HPD2 HPD HPA HF hk hkl ha hgg hu ha1 ha2
             go_wp2_with fail)
          all_goals
            clear f1 f2 f4
            go_region_held3 (fun w' => w'.cell? ⟨B, 1, none⟩ = some (.int .i64 lv) ∧ w'.cell? ⟨B, 2, none⟩ = some (.int .u32 (W pt)) ∧ w'.cell? ⟨B, 4, none⟩ = some (.int .i64 tx) ∧ Kept wr w')
              ((refine HSW.out _ ?_; repeat first | exact Kept.refl _ | exact K7.out | exact K6.out | refine Kept.alloc ?_ _ | refine Kept.drew ?_))
              ((first
                | (go_at_call 45
                   refine (cloneLf_any A n c ls _ (hswr.kept (by repeat first | exact Kept.refl _ | refine Kept.alloc ?_ _ | refine Kept.drew ?_)) hn4).mono ?_
                   rintro e w6 ⟨v6, rfl, own6⟩
                   have k6 := own6.2
                   have K6 := Lib.hid (Kept.trans (show Kept wr _ by repeat first | exact Kept.refl _ | refine Kept.alloc ?_ _ | refine Kept.drew ?_) k6)
                   have O6 := Lib.hid (Own.baseP own6 (show Kept wr _ by repeat first | exact Kept.refl _ | refine Kept.alloc ?_ _ | refine Kept.drew ?_))
                   have SI6 := Lib.hid own6.since
                   try have R6 := Lib.hid (Row.kept (show Row wr _ wr.heap.size 38 [.int .i64 bb, .int .i64 tx, .int .i64 lv, .int .u32 (W pt)] by first | exact (Row.new (Kept.refl wr) 38 [.int .i64 bb, .int .i64 tx, .int .i64 lv, .int .u32 (W pt)] _ rfl).drew | exact (Row.new (Kept.refl wr) 38 [.int .i64 bb, .int .i64 tx, .int .i64 lv, .int .u32 (W pt)] _ rfl)) k6)
                   clear own6 k6)
                | (go_at_call 50
                   refine (ins_any v6 n a ls (bb, tx, lv, pt) _ 1 _ (by first | exact O6.out | exact O6.out.alloc _ | exact (O6.out.alloc _).drew) (by first | exact R6.out | exact (Row.new K6.out 38 [.int .i64 bb, .int .i64 tx, .int .i64 lv, .int .u32 (W pt)] _ rfl)) (by
                     intro h7
                     first
                     | (exact absurd (SI6.out _ h7) (by show ¬ (wr.heap.push _).size ≤ wr.heap.size; rw [Array.size_push]; omega))
                     | (have h8 := (World.ownsRow.lt O6.out.1 _ h7).2; omega)) HA1.out HNL.out hn4).mono ?_
                   rintro e w7 ⟨v7, rfl, own7⟩
                   have K7 := Lib.hid own7.2
                   have O7 := Lib.hid own7
                   clear own7)))
            all_goals
              rename_i hHeld
              clear hHeld
              obtain ⟨A7, cap, rfl, hsl7, hcap⟩ := O7.out.form
              obtain ⟨g, rfl, hg1, hg2⟩ := O7.out.block (by omega)
              have hw16 : IntKind.i64.wrap ((a : Int) + 1) = (a : Int) + 1 := by rw [IntKind.wrap_i64]; have := HA1.out; omega
              have HRL := Lib.hid (raw_len (ls := ls) (a := a) (x := (bb, tx, lv, pt)) (by rw [HNL.out]; exact HA1.out))
              have HRA := Lib.hid (raw_at (ls := ls) (a := a) (x := (bb, tx, lv, pt)) (by rw [HNL.out]; exact HA1.out))
              have HDN := Lib.hid (shTo_done (ls := ls) (a := a) (x := (bb, tx, lv, pt)) (by rw [HNL.out]; exact HA1.out))
              have HPL := Lib.hid (put_len (ls := ls) (a := a) (x := (bb, tx, lv, pt)) (by rw [HNL.out]; exact HA1.out))
              clear HSW hswr hs4 hA hwa hsl7
              go_wp2_with fail
              go_loopw [16] (fun v wq => ∃ j : Nat, v = .int .i64 j ∧ a + 1 ≤ j ∧ j ≤ n + 1 ∧ Own wr wq 38 4 (.slice (some ⟨g, 0, none⟩) (n + 1) cap) (n + 1) (lfCells (shTo (rawL ls a (bb, tx, lv, pt)) a j))) (fun v _ => n + 1 - (intOf v).toNat)
              case atStart => exact ⟨a + 1, by go_num, Nat.le_refl _, by have := HA1.out; omega, by rw [shTo_start]; exact O7.out⟩
              case round =>
                obtain ⟨j, rfl, hj1, hj2, hown⟩ := hrel
                by_cases hjl : j < n + 1
                · have hjr : j < (rawL ls a (bb, tx, lv, pt)).length := by rw [HRL.out, HNL.out]; exact hjl
                  have hjs : j < (shTo (rawL ls a (bb, tx, lv, pt)) a j).length := by rw [shTo_len]; exact hjr
                  have hcu := shTo_cur (a := a) hjr
                  have HYES := Lib.hid (shTo_yes (a := a) hjr (by omega))
                  have HNO := Lib.hid (shTo_no (a := a) hjr)
                  have hcell := (lfCells_at _ j _ (List.getElem?_eq_getElem hjs)).1
                  rw [← lf_at hjs, hcu] at hcell
                  have HSET := Lib.hid (fun u => lfCells_set (shTo (rawL ls a (bb, tx, lv, pt)) a j) j u hjs)
                  have hup : -1 ≤ (lfAt (rawL ls a (bb, tx, lv, pt)) j).1 ∧ (lfAt (rawL ls a (bb, tx, lv, pt)) j).1 < 1000 := by
                    rw [HRA.out, if_neg (by omega), if_neg (by omega)]
                    have h9 := HNL.out
                    have := HU.out (j - 1) (by omega)
                    omega
                  have c0 := hown.cell (j * 4) hcell
                  have f0 := hown.free (j * 4)
                  generalize (lfAt (rawL ls a (bb, tx, lv, pt)) j).1 = up at c0 hup HYES HNO
                  have hi1 : (0 : Int) ≤ (j : Int) := by omega
                  have hi2 : (j : Int) < (n : Int) + 1 := by omega
                  have hw17 : IntKind.i64.wrap ((j : Int) + 1) = (j : Int) + 1 := by rw [IntKind.wrap_i64]; omega
                  by_cases hsh : (a : Int) ≤ up
                  · have t7 : decide ((a : Int) ≤ up) = true := by simpa using hsh
                    have hw18 : IntKind.i64.wrap (up + 1) = up + 1 := by rw [IntKind.wrap_i64]; omega
                    have O8 := Lib.hid (hown.put (j * 4) (.int .i64 (up + 1)))
                    have HY := Lib.hid (HYES.out hsh)
                    clear hown hcell
                    go_wp2_with fail
                    go_roundw
                    case rel => exact ⟨j + 1, by go_num, by omega, by omega, by rw [← HY.out, ← HSET.out]; exact O8.out⟩
                    case measure => simp [intOf]; omega
                  · have t7 : decide ((a : Int) ≤ up) = false := by simpa using hsh
                    have O8 := Lib.hid hown
                    have HY := Lib.hid (HNO.out hsh)
                    clear hown hcell
                    go_wp2_with fail
                    go_roundw
                    case rel => exact ⟨j + 1, by go_num, by omega, by omega, by rw [← HY.out]; exact O8.out⟩
                    case measure => simp [intOf]; omega
                · have hje : j = n + 1 := by omega
                  have e9 : shTo (rawL ls a (bb, tx, lv, pt)) a j = putL ls a (bb, tx, lv, pt) := by rw [hje, ← HNL.out]; exact HDN.out
                  rw [e9] at hown
                  have O8 := Lib.hid hown
                  have hsl8 := Sl.of_own O8.out.1
                  have FIN := Lib.hid (show RetPenO w (0, putL ls a (bb, tx, lv, pt)) (.returned (.tuple #[.slice (some ⟨g, 0, none⟩) (n + 1) cap, .int .i64 0])) wr from by
                    have O9 := Own.baseP O8.out Q5.out
                    have e9 : (putL ls a (bb, tx, lv, pt)).length = n + 1 := by rw [HPL.out, HNL.out]
                    refine ⟨some ⟨g, 0, none⟩, cap, by show _ = Ending.returned (.tuple #[.slice _ (putL ls a (bb, tx, lv, pt)).length _, _]); rw [e9], ?_⟩
                    show Own _ _ _ _ (.slice _ (putL ls a (bb, tx, lv, pt)).length _) (putL ls a (bb, tx, lv, pt)).length _
                    rw [e9]
                    exact O9)
                  clear hown hsl8
                  go_wp2_with fail
                  go_ret2
                  rw [HF1.out]
                  exact FIN.out
end Go.Proofs.Ytjcooagchjjknaa
