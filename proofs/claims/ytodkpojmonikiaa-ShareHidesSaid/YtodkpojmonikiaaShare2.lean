/- The walks of share.none, slices.Clone at bytes, share.Deal. -/
import Derived.Test.YtodkpojmonikiaaShare1
import Derived.Test.YtodkpojmonikiaaByte
import Derived.Test.YtodkpojmonikiaaRep
import Derived.Test.YtodkpojmonikiaaMat
import Derived.BigQuiet
namespace Go.Proofs.Ytodkpojmonikiaa
open Go Go.RowKit
set_option linter.unusedVariables false

theorem info_byte : (Try.prog.info? 5).map (fun i => (i.zero, i.size, i.bytes)) = some (some (.int .u8 0), 1, 1) := by kernel_rfl
theorem info_rowI : (Try.prog.info? 22).map (fun i => (i.zero, i.size, i.bytes)) = some (some (.slice none 0 0), 1, 24) := by kernel_rfl
theorem none_any (n : Nat) (hn : n ≤ 6) (A : Option Addr) (c : Nat) (l : List (BitVec 32)) (w : World) (hs : SlW w A l.length l) (hl : l.length ≤ 1000) (b : Bool) (hb : noneB n l = b) :
    Calls Try.prog 68 #[.int .i64 n, .slice A l.length c] w fun e w' => e = .returned (.bool b) ∧ Kept w w' := by
  have HB := Lib.hid hb
  have hn31 : n ≤ 31 := by omega
  clear hb
  by_cases h0 : l.length = 0
  · have d0 : ((l.length : Int) == 0) = true := by rw [h0]; rfl
    have HV := Lib.hid (show b = true by rw [← HB.out]; unfold noneB; rw [h0]; rfl)
    clear h0
    go_enter Try.func68, Try.ntmps68
    go_wp2_with fail
    go_quiet (fail)
    go_wp2_with fail
    go_ret
    exact ⟨by rw [HV.out]; rfl, (Kept.refl _).drewN _⟩
  · obtain ⟨q, hq⟩ : ∃ q, l.length = q + 1 := ⟨l.length - 1, by omega⟩
    obtain ⟨b2, off, rfl, hb2, cq⟩ := hs.getN q (by omega)
    have d0 : ((l.length : Int) == 0) = false := by rw [beq_eq_false_iff_ne]; omega
    have HV := Lib.hid (show b = (nth l q == 1#32 <<< n - 1#32) by rw [← HB.out]; unfold noneB; rw [hq]; simp; rfl)
    generalize nth l q = x at cq HV
    have i1 : (0 : Int) ≤ (q : Int) := by omega
    have i2 : (q : Int) < (l.length : Int) := by omega
    have e1 : (l.length : Int) - 1 = (q : Int) := by omega
    have e2 : IntKind.i64.wrap (q : Int) = (q : Int) := by rw [IntKind.wrap_i64]; omega
    clear hs h0 hq hl
    go_enter Try.func68, Try.ntmps68
    go_wp2_with fail
    go_quiet (fail)
    go_wp2_with fail
    go_ret
    exact ⟨by rw [HV.out]; rfl, (Kept.refl _).drewN _⟩
theorem cloneY_any (A : Option Addr) (n c : Nat) (ls : List By) (w : World) (hs : SlY w A n ls) (hn : n ≤ 1000) :
    Calls Try.prog 69 #[.slice A n c] w fun e w' => ∃ v, e = .returned v ∧ Own w w' 5 1 v n (ls.map yv) := by
  have hnil := fun W => Lib.run_eql_slice_nil (P := Try.prog) W 60 5 A n c 0 0 Try.underlying60
  rcases A with _ | ad
  · have h0 : n = 0 := by
      rcases Nat.eq_zero_or_pos n with h | h
      · exact h
      · obtain ⟨b, off, e, _⟩ := hs.1.2 (by omega)
        cases e
    subst h0
    have hx : ls = [] := List.eq_nil_of_length_eq_zero hs.2
    subst hx
    go_enter Try.func69, Try.ntmps69
    go_wp2_with fail
    go_ret
    exact ⟨_, rfl, Own.start (Kept.refl _)⟩
  · have hl := hs.2
    go_enter Try.func69, Try.ntmps69
    go_wp2_with (at_builtin; refine wpList_pushAll rfl _ _ 60 rfl 5 Try.underlying60 info_byte rfl (by decide) (by decide) _ _ _ _ (Own.empty (Kept.refl w) 5 1 _ rfl) _ _ _ _ (hs.kept ((Kept.refl w).alloc _)).1 rfl rfl (one_ys _) n (by omega) (by omega) ?_; intro v' w3 hown3)
    go_ret
    refine ⟨_, rfl, ?_⟩
    simpa using hown3
/-! ### Deal -/
def dealF (n : Int) (sets : List (BitVec 32)) (m : Nat) : Int :=
  if setsF n sets ≠ 0 then setsF n sets else if noneB n.toNat (mostL n.toNat sets) then 5 else if m + 1 = (mostL n.toNat sets).length then 0 else 3
/-- what one has, on the way -/
def shTo (L : List (BitVec 32)) (p : List By) (i k : Nat) : List Value := fillTo (fun j => iv (shV L p i j)) (iv (-1)) L.length k
theorem shTo_yes {L : List (BitVec 32)} {p : List By} {i k : Nat} (h : (nth L k).getLsbD i = false) : (shTo L p i k).set k (.int .i64 (B8 (bth p k))) = shTo L p i (k + 1) := by
  have := fillTo_set (fun j => iv (shV L p i j)) (iv (-1)) L.length k
  unfold shTo
  rw [← this]
  congr 1
  unfold shV
  rw [h]
  rfl
theorem shTo_no {L : List (BitVec 32)} {p : List By} {i k : Nat} (h : (nth L k).getLsbD i = true) : shTo L p i (k + 1) = shTo L p i k := by
  have := fillTo_set (fun j => iv (shV L p i j)) (iv (-1)) L.length k
  unfold shTo
  rw [← this]
  have e : (fillTo (fun j => iv (shV L p i j)) (iv (-1)) L.length k)[k]? = none ∨ (fillTo (fun j => iv (shV L p i j)) (iv (-1)) L.length k)[k]? = some (iv (shV L p i k)) := by
    by_cases hk : k < L.length
    · right
      rw [fillTo_at _ _ _ _ _ hk, if_neg (Nat.lt_irrefl k)]
      unfold shV
      rw [h]
      rfl
    · left
      rw [List.getElem?_eq_none_iff, fillTo_length]
      omega
  apply List.ext_getElem?
  intro j
  rw [List.getElem?_set]
  by_cases hjk : k = j
  · subst hjk
    rw [if_pos rfl]
    rcases e with e | e
    · rw [e]
      rw [if_neg (by rw [List.getElem?_eq_none_iff] at e; omega)]
    · rw [e, if_pos (by
        refine Classical.byContradiction fun hc => ?_
        rw [List.getElem?_eq_none_iff.2 (by omega)] at e
        cases e)]
  · rw [if_neg hjk]
theorem shTo_zero (L : List (BitVec 32)) (p : List By) (i : Nat) : shTo L p i 0 = List.replicate L.length (iv (-1)) := fillTo_zero _ _ _
theorem shTo_done (L : List (BitVec 32)) (p : List By) (i : Nat) : shTo L p i L.length = (shRow L p i).map iv := by
  unfold shTo shRow
  rw [fillTo_done, List.map_map]
  rfl
/-- rows of the call's own, beside each other -/
def RowsO (w0 w : World) (rs : List Rv) : Prop := ∀ r ∈ rs, Own w0 w 3 1 (rwv r) r.2.1 (r.2.2.2.map iv) ∧ r.2.2.2.length = r.2.1 ∧ r.2.1 ≤ maxLen
theorem RowsO.kept {w0 w w' : World} {rs : List Rv} (h : RowsO w0 w rs) (k : Kept w w') : RowsO w0 w' rs := fun r hr => ⟨(h r hr).1.kept k, (h r hr).2⟩
theorem own_slI {w0 w : World} {A : Option Addr} {n c : Nat} {xs : List Int} (h : Own w0 w 3 1 (.slice A n c) n (xs.map iv)) (hl : xs.length = n) : SlI w A n xs := by
  obtain ⟨A2, c2, e, hsl, _⟩ := h.form
  injection e with e
  subst e
  exact ⟨hsl, hl⟩
theorem RowsO.ok {w0 w : World} {rs : List Rv} (h : RowsO w0 w rs) : ∀ r ∈ rs, RowOk w r := fun r hr => ⟨own_slI (h r hr).1 (h r hr).2.1, (h r hr).2.2⟩
theorem one_sl (A : Option Addr) (n c : Nat) : ∀ u ∈ (#[Value.slice A n c] : Array Value).toList, u.oneCell' = true := fun u hu => by simp at hu; subst hu; rfl
set_option maxRecDepth 100000 in
set_option maxHeartbeats 4000000 in
theorem deal_good (n : Nat) (A : Option Addr) (len c : Nat) (sets : List (BitVec 32)) (s : By) (A2 : Option Addr) (m c2 : Nat) (d : List By) (w : World) (hs : SlW w A len sets) (hd : SlY w A2 m d) (h0 : setsF n sets = 0) (hno : noneB n (mostL n sets) = false) (hm : m + 1 = (mostL n sets).length) :
    Calls Try.prog 35 #[.int .i64 n, .slice A len c, .int .u8 (B8 s), .slice A2 m c2] w fun e w' => Kept w w' ∧ ∃ A3 c3 rows, e = .returned (.tuple #[.slice A3 n c3, .int .i64 0]) ∧ SlM w' A3 n rows ∧ rows.map (·.2.2.2) = (List.range n).map (shRow (mostL n sets) (partsF s d)) := by
  obtain ⟨nn, e, hn1, hn6, _, _⟩ := setsF_zero h0
  obtain rfl : n = nn := by omega
  clear e
  have H0 := Lib.hid h0
  have HNO := Lib.hid hno
  have HDL := Lib.hid hd.2
  have hmost : (mostL n sets).length ≤ 64 := by
    have h1 : (mostL n sets).length ≤ (words n).length := List.length_filter_le _ _
    rw [words_length] at h1
    have := pow_le n hn6
    omega
  clear h0 hno
  obtain ⟨P, hP⟩ : ∃ P, partsF s d = P := ⟨_, rfl⟩
  obtain ⟨L, hLL⟩ : ∃ L, mostL n sets = L := ⟨_, rfl⟩
  rw [hP, hLL]
  rw [hLL] at HNO hmost hm
  have HLLH := Lib.hid hLL
  clear hLL
  have HPP := Lib.hid hP
  clear hP
  go_enter Try.func35, Try.ntmps35
  go_wp2_with fail
  refine (lost_any n A len c sets _ hs).mono ?_
  rintro e w1 ⟨k1, ⟨hz, _⟩ | ⟨_, A1, c1, rfl, hl⟩⟩
  · rw [H0.out] at hz; cases hz
  rw [Int.toNat_natCast, HLLH.out] at hl ⊢
  clear H0
  have hl1000 : L.length ≤ 1000 := by omega
  go_wp2_with fail
  refine (none_any n hn6 A1 c1 L _ hl hl1000 false HNO.out).mono ?_
  rintro e w2 ⟨rfl, k2⟩
  have q2 := k1.trans k2
  have HL2 := Lib.hid (hl.kept k2)
  have HD2 := Lib.hid (hd.kept q2)
  have Q2 := Lib.hid q2
  have g1 : ((m : Int) != (L.length : Int) - 1) = false := by
    have : (L.length : Int) - 1 = (m : Int) := by omega
    rw [this]; simp
  have e1 : (L.length : Int) - 1 = (m : Int) := by omega
  have gm : ((m : Int) != (m : Int)) = false := by simp
  have HMM := Lib.hid hm
  have hm1000 : m ≤ 1000 := by omega
  clear hl hd hs k1 k2 q2 g1 hm
  go_wp2_with fail
  refine (cloneY_any A2 m c2 d _ HD2.out hm1000).mono ?_
  rintro e w3 ⟨v, rfl, hv⟩
  obtain ⟨Av, cv, rfl, _, _⟩ := hv.form
  clear e1 gm
  go_wp2_with fail
  go_loop [2, 45] (fun s' t => ∃ k : Nat, k ≤ m ∧ t = .int .i64 k ∧ s' = .int .u8 (B8 (xorF s (d.take k)))) (fun _ t => m - (intOf t).toNat)
  case atStart => exact ⟨0, Nat.zero_le _, rfl, rfl⟩
  case round =>
    obtain ⟨k, hk, rfl, rfl⟩ := hrel
    by_cases hlt : k < m
    · obtain ⟨b, off, rfl, hb, ck⟩ := (HD2.out.kept hv.2).getN k hlt
      have HX := Lib.hid (xorF_take s d k (by rw [HDL.out]; exact hlt))
      have i1 : (0 : Int) ≤ (k : Int) := by omega
      have i2 : (k : Int) < (m : Int) := by omega
      go_wp2_with fail
      go_round
      case rel => exact ⟨k + 1, by omega, by go_num, by rw [HX.out]⟩
      case measure => simp [intOf]; omega
    · obtain rfl : k = m := by omega
      have HTK := Lib.hid (show d.take k = d from take_all d k (by rw [HDL.out]; omega))
      rw [HTK.out]
      have HPE := Lib.hid (show (partsF s d).map yv = d.map yv ++ [Value.int .u8 (B8 (xorF s d))] by unfold partsF; rw [List.map_append]; rfl)
      go_wp2_with (at_builtin; refine wpList_push rfl _ _ 60 rfl 5 Try.underlying60 info_byte rfl (by decide) (by decide) _ _ _ _ hv #[.int .u8 (B8 (xorF s d))] _ _ 1 1 rfl rfl rfl rfl (one_y _) (by omega) ?_; intro v4 w4 hv4 _; obtain ⟨A4, c4, rfl, hs4, _⟩ := hv4.form)
      have HP4 := Lib.hid (show SlY w4 A4 L.length (partsF s d) from ⟨by rw [HPE.out, ← HMM.out]; exact hs4, by rw [partsF_length, HDL.out]; exact HMM.out⟩)
      have K4 := Lib.hid hv4.2
      have HL4 := Lib.hid (HL2.out.kept hv4.2)
      have HML := HMM.out
      clear hs4 hv4 hv
      rw [HPP.out] at HP4
      clear HPE HTK
      go_wp2_with fail
      go_loopw [15, 58] (fun o t wr => ∃ (i : Nat) (rows : List Rv), i ≤ n ∧ t = .int .i64 i ∧ Own w4 wr 22 1 o i (rows.map rwv) ∧ RowsO w4 wr rows ∧ Hid (rows.map (·.2.2.2) = (List.range i).map (shRow L P))) (fun _ t _ => n - (intOf t).toNat)
      case atStart => exact ⟨0, [], Nat.zero_le _, rfl, Own.start (Kept.refl _), (fun r hr => by cases hr), Lib.hid rfl⟩
      case round =>
        obtain ⟨i, rows, hi, rfl, hout, hrows, HR⟩ := hrel
        by_cases hlt2 : i < n
        · have HLI := Lib.hid hlt2
          obtain ⟨wo, hwo⟩ : ∃ wo : World, wo = wr := ⟨_, rfl⟩
          subst hwo
          have HOUT := Lib.hid hout
          have HROWS := Lib.hid hrows
          have i1 : (0 : Int) ≤ (i : Int) := by omega
          have hi31 : i ≤ 31 := by omega
          clear hout hrows
          have hsl1 : SlI (wo.alloc (.cells #[.int .i64 (-1)] 3)) (some ⟨wo.heap.size, 0, none⟩) 1 [-1] := ⟨Sl.new wo _ _ 1 1 rfl, rfl⟩
          have HSL1 := Lib.hid hsl1
          clear hsl1
          go_wp2_with fail
          refine (repeat_any _ _ L.length _ HSL1.out (by omega) (by omega)).mono ?_
          rintro e w5 ⟨v5, rfl, hv5⟩
          obtain ⟨A5, c5, rfl, _, _⟩ := hv5.form
          obtain ⟨g, rfl, _, _⟩ := hv5.block (by omega)
          have HV5 := Lib.hid (hv5.baseO ((Kept.refl wo).alloc _))
          clear hv5
          rw [← shTo_zero L P i] at HV5
          go_wp2_with fail
          go_loopw [67] (fun t wq => ∃ k : Nat, k ≤ L.length ∧ t = .int .i64 k ∧ Own wo wq 3 1 (.slice (some ⟨g, 0, none⟩) L.length c5) L.length (shTo L P i k)) (fun t _ => L.length - (intOf t).toNat)
          case atStart => exact ⟨0, Nat.zero_le _, rfl, HV5.out⟩
          case round =>
            obtain ⟨k', hk', rfl, hown⟩ := hrel
            by_cases hlt3 : k' < L.length
            · obtain ⟨bl, ol, rfl, hbl, cl⟩ := (HL4.out.kept (HOUT.out.2.trans hown.2)).getN k' hlt3
              obtain ⟨bp, op, rfl, hbp, cp⟩ := (HP4.out.kept (HOUT.out.2.trans hown.2)).getN k' hlt3
              have co := hown.cell k' (fillTo_at _ _ _ k' k' hlt3)
              have fo := hown.free k'
              have j1 : (0 : Int) ≤ (k' : Int) := by omega
              have j2 : (k' : Int) < (L.length : Int) := by omega
              have HOWN := Lib.hid hown
              clear hown
              cases hb : (nth L k').getLsbD i
              · have HE := Lib.hid (shTo_yes (p := P) hb)
                have HPUT := Lib.hid (HOWN.out.put k' (.int .i64 (B8 (bth P k'))))
                generalize bth P k' = x at cp HE HPUT
                generalize nth L k' = y at cl hb
                go_wp2_with fail
                go_roundw
                case rel => exact ⟨k' + 1, by omega, by go_num, by rw [← HE.out]; exact HPUT.out⟩
                case measure => simp [intOf]; omega
              · have HE := Lib.hid (shTo_no (p := P) hb)
                generalize bth P k' = x at cp
                generalize nth L k' = y at cl hb
                go_wp2_with fail
                go_roundw
                case rel => exact ⟨k' + 1, by omega, by go_num, by rw [HE.out]; exact HOWN.out⟩
                case measure => simp [intOf]; omega
            · obtain rfl : k' = L.length := by omega
              rw [shTo_done] at hown
              have hout2 := HOUT.out.kept hown.2
              have HROWS2 := Lib.hid (HROWS.out.kept hown.2)
              have HOWN2 := Lib.hid (hown.baseO HOUT.out.2)
              have HFO := Lib.hid hout2
              clear hown
              go_wp2_with (at_builtin; refine wpList_push rfl _ _ 27 rfl 22 Try.underlying27 info_rowI rfl (by decide) (by decide) _ _ _ _ hout2 #[.slice (some ⟨g, 0, none⟩) L.length c5] _ _ 1 1 rfl rfl rfl rfl (one_sl _ _ _) (by omega) ?_; intro v7 w7 hown7 hg7)
              have HX7 := Lib.hid (show Own w4 w7 22 1 v7 (i + 1) ((rows ++ [((some ⟨g, 0, none⟩ : Option Addr), L.length, c5, shRow L P i)]).map rwv) by
                rw [List.map_append]; exact hown7)
              have HR7 := Lib.hid (show RowsO w4 w7 (rows ++ [((some ⟨g, 0, none⟩ : Option Addr), L.length, c5, shRow L P i)]) from fun r hr => by
                have hfar := fun (v : Value) (nv : Nat) (xs : List Value) (h : Own w4 _ 3 1 v nv xs) => ((h.alloc _).grown hg7 ((h.far2 HFO.out (by decide))) HFO.out.since)
                rcases List.mem_append.1 hr with hr | hr
                · exact ⟨hfar _ _ _ (HROWS2.out r hr).1, (HROWS2.out r hr).2⟩
                · rw [List.mem_singleton] at hr
                  subst hr
                  exact ⟨hfar _ _ _ HOWN2.out, by simp [shRow], (by show L.length ≤ maxLen; unfold maxLen; omega)⟩)
              have HLI2 := HLI.out
              clear hown7 hg7 hout2
              go_wp2_with fail
              go_roundw
              case rel => exact ⟨_, _, _, _, _, _, ⟨i + 1, by omega, by go_num, _, HX7.out, HR7.out, Lib.hid (by rw [List.map_append, HR.out, List.range_succ, List.map_append]; rfl)⟩, rfl, rfl, rfl, rfl, rfl, rfl⟩
              case measure => simp [intOf]; omega
        · obtain rfl : i = n := by omega
          obtain ⟨A3, c3, rfl, hsl, _⟩ := hout.form
          have hlen := hout.1.1
          rw [List.length_map, Nat.mul_one] at hlen
          have FIN := Lib.hid (show SlM wr A3 i rows from ⟨hsl, hlen, hrows.ok⟩)
          have KF := Lib.hid ((Q2.out.trans K4.out).trans hout.2)
          clear hout hrows hsl hlen
          go_wp2_with fail
          go_ret2
          exact ⟨KF.out, A3, c3, rows, rfl, FIN.out, HR.out⟩
theorem dealF_good {n : Nat} {sets : List (BitVec 32)} {m : Nat} (h : dealF n sets m = 0) : setsF n sets = 0 ∧ noneB n (mostL n sets) = false ∧ m + 1 = (mostL n sets).length := by
  unfold dealF at h
  rw [Int.toNat_natCast] at h
  by_cases h0 : setsF n sets = 0
  · rw [if_neg (by simpa using h0)] at h
    cases h1 : noneB n (mostL n sets)
    · rw [h1] at h
      by_cases h2 : m + 1 = (mostL n sets).length
      · exact ⟨h0, rfl, h2⟩
      · rw [if_neg (by simp), if_neg h2] at h; cases h
    · rw [h1, if_pos rfl] at h; cases h
  · rw [if_pos h0] at h; exact absurd h h0
set_option maxHeartbeats 2000000 in
theorem deal_bad (n : Int) (A : Option Addr) (len c : Nat) (sets : List (BitVec 32)) (s : By) (A2 : Option Addr) (m c2 : Nat) (d : List By) (w : World) (hs : SlW w A len sets) (hd : SlY w A2 m d) (h : dealF n sets m ≠ 0) :
    Calls Try.prog 35 #[.int .i64 n, .slice A len c, .int .u8 (B8 s), .slice A2 m c2] w fun e w' => Kept w w' ∧ ∃ x : Int, e = .returned (.tuple #[.slice none 0 0, .int .i64 x]) ∧ (x != 0) = true := by
  by_cases h0 : setsF n sets = 0
  · obtain ⟨nn, e, hn1, hn6, _, _⟩ := setsF_zero h0
    obtain rfl := e
    have H0 := Lib.hid h0
    unfold dealF at h
    rw [if_neg (by simpa using h0), Int.toNat_natCast] at h
    have HD := Lib.hid h
    clear h0 h
    go_enter Try.func35, Try.ntmps35
    go_wp2_with fail
    refine (lost_any nn A len c sets _ hs).mono ?_
    rintro e w1 ⟨k1, ⟨hz, _⟩ | ⟨_, A1, c1, rfl, hl⟩⟩
    · rw [H0.out] at hz; cases hz
    rw [Int.toNat_natCast] at hl ⊢
    have hmost : (mostL nn sets).length ≤ 64 := by
      have h1 : (mostL nn sets).length ≤ (words nn).length := List.length_filter_le _ _
      rw [words_length] at h1
      have := pow_le nn hn6
      omega
    obtain ⟨L, hLL⟩ : ∃ L, mostL nn sets = L := ⟨_, rfl⟩
    rw [hLL] at hl HD hmost ⊢
    have hl1000 : L.length ≤ 1000 := by omega
    clear hLL H0
    go_wp2_with fail
    cases hb : noneB nn L
    · refine (none_any nn hn6 A1 c1 L _ hl hl1000 false hb).mono ?_
      rintro e w2 ⟨rfl, k2⟩
      have hne : ¬ (m + 1 = L.length) := fun e => HD.out (by rw [hb, if_neg (by simp), if_pos e])
      have g1 : ((m : Int) != (L.length : Int) - 1) = true := by rw [bne_iff_ne]; omega
      have q2 := k1.trans k2
      have e0 : L.length ≠ 0 := by
        intro e
        unfold noneB at hb
        rw [e] at hb
        simp at hb
      obtain ⟨q, hq⟩ : ∃ q, L.length = q + 1 := ⟨L.length - 1, by omega⟩
      have e1 : (L.length : Int) - 1 = (q : Int) := by omega
      rw [e1] at g1
      clear hb hne hq e0 k1 k2 hl
      go_wp2_with fail
      go_ret2
      exact ⟨q2, 3, rfl, rfl⟩
    · refine (none_any nn hn6 A1 c1 L _ hl hl1000 true hb).mono ?_
      rintro e w2 ⟨rfl, k2⟩
      go_wp2_with fail
      go_ret2
      exact ⟨k1.trans k2, 5, rfl, rfl⟩
  · have HNE := Lib.hid h0
    go_enter Try.func35, Try.ntmps35
    go_wp2_with fail
    refine (lost_any n A len c sets _ hs).mono ?_
    rintro e w1 ⟨k1, ⟨hz, rfl⟩ | ⟨hz, _⟩⟩
    case inr => exact absurd hz HNE.out
    have HZ := Lib.hid hz
    go_wp2_with fail
    go_ret2
    exact ⟨k1, _, rfl, HZ.out⟩
end Go.Proofs.Ytodkpojmonikiaa
