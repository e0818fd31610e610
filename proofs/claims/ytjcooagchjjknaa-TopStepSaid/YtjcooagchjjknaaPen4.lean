/- The walk of pen.Do. -/
import Derived.Test.YtjcooagchjjknaaPen3
namespace Go.Proofs.Ytjcooagchjjknaa
open Go Go.RowKit Go.Lib
set_option linter.unusedVariables false

def penF (ls : List Lf) (s : Sk) : Int × List Lf := if viewF ls s.who ≠ 0 then (viewF ls s.who, []) else penC ls s
theorem lfCells_set1 : ∀ (ls : List Lf) (k : Nat) (u : Int), k < ls.length → (lfCells ls).set (k * 4 + 1) (.int .i64 u) = lfCells (setL ls k u)
  | [], k, u, h => absurd h (Nat.not_lt_zero _)
  | x :: l, 0, u, _ => rfl
  | x :: l, k + 1, u, h => by
    have ih := lfCells_set1 l k u (Nat.lt_of_succ_lt_succ h)
    show (lfv x ++ lfCells l).set _ _ = lfv x ++ lfCells (setL l k u)
    rw [← ih, List.set_append_right _ _ (by show 4 ≤ _; omega)]
    congr 2
    show (k + 1) * 4 + 1 - 4 = k * 4 + 1
    omega
theorem find_is {ls : List Lf} {who : Lab} {ps : List Int} (h : viewF ls who = 0) : findF ls who ps = fndF ls who ps := by
  unfold findF
  rw [if_neg (by simp [h])]
  rfl
set_option maxHeartbeats 8000000 in
theorem doO_any (A : Option Addr) (n c : Nat) (ls : List Lf) (kind lv : Int) (pt : BitVec 32) (A2 : Option Addr) (m c2 : Nat) (ps : List Int) (tx : Int) (w : World) (hs : SlL w A n ls) (hp : SlI w A2 m ps) (hn : n ≤ maxLen) (hm : m ≤ maxLen) (hmc : m ≤ c2) :
    Calls Try.prog 24 #[.slice A n c, .agg (skC kind lv pt A2 m c2 tx)] w (RetPenO w (penF ls ⟨kind, (lv, pt), ps, tx⟩)) := by
  have hka : Kept w (w.alloc (.cells #[.int .i64 kind, .int .i64 lv, .int .u32 (W pt), .slice A2 m c2, .int .i64 tx] 48)) := (Kept.refl _).alloc _
  have bx := Box.new w #[.int .i64 kind, .int .i64 lv, .int .u32 (W pt), .slice A2 m c2, .int .i64 tx] 48 w.heap.size rfl
  unfold skC
  by_cases hp0 : pageF ls = 0
  case neg =>
    have HF := Lib.hid (show penF ls ⟨kind, (lv, pt), ps, tx⟩ = (pageF ls, []) by
      have : viewF ls (lv, pt) = pageF ls := by unfold viewF; rw [if_pos hp0]
      unfold penF
      rw [if_pos (by rw [this]; exact hp0), this])
    have hne : (pageF ls != 0) = true := by simpa using hp0
    clear hp0
    go_enter Try.func24, Try.ntmps24
    go_wp2_with fail
    refine (pageCheck_any _ _ _ ls _ (hs.kept hka) hn).mono ?_
    rintro e w1 ⟨rfl, k1⟩
    have FIN := Lib.hid (RetPenO.no (pageF ls) (hka.trans k1))
    go_wp2_with fail
    go_ret2
    rw [HF.out]
    exact FIN.out
  case pos =>
  have hvl : viewF ls (lv, pt) = labF (lv, pt) := by unfold viewF; rw [if_neg (by simp [hp0])]
  have HP := Lib.hid hp0
  have HOK := Lib.hid (pageF_zero.1 hp0)
  by_cases hl0 : labF (lv, pt) = 0
  case neg =>
    have HF := Lib.hid (show penF ls ⟨kind, (lv, pt), ps, tx⟩ = (labF (lv, pt), []) by
      unfold penF
      rw [if_pos (by rw [hvl]; exact hl0), hvl])
    have hne : (labF (lv, pt) != 0) = true := by simpa using hl0
    clear hp0 hl0 hvl
    go_enter Try.func24, Try.ntmps24
    go_wp2_with fail
    refine (pageCheck_any _ _ _ ls _ (hs.kept hka) hn).mono ?_
    rintro e w1 ⟨rfl, k1⟩
    rw [HP.out]
    have bx1 := bx.kept k1
    have e1 := bx1.at_ 1 rfl
    have e2 := bx1.at_ 2 rfl
    clear bx
    go_wp2_with fail
    refine (labCheck_any lv pt _).mono ?_
    rintro e w2 ⟨rfl, k2⟩
    have FIN := Lib.hid (RetPenO.no (labF (lv, pt)) ((hka.trans k1).trans k2))
    go_wp2_with fail
    go_ret2
    rw [HF.out]
    exact FIN.out
  case pos =>
  have HV := Lib.hid (hvl.trans hl0)
  have HF := Lib.hid (show penF ls ⟨kind, (lv, pt), ps, tx⟩ = penC ls ⟨kind, (lv, pt), ps, tx⟩ by
    unfold penF
    rw [if_neg (by rw [hvl, hl0]; simp)])
  have hn40 : n ≤ 1000 := by have := HOK.out.1; rw [hs.2] at this; omega
  have HL := Lib.hid hl0
  clear hp0 hl0 hvl
  go_enter Try.func24, Try.ntmps24
  go_wp2_with fail
  refine (pageCheck_any _ _ _ ls _ (hs.kept hka) hn).mono ?_
  rintro e w1 ⟨rfl, k1⟩
  rw [HP.out]
  have bx1 := bx.kept k1
  have e1 := bx1.at_ 1 rfl
  have e2 := bx1.at_ 2 rfl
  clear bx
  go_wp2_with fail
  refine (labCheck_any lv pt _).mono ?_
  rintro e w2 ⟨rfl, k2⟩
  rw [HL.out]
  have bx2 := bx1.kept k2
  have q2 := (hka.trans k1).trans k2
  clear e1 e2 bx1 k1 k2 hka
  have e0 := bx2.at_ 0 rfl
  have e1 := bx2.at_ 1 rfl
  have e2 := bx2.at_ 2 rfl
  have e3 := bx2.at_ 3 rfl
  have e4 := bx2.at_ 4 rfl
  by_cases h1 : kind = 1
  · subst h1
    have HC := Lib.hid (show penC ls ⟨1, (lv, pt), ps, tx⟩ = putF ls (lv, pt) ps tx by unfold penC; rw [if_pos rfl])
    go_wp2_with fail
    refine (putAll_any A n c ls 1 lv pt A2 m c2 ps tx w2 (hs.kept q2) (hp.kept q2) hn40 hm hmc HOK.out.up).mono ?_
    rintro e w3 ⟨A3, c3, rfl, h3⟩
    have FIN := Lib.hid (show RetPenO w (putF ls (lv, pt) ps tx) (.returned (.tuple #[.slice A3 (putF ls (lv, pt) ps tx).2.length c3, .int .i64 (putF ls (lv, pt) ps tx).1])) w3 from ⟨A3, c3, rfl, Own.baseP h3 q2⟩)
    go_wp2_with fail
    go_ret2
    rw [HF.out, HC.out]
    exact FIN.out
  · have t1 : (kind == 1) = false := by simpa using h1
    by_cases h2 : kind ≠ 2 ∧ kind ≠ 3
    · have t2 : (kind == 2) = false := by simpa using h2.1
      have t3 : (kind == 3) = false := by simpa using h2.2
      have HC := Lib.hid (show penC ls ⟨kind, (lv, pt), ps, tx⟩ = (6, []) by unfold penC; rw [if_neg h1, if_pos h2])
      have FIN := Lib.hid (RetPenO.no 6 q2)
      clear h1 h2
      go_wp2_with fail
      go_ret2
      rw [HF.out, HC.out]
      exact FIN.out
    · have h23 : kind = 2 ∨ kind = 3 := by omega
      have HC := Lib.hid (show penC ls ⟨kind, (lv, pt), ps, tx⟩ = if (fndF ls (lv, pt) ps).2 ≠ 0 then ((fndF ls (lv, pt) ps).2, []) else if lab (lfAt ls (fndF ls (lv, pt) ps).1.toNat) ≠ (lv, pt) then (7, []) else if kind = 3 then (0, dropL ls (fndF ls (lv, pt) ps).1.toNat) else (0, setL ls (fndF ls (lv, pt) ps).1.toNat tx) by
        unfold penC
        rw [if_neg h1, if_neg h2])
      have hfi := find_any A n c ls lv pt A2 m c2 ps w2 (hs.kept q2) (hp.kept q2) hn hm
      rw [find_is HV.out] at hfi
      have HFI := Lib.hid hfi
      have HFZ := Lib.hid (fun h => fnd_zero (ls := ls) (who := (lv, pt)) (ps := ps) h)
      generalize hfd : fndF ls (lv, pt) ps = fd at *
      obtain ⟨fa, fc⟩ := fd
      clear hfi hfd h2 h1
      rcases h23 with rfl | rfl
      all_goals
        go_wp2_with fail
        refine HFI.out.mono ?_
        rintro e w3 ⟨rfl, k3⟩
        have q3 := q2.trans k3
        have bx3 := bx2.kept k3
        by_cases hfc : fc = 0
        · subst hfc
          obtain ⟨_, i, _, hi, _, rfl⟩ := HFZ.out rfl
          rw [Int.toNat_natCast] at HC
          clear e0 e1 e2 e3 e4
          have hin : i < n := by rw [← hs.2]; exact hi
          obtain ⟨b, off, rfl, hb, c0, c1, c2', c3⟩ := (hs.kept q3).getN i hin
          have e0 := bx3.at_ 0 rfl
          have e1 := bx3.at_ 1 rfl
          have e2 := bx3.at_ 2 rfl
          have e4 := bx3.at_ 4 rfl
          have z1 := kw_cell e1
          have z2 := kw_cell e2
          have z3 := kw_cell c2'
          have z4 := kw_cell c3
          have HLB := Lib.hid (show lab (lfAt ls i) = (lfAt ls i).2.2 from rfl)
          obtain ⟨x, hx⟩ : ∃ x, lfAt ls i = x := ⟨_, rfl⟩
          rw [hx] at c2' c3 z3 z4 HLB HC
          have HX := Lib.hid hx
          obtain ⟨up, t9, lx, px⟩ := x
          simp only at c2' c3 z3 z4 HLB
          have hi1 : (0 : Int) ≤ (i : Int) := by omega
          have hi2 : (i : Int) < (n : Int) := by omega
          clear hx c0 c1 hi k3 q2 bx2
          generalize w.heap.size = B at bx3 e0 e1 e2 e4 z1 z2 ⊢
          by_cases hlx : lx = lv
          · subst hlx
            by_cases hpx : px = pt
            · subst hpx
              have FD := Lib.hid (fun w4 (k : Kept w3 w4) => drop_any (some ⟨b, off, none⟩) n c ls i w4 (hs.kept (q3.trans k)) hn40 HOK.out.up hin)
              have FC := Lib.hid (fun w4 (k : Kept w3 w4) => cloneLf_any (some ⟨b, off, none⟩) n c ls w4 (hs.kept (q3.trans k)) hn40)
              first
              | (have HC1 := Lib.hid (show penC ls ⟨3, (lx, px), ps, tx⟩ = (0, dropL ls i) from HC.out.trans (by rw [if_neg (by simp), if_neg (by rw [HLB.out]; simp)]; simp))
                 go_wp2_with fail
                 refine wp_region_kept (by kernel_rfl) (by kernel_rfl) ?_
                 repeat (go_big_quiet_step (fail))
                 refine wpQuiet_nil ?_
                 intro w4 k4
                 have bx4 := bx3.kept k4
                 clear e0 e1 e2 e4 bx3
                 have e0 := bx4.at_ 0 rfl
                 have q4 := q3.trans k4
                 go_wp2_with fail
                 refine (FD.out w4 k4).mono ?_
                 rintro e w5 ⟨A5, c5, rfl, h5⟩
                 have FIN := Lib.hid (show RetPenO w (0, dropL ls i) (.returned (.tuple #[.slice A5 (dropL ls i).length c5, .int .i64 0])) w5 from ⟨A5, c5, rfl, Own.baseP h5 q4⟩)
                 go_wp2_with fail
                 go_ret2
                 rw [HF.out, HC1.out]
                 exact FIN.out)
              | (have HC1 := Lib.hid (show penC ls ⟨2, (lx, px), ps, tx⟩ = (0, setL ls i tx) from HC.out.trans (by rw [if_neg (by simp), if_neg (by rw [HLB.out]; simp)]; simp))
                 go_wp2_with fail
                 refine wp_region_kept (by kernel_rfl) (by kernel_rfl) ?_
                 repeat (go_big_quiet_step (fail))
                 refine wpQuiet_nil ?_
                 intro w4 k4
                 have bx4 := bx3.kept k4
                 clear e0 e1 e2 e4 bx3
                 have e0 := bx4.at_ 0 rfl
                 have q4 := q3.trans k4
                 go_wp2_with fail
                 refine (FC.out w4 k4).mono ?_
                 rintro e w5 ⟨v5, rfl, own5⟩
                 obtain ⟨A5, cap, rfl, _, hcap⟩ := own5.form
                 obtain ⟨g, rfl, hg1, hg2⟩ := own5.block (by omega)
                 have hil : i < ls.length := by rw [hs.2]; exact hin
                 have e4 := (bx4.kept own5.2).at_ 4 rfl
                 have hcell := own5.cell (i * 4 + 1) (lfCells_at ls i ls[i] (List.getElem?_eq_getElem hil)).2.1
                 have hfree := own5.free (i * 4 + 1)
                 have O6 := own5.put (i * 4 + 1) (.int .i64 tx)
                 rw [lfCells_set1 ls i tx hil] at O6
                 have hn6 : (setL ls i tx).length = n := by rw [set_len, hs.2]
                 have O7 := Own.baseP O6 q4
                 have FIN := Lib.hid (show RetPenO w (0, setL ls i tx) (.returned (.tuple #[.slice (some ⟨g, 0, none⟩) n cap, .int .i64 0])) _ from
                   ⟨some ⟨g, 0, none⟩, cap, by show _ = Ending.returned (.tuple #[.slice _ (setL ls i tx).length _, _]); rw [hn6], by show Own _ _ _ _ (.slice _ (setL ls i tx).length _) (setL ls i tx).length _; rw [hn6]; exact O7⟩)
                 clear own5 O6 O7 e0
                 go_wp2_with fail
                 go_ret2
                 rw [HF.out, HC1.out]
                 exact FIN.out)
            · have d9 : (px == pt) = false := by simpa using hpx
              have HC1 := Lib.hid (HC.out.trans (show _ = ((7 : Int), ([] : List Lf)) by rw [if_neg (by simp), if_pos (by rw [HLB.out]; simpa using hpx)]))
              clear hpx
              go_wp2_with fail
              refine wp_region_kept (by kernel_rfl) (by kernel_rfl) ?_
              repeat (go_big_quiet_step (fail))
              refine wpQuiet_nil ?_
              intro w4 k4
              have FIN := Lib.hid (RetPenO.no 7 (q3.trans k4))
              go_wp2_with fail
              go_ret2
              rw [HF.out, HC1.out]
              exact FIN.out
          · have d9 : (lx == lv) = false := by simpa using hlx
            have HC1 := Lib.hid (HC.out.trans (show _ = ((7 : Int), ([] : List Lf)) by rw [if_neg (by simp), if_pos (by rw [HLB.out]; simp; exact fun h => absurd h hlx)]))
            clear hlx
            go_wp2_with fail
            refine wp_region_kept (by kernel_rfl) (by kernel_rfl) ?_
            repeat (go_big_quiet_step (fail))
            refine wpQuiet_nil ?_
            intro w4 k4
            have FIN := Lib.hid (RetPenO.no 7 (q3.trans k4))
            go_wp2_with fail
            go_ret2
            rw [HF.out, HC1.out]
            exact FIN.out
        · have hne : (fc != 0) = true := by simpa using hfc
          have HC1 := Lib.hid (HC.out.trans (by rw [if_pos hfc]))
          have FIN := Lib.hid (RetPenO.no fc q3)
          clear e0 e1 e2 e3 e4 hfc
          go_wp2_with fail
          go_ret2
          rw [HF.out, HC1.out]
          exact FIN.out
theorem do_any (A : Option Addr) (n c : Nat) (ls : List Lf) (kind lv : Int) (pt : BitVec 32) (A2 : Option Addr) (m c2 : Nat) (ps : List Int) (tx : Int) (w : World) (hs : SlL w A n ls) (hp : SlI w A2 m ps) (hn : n ≤ maxLen) (hm : m ≤ maxLen) (hmc : m ≤ c2) :
    Calls Try.prog 24 #[.slice A n c, .agg (skC kind lv pt A2 m c2 tx)] w (RetPen w (penF ls ⟨kind, (lv, pt), ps, tx⟩)) :=
  (doO_any A n c ls kind lv pt A2 m c2 ps tx w hs hp hn hm hmc).mono fun _ _ h => h.weak
end Go.Proofs.Ytjcooagchjjknaa
