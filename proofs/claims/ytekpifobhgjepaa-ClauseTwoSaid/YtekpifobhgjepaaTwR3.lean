/- The walk of Refute. -/
import Derived.Test.YtekpifobhgjepaaTwR2
import Derived.Deep.CutRange
namespace Go.Proofs.Ytekpifobhgjepaa
open Go Go.RowKit
set_option linter.unusedVariables false

/-- the state of Refute, in memory and plain -/
structure RSt (n : Nat) (rs : List Ru) (w0 w : World) (all : List Ru) (by_ : List Pr) (lev : List Ru) (va vb : Value) (bm : Nat) : Prop where
  rp : RP w0 w all.length all.length (ruCells all) (prCells by_) lev va vb bm
  st : RfS n rs all by_
  mem : ∀ x, x ∈ lev ↔ x ∈ all
  ll : lev.length ≤ all.length
theorem RSt.kept {n : Nat} {rs : List Ru} {w0 w w' : World} {all lev : List Ru} {by_ : List Pr} {va vb : Value} {bm : Nat} (h : RSt n rs w0 w all by_ lev va vb bm) (k : Kept w w') : RSt n rs w0 w' all by_ lev va vb bm := ⟨h.rp.kept k, h.st, h.mem, h.ll⟩
theorem twRu_append (ls ms : List Ru) : ruCells (ls ++ ms) = ruCells ls ++ ruCells ms := by
  unfold ruCells
  rw [List.flatMap_append]
theorem cl_res (a b : Ru) : ∃ (cc : Ru) (ok : Bool), ((ok = true → resO a b = some cc) ∧ (ok = false → resO a b = none)) ∧ ∀ w : World, Calls Try.prog 42 #[.agg #[.int .u32 (W a.1), .int .u32 (W a.2)], .agg #[.int .u32 (W b.1), .int .u32 (W b.2)]] w fun e w' => e = .returned (.tuple #[.agg #[.int .u32 (W cc.1), .int .u32 (W cc.2)], .bool ok]) ∧ Kept w w' := by
  refine ⟨(resB a b).1, (resB a b).2, ?_, fun w => ?_⟩
  · cases h : resO a b with
    | none => rw [resB_none h]; exact ⟨fun h => (by cases h), fun _ => rfl⟩
    | some c => rw [resB_some h]; exact ⟨fun _ => rfl, fun h => (by cases h)⟩
  · refine (clRes_any a b w).mono ?_
    rintro e w' ⟨k, rfl⟩
    exact ⟨rfl, k⟩
/-- what Refute hands back where nothing is wrong -/
def RetRf (n : Nat) (rs : List Ru) (w : World) (e : Ending) (w' : World) : Prop := Kept w w' ∧ ((e = .returned (.tuple #[.slice none 0 0, .int .i64 5]) ∧ ∃ s, fitB n s = true ∧ trueB rs s = true) ∨ (∃ A c out, e = .returned (.tuple #[.slice A (List.length out) c, .int .i64 0]) ∧ SlP w' A out.length out ∧ refB rs out ∧ out.length ≤ 10000))
set_option maxRecDepth 100000 in
set_option maxHeartbeats 16000000 in
theorem refute_good (n : Nat) (A : Option Addr) (len c : Nat) (rs : List Ru) (w : World) (hs : SlR w A len rs) (h : satF n rs = 0) (hn6 : n ≤ 6) (hn : len ≤ 16) (hfit : ∀ c ∈ rs, fitB n (c.1 ||| c.2) = true) (hz : ((0#32, 0#32) : Ru) ∉ rs) :
    Calls Try.prog 19 #[.int .i64 n, .slice A len c] w (RetRf n rs w) := by
  have HW := Lib.hid (wrong_any n A len c rs w hs)
  rw [h] at HW
  have HC := Lib.hid (fun w' (k : Kept w w') => twContains_any A len c rs (0#32, 0#32) w' (hs.kept k) (by omega))
  have hzf : rs.any (eqR (0#32, 0#32)) = false := by
    cases hh : rs.any (eqR (0#32, 0#32)) with
    | false => rfl
    | true => exact absurd (any_eqR.1 hh) hz
  rw [hzf] at HC
  simp only [W_zero] at HC
  have HL := Lib.hid hs.2
  have HS0 := Lib.hid (RfS.start hfit hz)
  have hmm := @run_makeMap Try.prog
  have hmk := run_makeP len (by omega)
  clear hzf hfit hz h
  go_enter Try.func19, Try.ntmps19
  go_wp2_with fail
  refine HW.out.mono ?_
  rintro e w1 ⟨rfl, k1⟩
  go_wp2_with fail
  refine (HC.out _ k1).mono ?_
  rintro e w2 ⟨rfl, k2⟩
  have K2 := Lib.hid (k1.trans k2)
  clear k1 k2 HW HC
  go_wp2_with fail
  refine (twClone_any A len c rs _ (hs.kept K2.out) (by omega)).mono ?_
  rintro e w3 ⟨va, rfl, hown3⟩
  have ho3 : Own w w3 29 2 va len (ruCells rs) := ⟨⟨hown3.1.1, by
    rcases hown3.1.2 with hq | ⟨g, cap, cur, hv, hg, rest⟩
    · exact .inl hq
    · exact .inr ⟨g, cap, cur, hv, Nat.le_trans K2.out.size hg, rest⟩⟩, K2.out.trans hown3.2⟩
  clear hown3
  go_wp2_with fail
  obtain ⟨B3, hB3⟩ : ∃ B, w3.heap.size = B := ⟨_, rfl⟩
  have rp0 : RP w ((w3.alloc (.cells (prCells (List.replicate len (0, 0))).toArray 85)).alloc (.map #[] 0)) len len (ruCells rs) (prCells (List.replicate len (0, 0))) [] va (.slice (some ⟨B3, 0, none⟩) len len) (B3 + 1) := by
    have hp : Own w (w3.alloc (.cells (prCells (List.replicate len (0, 0))).toArray 85)) 85 2 (.slice (some ⟨B3, 0, none⟩) len len) len (prCells (List.replicate len (0, 0))) := by
      have := Own.made (ho3.kept0) 85 (prCells (List.replicate len (0, 0))).toArray 2 len B3 hB3 (by rw [List.size_toArray, prCells_length, List.length_replicate]) (by unfold maxLen; omega)
      simpa using this
    refine ⟨(ho3.alloc _).alloc _, hp.alloc _, LevK.made _ _ (by simp [hB3]), fun k hk h2 => ?_, fun k hk => ?_, fun k hk => ?_, ?_⟩
    · have := (own_low ho3 k hk).2
      simp [Value.ownBlock] at h2
      omega
    · have := (own_low ho3 k hk).2
      omega
    · simp [Value.ownBlock] at hk
      omega
    · have := ho3.kept0.size
      omega
  generalize (w3.alloc (.cells (prCells (List.replicate len (0, 0))).toArray 85)).alloc (.map #[] 0) = w5 at rp0
  clear hmm hmk ho3
  subst hB3
  generalize w3.heap.size = B3 at rp0 ⊢
  go_loopw [35] (fun t wr => ∃ (k : Nat) (lev : List Ru), k ≤ len ∧ t = .int .i64 k ∧ RP w wr len len (ruCells rs) (prCells (List.replicate len (0, 0))) lev va (.slice (some ⟨B3, 0, none⟩) len len) (B3 + 1) ∧ Hid ((∀ x, x ∈ lev ↔ x ∈ rs.take k) ∧ lev.length ≤ k)) (fun t _ => len - (intOf t).toNat)
  case atStart => exact ⟨0, [], Nat.zero_le _, rfl, rp0, Lib.hid ⟨by simp, by simp⟩⟩
  case round =>
    clear rp0
    obtain ⟨k, lev, hk, rfl, rp, HM⟩ := hrel
    by_cases hlt : k < len
    · obtain ⟨b, off, hkl, rfl, hb, e1, e2⟩ := (hs.kept rp.ow.kept0).get k hlt
      have HE := Lib.hid (show rs.take (k + 1) = rs.take k ++ [rs[k]] from List.take_succ_eq_append_getElem hkl)
      generalize rs[k] = r at e1 e2 HE
      have g1 : (0 : Int) ≤ (k : Int) := by omega
      have g2 : (k : Int) < (len : Int) := by omega
      have rp2 := rp.kept ((Kept.refl wr).alloc (.cells #[.int .u32 (W r.1), .int .u32 (W r.2)] 29))
      obtain ⟨w', lev', hrun, hlev', hmem, hl', hg⟩ := rp2.mp.put (by have := HM.out.2; omega) r
      unfold cbV at hrun
      have HRP := Lib.hid (rp2.put hlev' hg)
      have HS := Lib.hid (show (∀ x, x ∈ lev' ↔ x ∈ rs.take (k + 1)) ∧ lev'.length ≤ k + 1 from
        ⟨fun x => by rw [hmem, HE.out, List.mem_append, List.mem_singleton, HM.out.1], by have := HM.out.2; omega⟩)
      clear rp rp2 hlev' hmem hl' hg
      go_wp2_with fail
      go_roundw
      case rel => exact ⟨k + 1, lev', by omega, by go_num, HRP.out, HS⟩
      case measure => simp [intOf]; omega
    · have HST0 := Lib.hid (show RSt n rs w wr rs (List.replicate len (0, 0)) lev va (.slice (some ⟨B3, 0, none⟩) len len) (B3 + 1) from by
        have hl := HL.out
        have h1 : rs.take k = rs := List.take_of_length_le (by omega)
        have h2 := HM.out
        rw [h1] at h2
        exact ⟨by rw [hl]; exact rp, by rw [← hl]; exact HS0.out, h2.1, by omega⟩)
      clear HS0 rp
      go_wp2_with fail
      go_loopw [7, 8, 12] (fun va vb t wr => ∃ (i : Nat) (all : List Ru) (by_ : List Pr) (lev : List Ru), i ≤ all.length ∧ t = .int .i64 i ∧ RSt n rs w wr all by_ lev va vb (B3 + 1) ∧ Hid (doneO all i)) (fun _ _ t _ => 4200 - (intOf t).toNat)
      case atStart => exact ⟨0, rs, _, lev, Nat.zero_le _, rfl, HST0.out, Lib.hid (doneO.start _)⟩
      case round =>
        clear HST0
        obtain ⟨i, all, by_, lev, hi, rfl, rst, HD⟩ := hrel
        have hsm := rst.st.small hn6
        obtain ⟨AA, cA, rfl, _, _⟩ := rst.rp.ow.form
        obtain ⟨AB, cB, rfl, _, _⟩ := rst.rp.pw.form
        by_cases hlt : i < all.length
        · have g1 : (0 : Int) ≤ (i : Int) := by omega
          have HST1 := Lib.hid rst
          have hi4 : i ≤ 4112 := by have := HL.out; omega
          clear rst
          go_wp2_with fail
          go_loopw [7, 8, 50] (fun va vb t wr => ∃ (j : Nat) (all : List Ru) (by_ : List Pr) (lev : List Ru), j ≤ i + 1 ∧ t = .int .i64 j ∧ i < all.length ∧ RSt n rs w wr all by_ lev va vb (B3 + 1) ∧ Hid (doneI all i j)) (fun _ _ t _ => i + 1 - (intOf t).toNat)
          case atStart => exact ⟨0, all, by_, lev, Nat.zero_le _, rfl, hlt, HST1.out, Lib.hid (doneI.start HD.out)⟩
          case round =>
            clear HST1 HD hlt hsm
            obtain ⟨j, all, by_, lev, hj, rfl, hlt, rst, HD⟩ := hrel
            have hsm := rst.st.small hn6
            obtain ⟨AA, cA, rfl, _, _⟩ := rst.rp.ow.form
            obtain ⟨AB, cB, rfl, _, _⟩ := rst.rp.pw.form
            by_cases hjl : j < i + 1
            · have g2 : (0 : Int) ≤ (j : Int) := by omega
              have g3 : (j : Int) < (i : Int) + 1 := by omega
              obtain ⟨XB, hXB⟩ : ∃ X, wr.heap.size = X := ⟨_, rfl⟩
              have ha := (Kept.refl wr).alloc (.cells #[.int .i64 (i : Int), .int .i64 (j : Int), .int .i64 (j : Int), .int .i64 (i : Int)] 85)
              have HST2 := Lib.hid (rst.kept ha)
              have HRX := Lib.hid (show Row w (wr.alloc (.cells #[.int .i64 (i : Int), .int .i64 (j : Int), .int .i64 (j : Int), .int .i64 (i : Int)] 85)) XB 85 [.int .i64 (i : Int), .int .i64 (j : Int), .int .i64 (j : Int), .int .i64 (i : Int)] from Row.new rst.rp.ow.kept0 _ _ XB hXB)
              have HXA := Lib.hid (show ∀ g, Value.ownBlock (.slice AA all.length cA) = some g → g ≠ XB from fun g hg => by have := (own_low rst.rp.ow g hg).2; omega)
              have HXP := Lib.hid (show ∀ g, Value.ownBlock (.slice AB all.length cB) = some g → g ≠ XB from fun g hg => by have := (own_low rst.rp.pw g hg).2; omega)
              have HXM := Lib.hid (show B3 + 1 < XB from by rw [← hXB]; exact rst.rp.mp.lt)
              clear rst ha
              go_wp2_with fail
              generalize wr.alloc (.cells #[.int .i64 (i : Int), .int .i64 (j : Int), .int .i64 (j : Int), .int .i64 (i : Int)] 85) = w6 at HST2 HRX
              clear hXB
              go_loopw [7, 8, 61] (fun va vb t wr => ∃ (k : Nat) (all : List Ru) (by_ : List Pr) (lev : List Ru), k ≤ 2 ∧ t = .int .i64 k ∧ i < all.length ∧ RSt n rs w wr all by_ lev va vb (B3 + 1) ∧ Row w wr XB 85 [.int .i64 (i : Int), .int .i64 (j : Int), .int .i64 (j : Int), .int .i64 (i : Int)] ∧ Hid ((∀ g, va.ownBlock = some g → g ≠ XB) ∧ ∀ g, vb.ownBlock = some g → g ≠ XB) ∧ Hid (doneI all i j ∧ (1 ≤ k → doneR all i j) ∧ (2 ≤ k → doneR all j i))) (fun _ _ t _ => 2 - (intOf t).toNat)
              case atStart => exact ⟨0, all, by_, lev, Nat.zero_le _, rfl, hlt, HST2.out, HRX.out, Lib.hid ⟨HXA.out, HXP.out⟩, Lib.hid ⟨HD.out, fun h => by omega, fun h => by omega⟩⟩
              case round =>
                clear HST2 HRX HXA HXP HD hlt hsm
                obtain ⟨k, all, by_, lev, hk, rfl, hlt, rst, rx, HX, HD⟩ := hrel
                have hsm := rst.st.small hn6
                obtain ⟨AA, cA, rfl, _, _⟩ := rst.rp.ow.form
                obtain ⟨AB, cB, rfl, _, _⟩ := rst.rp.pw.form
                by_cases hkl : k < 2
                · obtain ⟨p, q, hp, hq, c0, c1, HGO⟩ : ∃ p q : Nat, p < all.length ∧ q < all.length ∧ wr.cell? ⟨XB, k * 2, none⟩ = some (.int .i64 (p : Int)) ∧ wr.cell? ⟨XB, k * 2 + 1, none⟩ = some (.int .i64 (q : Int)) ∧ Hid (∀ all' : List Ru, doneI all' i j → (1 ≤ k → doneR all' i j) → doneR all' p q → (doneI all' i j ∧ (1 ≤ k + 1 → doneR all' i j) ∧ (2 ≤ k + 1 → doneR all' j i))) := by
                    rcases (by omega : k = 0 ∨ k = 1) with rfl | rfl
                    · exact ⟨i, j, hlt, by omega, rx.cell 0 rfl, rx.cell 1 rfl, Lib.hid fun all' h1 _ h3 => ⟨h1, fun _ => h3, fun h => by omega⟩⟩
                    · exact ⟨j, i, by omega, hlt, rx.cell 2 rfl, rx.cell 3 rfl, Lib.hid fun all' h1 h2 h3 => ⟨h1, fun _ => h2 (by omega), fun _ => h3⟩⟩
                  have g4 : (0 : Int) ≤ (k : Int) := by omega
                  have g5 : (k : Int) < 2 := by omega
                  obtain ⟨X, hX⟩ : ∃ X, wr.heap.size = X := ⟨_, rfl⟩
                  have ha := (Kept.refl wr).alloc (.cells #[.int .i64 (p : Int), .int .i64 (q : Int)] 85)
                  have rst2 := rst.kept ha
                  have rx2 := rx.kept ha
                  have bx2 : Row w (wr.alloc (.cells #[.int .i64 (p : Int), .int .i64 (q : Int)] 85)) X 85 [.int .i64 (p : Int), .int .i64 (q : Int)] := Row.new rst.rp.ow.kept0 _ _ X hX
                  have HXX := Lib.hid (show XB < X ∧ (∀ g, Value.ownBlock (.slice AA all.length cA) = some g → g ≠ X) ∧ ∀ g, Value.ownBlock (.slice AB all.length cB) = some g → g ≠ X from
                    ⟨by rw [← hX]; exact rx.lt, fun g hg => by have := (own_low rst.rp.ow g hg).2; omega, fun g hg => by have := (own_low rst.rp.pw g hg).2; omega⟩)
                  obtain ⟨bl, offl, rfl, hbl, p1, p2⟩ := (own_slR rst2.rp.ow rfl).getc p hp
                  obtain ⟨bl2, offl2, e8, hbl2, q1, q2⟩ := (own_slR rst2.rp.ow rfl).getc q hq
                  cases e8
                  obtain ⟨cc, okc, hcc, hres⟩ := cl_res (cl0 all p) (cl0 all q)
                  have HCC := Lib.hid hcc
                  have HRES := Lib.hid hres
                  clear rst rx ha hcc hres
                  generalize cl0 all p = a at p1 p2 HRES
                  generalize cl0 all q = a2 at q1 q2 HRES
                  have b0 := bx2.cell 0 rfl
                  have b1 := bx2.cell 1 rfl
                  have g6 : (0 : Int) ≤ (p : Int) := by omega
                  have g7 : (p : Int) < (all.length : Int) := by omega
                  have g8 : (0 : Int) ≤ (q : Int) := by omega
                  have g9 : (q : Int) < (all.length : Int) := by omega
                  go_wp2_with fail
                  generalize wr.alloc (.cells #[.int .i64 (p : Int), .int .i64 (q : Int)] 85) = wq at rst2 rx2 bx2 p1 p2 q1 q2 b0 b1 hbl hbl2
                  have RST2 := Lib.hid rst2
                  have RX2 := Lib.hid rx2
                  have BX2 := Lib.hid bx2
                  clear rst2 rx2 bx2 hX c0 c1
                  have HSW := Lib.hid (fun w' (k : Kept wq w') => show w'.cell? ⟨X, 0, none⟩ = some (.int .i64 (p : Int)) ∧ w'.cell? ⟨X, 1, none⟩ = some (.int .i64 (q : Int)) ∧ w'.cell? ⟨bl, offl + p * 2, none⟩ = some (.int .u32 (W a.1)) ∧ w'.cell? ⟨bl, offl + p * 2 + 1, none⟩ = some (.int .u32 (W a.2)) ∧ w'.cell? ⟨bl, offl + q * 2, none⟩ = some (.int .u32 (W a2.1)) ∧ w'.cell? ⟨bl, offl + q * 2 + 1, none⟩ = some (.int .u32 (W a2.2)) ∧ Kept wq w' from
                    ⟨(k.cell (cell_lt b0)).trans b0, (k.cell (cell_lt b1)).trans b1, (k.cell (cell_lt p1)).trans p1, (k.cell (cell_lt p2)).trans p2, (k.cell (cell_lt q1)).trans q1, (k.cell (cell_lt q2)).trans q2, k⟩)
                  go_cut [16, 17, 61] from 61 to 111 (fun s16 s17 s61 wx => s17 = .bool okc ∧ s61 = .int .i64 (k : Int) ∧ ∃ X5 : Nat, s16 = .pointer (some ⟨X5, 0, none⟩) ∧ Hid (Row wq wx X5 29 [.int .u32 (W cc.1), .int .u32 (W cc.2)]))
                  case first =>
                    go_region_held3 (fun w' => w'.cell? ⟨X, 0, none⟩ = some (.int .i64 (p : Int)) ∧ w'.cell? ⟨X, 1, none⟩ = some (.int .i64 (q : Int)) ∧ w'.cell? ⟨bl, offl + p * 2, none⟩ = some (.int .u32 (W a.1)) ∧ w'.cell? ⟨bl, offl + p * 2 + 1, none⟩ = some (.int .u32 (W a.2)) ∧ w'.cell? ⟨bl, offl + q * 2, none⟩ = some (.int .u32 (W a2.1)) ∧ w'.cell? ⟨bl, offl + q * 2 + 1, none⟩ = some (.int .u32 (W a2.2)) ∧ Kept wq w')
                      ((refine HSW.out _ ?_; repeat first | exact Kept.refl _ | exact K3.out | refine Kept.alloc ?_ _ | refine Kept.drew ?_ | refine Kept.setCell ?_ (by first | exact Nat.le_refl _ | exact K3.out.size) _))
                      ((first
                        | (go_at_call 42
                           refine (HRES.out _).mono ?_
                           rintro e wz ⟨rfl, k3⟩
                           have K3 := Lib.hid (Kept.trans (show Kept wq _ by repeat first | exact Kept.refl _ | refine Kept.alloc ?_ _ | refine Kept.drew ?_) k3)
                           try (have bxs := boxes1 (Kept.trans (Kept.drew (Kept.refl (wq.alloc (.cells #[.int .u32 0, .int .u32 0] 29)))) k3)
                                have bc0 := bxs.at_ 0 rfl
                                have bc1 := bxs.at_ 1 rfl
                                have bf0 := bxs.2.2 0
                                have bf1 := bxs.2.2 1
                                have blt := bxs.1
                                have row3 := Lib.hid ((Row.new (Kept.refl wq) 29 [.int .u32 0, .int .u32 0] _ rfl).kept (Kept.trans (Kept.drew (Kept.refl (wq.alloc (.cells #[.int .u32 0, .int .u32 0] 29)))) k3))
                                clear bxs)
                           clear k3)
                        | fail))
                    all_goals
                      first
                      | (obtain ⟨w7, hw7⟩ : ∃ w7, wz.alloc (.cells #[.int .u32 (W cc.1), .int .u32 (W cc.2)] 29) = w7 := ⟨_, rfl⟩
                         rw [hw7]
                         have R7 := Lib.hid (show Row wq w7 wz.heap.size 29 [.int .u32 (W cc.1), .int .u32 (W cc.2)] from hw7 ▸ Row.new K3.out 29 [.int .u32 (W cc.1), .int .u32 (W cc.2)] _ rfl)
                         clear hw7
                         generalize wz.heap.size = X5 at R7 ⊢)
                      | (obtain ⟨w7, hw7⟩ : ∃ w7, (wz.setCell ⟨wq.heap.size, 0, none⟩ (.int .u32 (W cc.1))).setCell ⟨wq.heap.size, 1, none⟩ (.int .u32 (W cc.2)) = w7 := ⟨_, rfl⟩
                         rw [hw7]
                         have R7 := Lib.hid (show Row wq w7 wq.heap.size 29 [.int .u32 (W cc.1), .int .u32 (W cc.2)] from hw7 ▸ (row3.out.set 0 (.int .u32 (W cc.1))).set 1 (.int .u32 (W cc.2)))
                         clear hw7 bc0 bc1 bf0 bf1 blt row3
                         generalize wq.heap.size = X5 at R7 ⊢)
                      rename_i hHeld
                      clear hHeld
                      clear HSW HRES b0 b1 p1 p2 q1 q2 hbl hbl2
                      go_wp2_with fail
                      go_meet
                      exact ⟨rfl, rfl, _, rfl, R7⟩
                  case rest =>
                    clear HSW HRES b0 b1 p1 p2 q1 q2 hbl hbl2
                    obtain ⟨rfl, rfl, X5, rfl, R7⟩ := hcut
                    generalize hw7 : wc = w7 at *
                    clear hw7
                    have K7 := Lib.hid R7.out.kept0
                    have x0 := R7.out.cell 0 rfl
                    have x1 := R7.out.cell 1 rfl
                    have RST7 := Lib.hid (RST2.out.kept K7.out)
                    have RX7 := Lib.hid (RX2.out.kept K7.out)
                    have BX7 := Lib.hid (BX2.out.kept K7.out)
                    have HG7 := Lib.hid (show RG w w7 all.length all.length (ruCells all) (prCells by_) lev (.slice (some ⟨bl, offl, none⟩) all.length cA) (.slice AB all.length cB) (B3 + 1) [(X5, 29, [.int .u32 (W cc.1), .int .u32 (W cc.2)]), (X, 85, [.int .i64 (p : Int), .int .i64 (q : Int)]), (XB, 85, [.int .i64 (i : Int), .int .i64 (j : Int), .int .i64 (j : Int), .int .i64 (i : Int)])] from by
                      have hlo : w.heap.size ≤ wq.heap.size := RST2.out.rp.ow.kept0.size
                      have hx5 : wq.heap.size ≤ X5 := R7.out.2.1
                      refine ⟨RST7.out.rp, fun t ht => ?_⟩
                      simp only [List.mem_cons, List.not_mem_nil, or_false] at ht
                      rcases ht with rfl | rfl | rfl
                      · refine ⟨⟨R7.out.1, Nat.le_trans hlo hx5, RST7.out.rp.ow.kept0⟩, fun g hg => ?_, fun g hg => ?_, ?_⟩
                        · have := (own_low RST2.out.rp.ow g hg).2
                          show g ≠ X5
                          omega
                        · have := (own_low RST2.out.rp.pw g hg).2
                          show g ≠ X5
                          omega
                        · have := RST2.out.rp.mp.lt
                          show B3 + 1 ≠ X5
                          omega
                      · exact ⟨BX7.out, HXX.out.2.1, HXX.out.2.2, by have := HXX.out.1; have := HXM.out; show B3 + 1 ≠ X; omega⟩
                      · exact ⟨RX7.out, HX.out.1, HX.out.2, by have := HXM.out; show B3 + 1 ≠ XB; omega⟩)
                    clear RST2 RX2 BX2
                    cases okc with
                    | false =>
                      have HDN := Lib.hid (HGO.out all HD.out.1 HD.out.2.1 (fun c h1 h2 => by rw [HCC.out.2 rfl] at h1; cases h1))
                      go_wp2_with fail
                      go_roundw
                      case rel => exact ⟨k + 1, all, by_, lev, by omega, by go_num, hlt, RST7.out, RX7.out, HX, HDN⟩
                      case measure => simp [intOf]; omega
                    | true =>
                      have HRS := Lib.hid (HCC.out.1 rfl)
                      have HLK := RST7.out.rp.mp.look cc
                      unfold cbV at HLK
                      by_cases hin : cc ∈ lev
                      · rw [decide_eq_true hin] at HLK
                        have HDN := Lib.hid (HGO.out all HD.out.1 HD.out.2.1 (fun c h1 h2 => by rw [HRS.out] at h1; injection h1 with h1; rw [← h1]; exact (RST7.out.mem cc).1 hin))
                        clear hin
                        go_wp2_with fail
                        go_roundw
                        case rel => exact ⟨k + 1, all, by_, lev, by omega, by go_num, hlt, RST7.out, RX7.out, HX, HDN⟩
                        case measure => simp [intOf]; omega
                      · rw [decide_eq_false hin] at HLK
                        obtain ⟨bt, hbt⟩ : ∃ b, (cc.1 &&& cc.2 != 0#32) = b := ⟨_, rfl⟩
                        cases bt with
                        | true =>
                          have HDN := Lib.hid (HGO.out all HD.out.1 HD.out.2.1 (fun c h1 h2 => by rw [HRS.out] at h1; injection h1 with h1; rw [← h1] at h2; exact absurd (hbt.symm.trans h2) (by decide)))
                          clear hin
                          go_wp2_with fail
                          go_roundw
                          case rel => exact ⟨k + 1, all, by_, lev, by omega, by go_num, hlt, RST7.out, RX7.out, HX, HDN⟩
                          case measure => simp [intOf]; omega
                        | false =>
                          obtain ⟨w8, lev', hrun, hlev', hmem, hl', hg⟩ := RST7.out.rp.mp.put (by have := RST7.out.ll; have := HL.out; omega) cc
                          unfold cbV at hrun
                          have HG8 := Lib.hid (HG7.out.put hlev' hg)
                          have HNW := Lib.hid hin
                          have HLV := Lib.hid (show (∀ x, x ∈ lev' ↔ x ∈ lev ∨ x = cc) ∧ lev'.length ≤ lev.length + 1 from ⟨hmem, hl'⟩)
                          clear hin hlev' hmem hl' hg
                          have hal : all.length ≤ 5000 := by have := HL.out; omega
                          go_upto_region 26 with fail
                          have HS4 := Lib.hid (fun (w' : World) (hh : ∃ na nb la lb va vb ps, RG w w' na nb la lb lev' va vb (B3 + 1) ps ∧ ((X5, 29, [.int .u32 (W cc.1), .int .u32 (W cc.2)]) : RwV) ∈ ps ∧ ((X, 85, [.int .i64 (p : Int), .int .i64 (q : Int)]) : RwV) ∈ ps) => show w'.cell? ⟨X5, 0, none⟩ = some (.int .u32 (W cc.1)) ∧ w'.cell? ⟨X5, 1, none⟩ = some (.int .u32 (W cc.2)) ∧ w'.cell? ⟨X, 0, none⟩ = some (.int .i64 (p : Int)) ∧ w'.cell? ⟨X, 1, none⟩ = some (.int .i64 (q : Int)) from by
                            obtain ⟨_, _, _, _, _, _, _, hG, h5, hX⟩ := hh
                            exact ⟨hG.cell h5 0 rfl, hG.cell h5 1 rfl, hG.cell hX 0 rfl, hG.cell hX 1 rfl⟩)
                          have HFIN := Lib.hid (fun (wx : World) (va vb : Value) (ps : List RwV) (h : RG w wx (all.length + 1) (all.length + 1) (ruCells all ++ [.int .u32 (W cc.1), .int .u32 (W cc.2)]) (prCells by_ ++ [.int .i64 (p : Int), .int .i64 (q : Int)]) lev' va vb (B3 + 1) ps) (hs : ∀ t ∈ [(X5, 29, [.int .u32 (W cc.1), .int .u32 (W cc.2)]), (X, 85, [.int .i64 (p : Int), .int .i64 (q : Int)]), (XB, 85, [.int .i64 (i : Int), .int .i64 (j : Int), .int .i64 (j : Int), .int .i64 (i : Int)])], t ∈ ps) => show RG w wx (all.length + 1) (all.length + 1) (ruCells (all ++ [cc])) (prCells (by_ ++ [(p, q)])) lev' va vb (B3 + 1) [(X5, 29, [.int .u32 (W cc.1), .int .u32 (W cc.2)]), (X, 85, [.int .i64 (p : Int), .int .i64 (q : Int)]), (XB, 85, [.int .i64 (i : Int), .int .i64 (j : Int), .int .i64 (j : Int), .int .i64 (i : Int)])] from by
                            rw [twRu_append, prCells_append]
                            exact h.sub hs)
                          go_cut [7, 8, 61] from 61 to 111 (fun s7 s8 s61 wx => s61 = .int .i64 (k : Int) ∧ Hid (RG w wx (all.length + 1) (all.length + 1) (ruCells (all ++ [cc])) (prCells (by_ ++ [(p, q)])) lev' s7 s8 (B3 + 1) [(X5, 29, [.int .u32 (W cc.1), .int .u32 (W cc.2)]), (X, 85, [.int .i64 (p : Int), .int .i64 (q : Int)]), (XB, 85, [.int .i64 (i : Int), .int .i64 (j : Int), .int .i64 (j : Int), .int .i64 (i : Int)])]))
                          case first =>
                            go_region_held3 (fun w' => w'.cell? ⟨X5, 0, none⟩ = some (.int .u32 (W cc.1)) ∧ w'.cell? ⟨X5, 1, none⟩ = some (.int .u32 (W cc.2)) ∧ w'.cell? ⟨X, 0, none⟩ = some (.int .i64 (p : Int)) ∧ w'.cell? ⟨X, 1, none⟩ = some (.int .i64 (q : Int)))
                              ((refine HS4.out _ ⟨_, _, _, _, _, _, _, (by first | with_reducible exact HG8.out.drew | with_reducible exact (HG8.out.add _ _ _ rfl).drew | with_reducible exact ((HG8.out.add _ _ _ rfl).add _ _ _ rfl).drew | with_reducible exact HGA.out | with_reducible exact HGA.out.add _ _ _ rfl | with_reducible exact HGB.out | with_reducible exact HGB.out.add _ _ _ rfl | fail), by simp, by simp⟩))
                              ((first
                                | (refine step_pushAt (by rfl) _ _ 22 (by rfl) (.slice (some ⟨bl, offl, none⟩) all.length cA) (by rfl) _ 1 1 (by rfl) 29 Try.underlying22 info_ru rfl (by decide) (by decide) _ all.length (ruCells all) (RG.rp (by first | with_reducible exact HG8.out.drew | with_reducible exact (HG8.out.add _ _ _ rfl).drew | with_reducible exact ((HG8.out.add _ _ _ rfl).add _ _ _ rfl).drew | with_reducible exact HGA.out | with_reducible exact HGA.out.add _ _ _ rfl | with_reducible exact HGB.out | with_reducible exact HGB.out.add _ _ _ rfl | fail)).ow #[.int .u32 (W cc.1), .int .u32 (W cc.2)] (RG.sl (t := 29) (by first | with_reducible exact HG8.out.drew | with_reducible exact (HG8.out.add _ _ _ rfl).drew | with_reducible exact ((HG8.out.add _ _ _ rfl).add _ _ _ rfl).drew | with_reducible exact HGA.out | with_reducible exact HGA.out.add _ _ _ rfl | with_reducible exact HGB.out | with_reducible exact HGB.out.add _ _ _ rfl | fail) (by simp) 2 1 rfl) (by intro u hu; simp at hu; rcases hu with rfl | rfl <;> rfl) (by decide) (by omega) ?_
                                   intro vA wA hown hg hat
                                   have HGA := Lib.hid (RG.pushA (by first | with_reducible exact HG8.out.drew | with_reducible exact (HG8.out.add _ _ _ rfl).drew | with_reducible exact ((HG8.out.add _ _ _ rfl).add _ _ _ rfl).drew | with_reducible exact HGA.out | with_reducible exact HGA.out.add _ _ _ rfl | with_reducible exact HGB.out | with_reducible exact HGB.out.add _ _ _ rfl | fail) hown hg hat)
                                   clear hown hg hat)
                                | (refine step_pushAt (by rfl) _ _ 37 (by rfl) (.slice AB all.length cB) (by rfl) _ 1 1 (by rfl) 85 Try.underlying37 info_pr rfl (by decide) (by decide) _ all.length (prCells by_) (RG.rp (by first | with_reducible exact HG8.out.drew | with_reducible exact (HG8.out.add _ _ _ rfl).drew | with_reducible exact ((HG8.out.add _ _ _ rfl).add _ _ _ rfl).drew | with_reducible exact HGA.out | with_reducible exact HGA.out.add _ _ _ rfl | with_reducible exact HGB.out | with_reducible exact HGB.out.add _ _ _ rfl | fail)).pw #[.int .i64 (p : Int), .int .i64 (q : Int)] (RG.sl (t := 85) (by first | with_reducible exact HG8.out.drew | with_reducible exact (HG8.out.add _ _ _ rfl).drew | with_reducible exact ((HG8.out.add _ _ _ rfl).add _ _ _ rfl).drew | with_reducible exact HGA.out | with_reducible exact HGA.out.add _ _ _ rfl | with_reducible exact HGB.out | with_reducible exact HGB.out.add _ _ _ rfl | fail) (by simp) 2 1 rfl) (by intro u hu; simp at hu; rcases hu with rfl | rfl <;> rfl) (by decide) (by omega) ?_
                                   intro vB wB hown hg hat
                                   have HGB := Lib.hid (RG.pushB (by first | with_reducible exact HG8.out.drew | with_reducible exact (HG8.out.add _ _ _ rfl).drew | with_reducible exact ((HG8.out.add _ _ _ rfl).add _ _ _ rfl).drew | with_reducible exact HGA.out | with_reducible exact HGA.out.add _ _ _ rfl | with_reducible exact HGB.out | with_reducible exact HGB.out.add _ _ _ rfl | fail) hown hg hat)
                                   clear hown hg hat)
                                | fail))
                            all_goals
                              rename_i hHeld
                              clear hHeld
                              clear HS4 HLK hrun x0 x1
                              go_wp2_with fail
                              go_meet
                              first
                              | exact ⟨rfl, Lib.hid (HFIN.out _ _ _ _ HGA.out (fun t ht => by simp at ht; rcases ht with rfl | rfl | rfl <;> simp))⟩
                              | exact ⟨rfl, Lib.hid (HFIN.out _ _ _ _ HGB.out (fun t ht => by simp at ht; rcases ht with rfl | rfl | rfl <;> simp))⟩
                              | fail
                          case rest =>
                            obtain ⟨rfl, HG9⟩ := hcut
                            clear HS4 HFIN HLK hrun x0 x1
                            obtain ⟨A9, c9, rfl, _, _⟩ := HG9.out.rp.ow.form
                            obtain ⟨AB9, cB9, rfl, _, _⟩ := HG9.out.rp.pw.form
                            have y0 := HG9.out.cell (B := X5) (t := 29) (xs := [.int .u32 (W cc.1), .int .u32 (W cc.2)]) (by simp) 0 rfl
                            have y1 := HG9.out.cell (B := X5) (t := 29) (xs := [.int .u32 (W cc.1), .int .u32 (W cc.2)]) (by simp) 1 rfl
                            by_cases hz : cc = (0#32, 0#32)
                            · have HND := Lib.hid (needed_any rs (all ++ [cc]) (by_ ++ [(p, q)]) (RST7.out.st.d.push hp hq HRS.out) AB9 (all.length + 1) all.length cB9 wc ⟨Sl.of_own HG9.out.rp.pw.1, by rw [List.length_append, List.length_singleton, RST7.out.st.d.len]⟩ rfl (by rw [cl0_last]; exact hz) (by have := RST7.out.st.d.le; omega) (by omega))
                              have e0 : W cc.1 = 0 := by rw [hz]; exact W_zero
                              have e1 : W cc.2 = 0 := by rw [hz]; exact W_zero
                              rw [HL.out] at HND
                              rw [e0] at y0
                              rw [e1] at y1
                              have K9 := Lib.hid HG9.out.rp.ow.kept0
                              clear hz e0 e1
                              go_wp2_with fail
                              refine HND.out.mono ?_
                              rintro e w10 ⟨A10, c10, out, rfl, hsl, k10, href⟩
                              have FIN := Lib.hid (show RetRf n rs w (.returned (.tuple #[.slice A10 out.length c10, .int .i64 0])) w10 from ⟨K9.out.trans k10, .inr ⟨A10, c10, out, rfl, hsl, href⟩⟩)
                              clear hsl href k10
                              go_wp2_with fail
                              go_ret2
                              exact FIN.out
                            · have HNXT := Lib.hid (show RSt n rs w wc (all ++ [cc]) (by_ ++ [(p, q)]) lev' (.slice A9 (all.length + 1) c9) (.slice AB9 (all.length + 1) cB9) (B3 + 1) from
                                ⟨by rw [List.length_append, List.length_singleton]; exact HG9.out.rp, RST7.out.st.push hp hq HRS.out (fun h => HNW.out ((RST7.out.mem cc).2 h)) hz, fun x => by rw [HLV.out.1, List.mem_append, List.mem_singleton, RST7.out.mem], by rw [List.length_append, List.length_singleton]; have := HLV.out.2; have := RST7.out.ll; omega⟩)
                              have HRW := Lib.hid (HG9.out.rows (XB, 85, [.int .i64 (i : Int), .int .i64 (j : Int), .int .i64 (j : Int), .int .i64 (i : Int)]) (by simp))
                              have HDN := Lib.hid (HGO.out (all ++ [cc]) (HD.out.1.push hlt hj cc) (fun h => (HD.out.2.1 h).push hlt (by omega) cc) (fun c h1 h2 => by
                                rw [cl0_left hp, cl0_left hq, HRS.out] at h1
                                injection h1 with h1
                                rw [← h1]
                                simp))
                              have HZ := Lib.hid hz
                              clear hz
                              go_wp2_with fail
                              all_goals
                                first
                                | exact (HZ.out (Prod.ext (by assumption) (by assumption))).elim
                                | (go_roundw
                                   case rel => exact ⟨k + 1, all ++ [cc], by_ ++ [(p, q)], lev', by omega, by go_num, by rw [List.length_append]; omega, HNXT.out, HRW.out.1, Lib.hid ⟨HRW.out.2.1, HRW.out.2.2.1⟩, HDN⟩
                                   case measure => simp [intOf]; omega)
                                | fail
                · obtain rfl : k = 2 := by omega
                  have HD2 := Lib.hid (HD.out.1.step (HD.out.2.1 (by omega)) (HD.out.2.2 (by omega)))
                  have HST2 := Lib.hid rst
                  clear rst
                  go_wp2_with fail
                  go_roundw
                  case rel => exact ⟨j + 1, all, by_, lev, by omega, by go_num, hlt, HST2.out, HD2⟩
                  case measure => simp [intOf]; omega
            · obtain rfl : j = i + 1 := by omega
              have HD2 := Lib.hid (doneI.end_ HD.out)
              have HST2 := Lib.hid rst
              clear rst
              go_wp2_with fail
              go_roundw
              case rel => exact ⟨i + 1, all, by_, lev, by omega, by go_num, HST2.out, HD2⟩
              case measure => simp [intOf]; omega
        · obtain rfl : i = all.length := by omega
          have FIN := Lib.hid (show RetRf n rs w (.returned (.tuple #[.slice none 0 0, .int .i64 5])) wr from ⟨rst.rp.ow.kept0, .inl ⟨rfl, rst.st.sat hn6 HD.out⟩⟩)
          go_wp2_with fail
          go_ret2
          exact FIN.out
end Go.Proofs.Ytekpifobhgjepaa
