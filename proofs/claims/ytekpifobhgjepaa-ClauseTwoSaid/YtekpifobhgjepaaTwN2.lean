/- The walk of needed. -/
import Derived.Test.YtekpifobhgjepaaTwN
import Derived.Test.YtekpifobhgjepaaOpen
namespace Go.Proofs.Ytekpifobhgjepaa
open Go Go.RowKit
set_option linter.unusedVariables false

theorem Row.grownN {w0 w w' : World} {B : Nat} {e : TypeId} {ys : List Value} {row : Option Nat} (h : Row w0 w B e ys) (hg : w.grownBy w' row) (hne : ∀ k, row = some k → k ≠ B) (hk : Kept w0 w') : Row w0 w' B e ys := by
  have hlt := h.lt
  obtain ⟨⟨cur, h1, h2⟩, h3, _⟩ := h
  exact ⟨⟨cur, (hg.block B hlt (fun e => hne B e.symm rfl)).trans h1, h2⟩, h3, hk⟩
set_option maxRecDepth 100000 in
set_option maxHeartbeats 16000000 in
theorem needed_any (rs all : List Ru) (by_ : List Pr) (D : Der rs all by_) (A : Option Addr) (M m c : Nat) (w : World) (hs : SlP w A M by_) (hM : M = m + 1) (he : cl0 all m = (0#32, 0#32)) (hm : rs.length < M) (hm2 : M ≤ 10000) :
    Calls Try.prog 43 #[.int .i64 (rs.length : Int), .slice A M c] w (RetN rs w) := by
  have hlen := hs.2
  have HD := Lib.hid D
  have HE := Lib.hid he
  have HLEN := Lib.hid hlen
  have hmk := run_make1 (P := Try.prog) 103 4 Try.underlying103 info_bools rfl (by decide) M (by omega)
  have hmk2 := run_make1 (P := Try.prog) 88 3 Try.underlying88 info_ints rfl (by decide) M (by omega)
  obtain ⟨BN, hBN⟩ : ∃ B, w.heap.size = B := ⟨_, rfl⟩
  have HB := Lib.hid hBN
  have hrow0 : Row w (w.alloc (.cells (rep M (.bool false)) 4)) BN 4 ((List.replicate M false).map bv) := by
    rw [rep_map_bv]
    exact Row.new (Kept.refl w) _ _ _ hBN
  have c0 := hrow0.cell m (nd0_at (by simp; omega))
  have f0 := hrow0.free m
  have hrow1 : Row w (w.alloc (.cells ((rep M (.bool false)).setIfInBounds m (.bool true)) 4)) BN 4 (((List.replicate M false).set m true).map bv) := by
    rw [rep_map_bv, List.setIfInBounds_toArray, setB_map]
    exact Row.new (Kept.refl w) _ _ _ hBN
  have HN0 := Lib.hid (N1.start rs.length by_ (by omega))
  rw [hlen, show M - 1 = m by omega] at HN0
  clear hrow0 D he hlen
  obtain ⟨n0, hn0⟩ : ∃ n0, rs.length = n0 := ⟨_, rfl⟩
  have HR0 := Lib.hid hn0
  rw [hn0] at HN0 hm ⊢
  clear hn0
  have g1 : (0 : Int) ≤ (m : Int) := by omega
  have g2 : (m : Int) < (M : Int) := by omega
  have em : (M : Int) - 1 = (m : Int) := by omega
  have HM := Lib.hid hM
  clear hM
  go_enter Try.func43, Try.ntmps43
  go_wp2_with fail
  clear hmk c0 f0
  generalize w.alloc (.cells ((rep M (.bool false)).setIfInBounds m (.bool true)) 4) = w1 at hrow1
  clear hBN
  generalize (List.replicate M false).set m true = ndi at hrow1 HN0
  have HN1 := Lib.hid (show N1 n0 by_ M ndi from HN0.out)
  go_loopw [6] (fun t wr => ∃ (i : Int) (nd : List Bool), (n0 : Int) - 1 ≤ i ∧ i < (M : Int) ∧ t = .int .i64 i ∧ Row w wr BN 4 (nd.map bv) ∧ Hid (N1 n0 by_ (i + 1).toNat nd)) (fun t _ => (intOf t + 1).toNat)
  case atStart => exact ⟨(m : Int), ndi, by omega, by omega, rfl, hrow1, Lib.hid (by rw [show ((m : Int) + 1).toNat = M by omega]; exact HN1.out)⟩
  case round =>
    clear hrow1
    obtain ⟨i, nd, hi0, hi1, rfl, hrow, HN⟩ := hrel
    by_cases hlt : (n0 : Int) ≤ i
    · obtain ⟨k, rfl⟩ := Int.eq_ofNat_of_zero_le (show 0 ≤ i by omega)
      have hk1 : n0 ≤ k := by omega
      have hk2 : k < M := by omega
      have HNk := Lib.hid (show N1 n0 by_ (k + 1) nd from HN.out)
      have hlnd : nd.length = M := by rw [HN.out.len, HLEN.out]
      have hck := hrow.cell k (nd0_at (by omega))
      have g3 : (0 : Int) ≤ (k : Int) := by omega
      cases hb : nd0 nd k
      · rw [hb] at hck
        have HS := Lib.hid (HNk.out.skip hb)
        clear hb
        go_wp2_with fail
        go_roundw
        case rel => exact ⟨(k : Int) - 1, nd, by omega, by omega, by go_num, hrow, Lib.hid (by rw [show ((k : Int) - 1 + 1).toNat = k by omega]; exact HS.out)⟩
        case measure => simp [intOf]
      · rw [hb] at hck
        obtain ⟨d1, d2, _⟩ := HD.out.der k (by rw [HR0.out]; exact hk1) (by rw [← HD.out.len, HLEN.out]; exact hk2)
        have HS := Lib.hid (HNk.out.mark (by rw [HLEN.out]; exact hk2) d1 d2)
        obtain ⟨b, off, rfl, hbl, e1, e2⟩ := (hs.kept hrow.kept0).get k hk2
        have HSW := Lib.hid (fun w' (K : Kept w w') => (show w'.cell? ⟨b, off + k * 2, none⟩ = some (.int .i64 ((pr0 by_ k).1 : Int)) ∧ w'.cell? ⟨b, off + k * 2 + 1, none⟩ = some (.int .i64 ((pr0 by_ k).2 : Int)) from by
          obtain ⟨b', off', e', _, q1, q2⟩ := (hs.kept K).get k hk2
          injection e' with e'
          injection e' with z1 z2
          subst z1 z2
          exact ⟨q1, q2⟩))
        clear hb
        generalize (pr0 by_ k).1 = p at d1 e1 HS HSW
        generalize (pr0 by_ k).2 = q at d2 e2 HS HSW
        have cp := hrow.cell p (nd0_at (by omega))
        have fp := hrow.free p
        have cq := hrow.cell q (nd0_at (by omega))
        have fq := hrow.free q
        have g4 : (0 : Int) ≤ (p : Int) := by omega
        have g5 : (p : Int) < (M : Int) := by omega
        have g6 : (0 : Int) ≤ (q : Int) := by omega
        have g7 : (q : Int) < (M : Int) := by omega
        have hwB : w.heap.size ≤ BN := by rw [HB.out]; exact Nat.le_refl _
        have HK := Lib.hid hrow.kept0
        have hbB : b < BN := by
          obtain ⟨b', off', e', hb', _⟩ := hs.get k hk2
          injection e' with e'
          injection e' with z1 z2
          have := HB.out
          omega
        have n1 : b ≠ BN := by omega
        have n2 : BN ≠ b := by omega
        have HR := Lib.hid hrow
        clear hrow
        have FIN1 := Lib.hid (show Row w ((wr.setCell ⟨BN, p, none⟩ (.bool true)).setCell ⟨BN, q, none⟩ (.bool true)) BN 4 (((nd.set p true).set q true).map bv) from by
          have := (HR.out.set p (.bool true)).set q (.bool true)
          rwa [setB_map, setB_map] at this)
        have FIN2 := Lib.hid (show Row w ((wr.setCell ⟨BN, q, none⟩ (.bool true)).setCell ⟨BN, p, none⟩ (.bool true)) BN 4 (((nd.set p true).set q true).map bv) from by
          have := (HR.out.set q (.bool true)).set p (.bool true)
          rw [setB_map, setB_map] at this
          by_cases e : p = q
          · subst e; exact this
          · rwa [List.set_comm _ _ e])
        by_cases epq : p = q
        · subst epq
          go_wp2_with fail
          clear hck
          go_region_held3 (fun w' => w'.cell? ⟨b, off + k * 2, none⟩ = some (.int .i64 (p : Int)) ∧ w'.cell? ⟨b, off + k * 2 + 1, none⟩ = some (.int .i64 (p : Int)))
            ((refine HSW.out _ ?_; repeat first | exact HK.out | refine Kept.drew ?_ | refine Kept.setCell ?_ hwB _))
            ((fail))
          rename_i hHeld
          clear hHeld
          go_wp2_with fail
          go_roundw
          case rel => exact ⟨(k : Int) - 1, _, by omega, by omega, by go_num, FIN1.out.drew, Lib.hid (by rw [show ((k : Int) - 1 + 1).toNat = k by omega]; exact HS.out)⟩
          case measure => simp [intOf]
        · have n3 : q ≠ p := fun h => epq h.symm
          have n4 : p ≠ q := epq
          clear epq
          go_wp2_with fail
          clear hck
          go_region_held3 (fun w' => w'.cell? ⟨b, off + k * 2, none⟩ = some (.int .i64 (p : Int)) ∧ w'.cell? ⟨b, off + k * 2 + 1, none⟩ = some (.int .i64 (q : Int)))
            ((refine HSW.out _ ?_; repeat first | exact HK.out | refine Kept.drew ?_ | refine Kept.setCell ?_ hwB _))
            ((fail))
          rename_i hHeld
          clear hHeld
          go_wp2_with fail
          go_roundw
          case rel => exact ⟨(k : Int) - 1, _, by omega, by omega, by go_num, FIN1.out.drew, Lib.hid (by rw [show ((k : Int) - 1 + 1).toNat = k by omega]; exact HS.out)⟩
          case measure => simp [intOf]
    · have hin : (i + 1).toNat = n0 := by omega
      rw [hin] at HN
      have HNF := Lib.hid (show N1 rs.length by_ rs.length nd from by rw [HR0.out]; exact HN.out)
      have hlnd := Lib.hid (show nd.length = M by rw [HN.out.len, HLEN.out])
      obtain ⟨BK, hBK⟩ : ∃ B, wr.heap.size = B := ⟨_, rfl⟩
      have hBNK : BN < BK := by rw [← hBK]; exact hrow.lt
      have hwB : w.heap.size ≤ BN := by rw [HB.out]; exact Nat.le_refl _
      have hrK0 : Row w (wr.alloc (.cells (rep M (.int .i64 0)) 3)) BK 3 ((List.replicate M 0).map nv) := by
        rw [rep_map_nv]
        exact Row.new hrow.kept0 _ _ _ hBK
      have hrN0 := hrow.kept ((Kept.refl wr).alloc (.cells (rep M (.int .i64 0)) 3))
      have hown0 : OwnB (BK + 1) (wr.alloc (.cells (rep M (.int .i64 0)) 3)) 85 2 (.slice none 0 0) 0 [] := OwnB.start (by rw [← hBK]; simp)
      have HN20 := Lib.hid (N2.start (rs := rs) (all := all) (by_ := by_) nd (by rw [HLEN.out]; omega))
      rw [HLEN.out] at HN20
      clear hin hi0 hi1 hrow HN HN0 HN1 em
      go_wp2_with fail
      clear hmk2
      generalize wr.alloc (.cells (rep M (.int .i64 0)) 3) = w3 at hrK0 hrN0 hown0
      clear hBK
      generalize List.replicate M 0 = num0 at HN20 hrK0
      go_loopw [8, 50] (fun v t wr2 => ∃ (i : Nat) (num : List Nat) (out : List Pr), i ≤ M ∧ t = .int .i64 i ∧ OwnB (BK + 1) wr2 85 2 v out.length (prCells out) ∧ Row w wr2 BN 4 (nd.map bv) ∧ Row w wr2 BK 3 (num.map nv) ∧ Hid (N2 rs all by_ nd i num out)) (fun _ t _ => M - (intOf t).toNat)
      case atStart => exact ⟨0, num0, [], Nat.zero_le _, rfl, hown0, hrN0, hrK0, HN20⟩
      case round =>
        clear hrN0 hrK0 hown0 HN20
        obtain ⟨i, num, out, hi, rfl, hown, hrN, hrK, HN2⟩ := hrel
        by_cases hlt : i < M
        · obtain ⟨b, off, rfl, hbl, e1, e2⟩ := (hs.kept hrN.kept0).get i hlt
          have hin : i < num.length := by rw [HN2.out.nlen, HLEN.out]; exact hlt
          have hol : out.length ≤ i := HN2.out.olen
          obtain ⟨X, hX⟩ : ∃ X, wr.heap.size = X := ⟨_, rfl⟩
          have hKX : BK < X := by rw [← hX]; exact hrK.lt
          have HPR := Lib.hid (show pr0 by_ i = pr0 by_ i from rfl)
          have HDER := Lib.hid (fun h : n0 ≤ i => HD.out.der i (by rw [HR0.out]; exact h) (by rw [← HD.out.len, HLEN.out]; exact hlt))
          have HSK := Lib.hid (fun h => HN2.out.skip HD.out HNF.out (by rw [HR0.out, HLEN.out]; exact hm) (by rw [HLEN.out]; exact hlt) h)
          have HKP := Lib.hid (fun (h : n0 ≤ i) (h2 : nd0 nd i = true) => HN2.out.keep HD.out HNF.out (by rw [HLEN.out]; exact hlt) (by rw [HR0.out]; exact h) h2)
          rw [HR0.out] at HSK HKP
          generalize (pr0 by_ i).1 = p at e1 HDER HKP
          generalize (pr0 by_ i).2 = q at e2 HDER HKP
          have k0 := hrK.cell i (nm0_at hin)
          have fk0 := hrK.free i
          have hsz : (wr.setCell ⟨BK, i, none⟩ (.int .i64 (i : Int))).heap.size = X := by simp [World.setCell, hX]
          have hwK : w.heap.size ≤ BK := by omega
          have hKN : BK ≠ BN := by omega
          have rK1 : Row w (wr.setCell ⟨BK, i, none⟩ (.int .i64 (i : Int))) BK 3 ((num.set i i).map nv) := by
            have := hrK.set i (.int .i64 (i : Int))
            rwa [setN_map] at this
          have rN1 := hrN.setO (X := BK) (k := i) hKN hwK (.int .i64 (i : Int))
          have o1 := hown.setCell (B := BK) (by omega) i (.int .i64 (i : Int))
          have ha := (Kept.refl (wr.setCell ⟨BK, i, none⟩ (.int .i64 (i : Int)))).alloc (.cells #[.int .i64 (p : Int), .int .i64 (q : Int)] 85)
          have HK2 := Lib.hid (rK1.kept ha)
          have HN2r := Lib.hid (rN1.kept ha)
          have HX2 := Lib.hid (show Row w ((wr.setCell ⟨BK, i, none⟩ (.int .i64 (i : Int))).alloc (.cells #[.int .i64 (p : Int), .int .i64 (q : Int)] 85)) X 85 [.int .i64 (p : Int), .int .i64 (q : Int)] from Row.new rN1.kept0 _ _ X hsz)
          have HO2 := Lib.hid (o1.kept ha)
          have cN2 := HN2r.out.cell i (nd0_at (by rw [hlnd.out]; exact hlt))
          obtain ⟨A9, c9, rfl, _, _⟩ := hown.form
          have HK1 := Lib.hid rK1
          have HN1r := Lib.hid rN1
          have HO1 := Lib.hid o1
          have HSZ := Lib.hid hsz
          have HOL := Lib.hid o1.1
          clear hown hrN hrK rK1 rN1 o1 ha hsz
          have g3 : (0 : Int) ≤ (i : Int) := by omega
          have g4 : (i : Int) < (M : Int) := by omega
          by_cases hg : n0 ≤ i
          · have g5 : (n0 : Int) ≤ (i : Int) := by omega
            cases hb : nd0 nd i
            · rw [hb] at cN2
              have HS := Lib.hid (HSK.out (.inr hb))
              clear hb
              go_wp2_with fail
              go_roundw
              case rel => exact ⟨i + 1, num.set i i, out, by omega, by go_num, HO2.out, HN2r.out, HK2.out, HS.out⟩
              case measure => simp [intOf]; omega
            · rw [hb] at cN2
              have HS := Lib.hid (HKP.out hg hb)
              obtain ⟨d1, d2, _⟩ := HDER.out hg
              clear hb
              have hol2 : out.length ≤ 10000 := by omega
              have hn02 : n0 ≤ 10000 := by omega
              have k2 := HK2.out.cell i (nm0_at (by rw [List.length_set]; exact hin))
              have fk2 := HK2.out.free i
              have hka := (Kept.refl ((wr.setCell ⟨BK, i, none⟩ (.int .i64 (i : Int))).setCell ⟨BK, i, none⟩ (.int .i64 ((n0 : Int) + (out.length : Int))))).alloc (.cells #[.int .i64 (p : Int), .int .i64 (q : Int)] 85)
              have hK3 := (show Row w ((wr.setCell ⟨BK, i, none⟩ (.int .i64 (i : Int))).setCell ⟨BK, i, none⟩ (.int .i64 ((n0 : Int) + (out.length : Int)))) BK 3 (((num.set i i).set i (n0 + out.length)).map nv) from by
                have := HK1.out.set i (.int .i64 (((n0 + out.length : Nat)) : Int))
                rw [setN_map] at this
                rwa [Int.natCast_add] at this).kept hka
              have hN3 := (HN1r.out.setO (X := BK) (k := i) hKN hwK (.int .i64 ((n0 : Int) + (out.length : Int)))).kept hka
              have hO3 := (HO1.out.setCell (B := BK) (by omega) i (.int .i64 ((n0 : Int) + (out.length : Int)))).kept hka
              have hX3 : Row w (((wr.setCell ⟨BK, i, none⟩ (.int .i64 (i : Int))).setCell ⟨BK, i, none⟩ (.int .i64 ((n0 : Int) + (out.length : Int)))).alloc (.cells #[.int .i64 (p : Int), .int .i64 (q : Int)] 85)) X 85 [.int .i64 (p : Int), .int .i64 (q : Int)] := Row.new (HN1r.out.setO (X := BK) (k := i) hKN hwK _).kept0 _ _ X (by have := HSZ.out; simpa [World.setCell] using this)
              clear hka
              go_wp2_with fail
              clear k0 fk0 k2 fk2 cN2 e1 e2 hX
              generalize ((wr.setCell ⟨BK, i, none⟩ (.int .i64 (i : Int))).setCell ⟨BK, i, none⟩ (.int .i64 ((n0 : Int) + (out.length : Int)))).alloc (.cells #[.int .i64 (p : Int), .int .i64 (q : Int)] 85) = w5 at hK3 hN3 hO3 hX3
              have b0 := hX3.cell 0 rfl
              have b1 := hX3.cell 1 rfl
              have hnp : nm0 ((num.set i i).set i (n0 + out.length)) p = nm0 num p := by rw [nm0_set, if_neg (fun h => by omega), nm0_set, if_neg (fun h => by omega)]
              have hnq : nm0 ((num.set i i).set i (n0 + out.length)) q = nm0 num q := by rw [nm0_set, if_neg (fun h => by omega), nm0_set, if_neg (fun h => by omega)]
              have lp := nm0_at (num := (num.set i i).set i (n0 + out.length)) (k := p) (by rw [List.length_set, List.length_set]; omega)
              have lq := nm0_at (num := (num.set i i).set i (n0 + out.length)) (k := q) (by rw [List.length_set, List.length_set]; omega)
              rw [hnp] at lp
              rw [hnq] at lq
              have cp := hK3.cell p lp
              have cq := hK3.cell q lq
              have CP := Lib.hid lp
              have CQ := Lib.hid lq
              clear lp lq
              clear hnp hnq
              have HVX := Lib.hid (show ∀ g9, Value.ownBlock (.slice A9 out.length c9) = some g9 → g9 ≠ X from fun g9 hg9 => by
                have h1 := (World.ownsRow.lt HOL.out g9 hg9).2
                have h2 := HSZ.out
                omega)
              generalize nm0 num p = u at cp HS CP
              generalize nm0 num q = v at cq HS CQ
              generalize (num.set i i).set i (n0 + out.length) = num3 at hK3 HS CP CQ
              have HSW := Lib.hid (fun w' (k : Kept w5 w') => show w'.cell? ⟨X, 0, none⟩ = some (.int .i64 (p : Int)) ∧ w'.cell? ⟨X, 1, none⟩ = some (.int .i64 (q : Int)) ∧ w'.cell? ⟨BK, p, none⟩ = some (.int .i64 (u : Int)) ∧ w'.cell? ⟨BK, q, none⟩ = some (.int .i64 (v : Int)) from
                ⟨(k.cell (cell_lt b0)).trans b0, (k.cell (cell_lt b1)).trans b1, (k.cell (cell_lt cp)).trans cp, (k.cell (cell_lt cq)).trans cq⟩)
              have HK3 := Lib.hid hK3
              have HX3 := Lib.hid hX3
              have HN3 := Lib.hid hN3
              have HO3 := Lib.hid hO3
              have g6 : (0 : Int) ≤ (p : Int) := by omega
              have g7 : (p : Int) < (M : Int) := by omega
              have g8 : (0 : Int) ≤ (q : Int) := by omega
              have g9 : (q : Int) < (M : Int) := by omega
              clear hK3 hN3 hO3 hX3
              go_region_held3 (fun w' => w'.cell? ⟨X, 0, none⟩ = some (.int .i64 (p : Int)) ∧ w'.cell? ⟨X, 1, none⟩ = some (.int .i64 (q : Int)) ∧ w'.cell? ⟨BK, p, none⟩ = some (.int .i64 (u : Int)) ∧ w'.cell? ⟨BK, q, none⟩ = some (.int .i64 (v : Int)))
                ((first | exact S7.out | (refine HSW.out _ ?_; repeat first | exact Kept.refl _ | refine Kept.alloc ?_ _ | refine Kept.drew ?_)))
                ((first
                  | (refine step_pushB (by rfl) _ _ 37 (by rfl) 85 Try.underlying37 info_pr rfl (by decide) (by decide) _ _ _ _ ((HO3.out.alloc _).kept ((Kept.refl _).drew)) #[.int .i64 (u : Int), .int .i64 (v : Int)] 85 (0, 0) w5.heap.size 1 1 (heap_alloc_new w5 _) (by rfl) (by rfl) rfl (by intro x hx; simp at hx; rcases hx with rfl | rfl <;> rfl) (by omega) ?_; intro v7 w7 hown7 hgr7; obtain ⟨A7, c7, rfl, _, _⟩ := hown7.form
                     have hN7 := ((HN3.out.kept ((Kept.refl _).alloc _)).drew).grownB hgr7 (OwnB.above HO3.out (by omega))
                     have hK7 := ((HK3.out.kept ((Kept.refl _).alloc _)).drew).grownB hgr7 (OwnB.above HO3.out (by omega))
                     have hX7 := ((HX3.out.kept ((Kept.refl _).alloc _)).drew).grownN hgr7 HVX.out hN7.kept0
                     have HO7 := Lib.hid hown7
                     have S7 := Lib.hid (show w7.cell? ⟨X, 0, none⟩ = some (.int .i64 (p : Int)) ∧ w7.cell? ⟨X, 1, none⟩ = some (.int .i64 (q : Int)) ∧ w7.cell? ⟨BK, p, none⟩ = some (.int .i64 (u : Int)) ∧ w7.cell? ⟨BK, q, none⟩ = some (.int .i64 (v : Int)) from
                       ⟨hX7.cell 0 rfl, hX7.cell 1 rfl, hK7.cell p CP.out, hK7.cell q CQ.out⟩)
                     have HN7 := Lib.hid hN7
                     have HK7 := Lib.hid hK7
                     clear hown7 hgr7 hN7 hK7 hX7)
                  | fail))
              rename_i hHeld
              clear hHeld
              go_wp2_with fail
              go_roundw
              case rel => exact ⟨i + 1, num3, out ++ [(u, v)], by omega, by go_num, by rw [List.length_append, prCells_append]; exact HO7.out, HN7.out, HK7.out, HS.out⟩
              case measure => simp [intOf]; omega
          · have g5 : ¬ (n0 : Int) ≤ (i : Int) := by omega
            have HS := Lib.hid (HSK.out (.inl (by omega)))
            clear cN2 hg
            go_wp2_with fail
            go_roundw
            case rel => exact ⟨i + 1, num.set i i, out, by omega, by go_num, HO2.out, HN2r.out, HK2.out, HS.out⟩
            case measure => simp [intOf]; omega
        · have hiM : i = M := by omega
          have HFR := Lib.hid (show refB rs out from by
            refine N2.done (nd := nd) (num := num) (all := all) (by_ := by_) ?_ ?_
            · rw [HLEN.out, ← hiM]; exact HN2.out
            · rw [HLEN.out, HM.out, Nat.add_sub_cancel]; exact HE.out)
          obtain ⟨A2, c2, rfl, hsl, _⟩ := hown.form
          have FIN := Lib.hid (show RetN rs w (.returned (.slice A2 out.length c2)) wr from ⟨A2, c2, out, rfl, ⟨hsl, rfl⟩, hrN.kept0, HFR.out, by have := HN2.out.olen; omega⟩)
          go_wp2_with fail
          go_ret
          exact FIN.out
end Go.Proofs.Ytekpifobhgjepaa
