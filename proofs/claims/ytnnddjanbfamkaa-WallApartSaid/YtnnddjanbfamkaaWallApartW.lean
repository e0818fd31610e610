/- WallApart: the walk of the statement. -/
import Derived.Test.YtnnddjanbfamkaaWall7
namespace Go.Proofs.Ytnnddjanbfamkaa.wallApartDone
open Go Go.RowKit
set_option linter.unusedVariables false

theorem bit_is (x : BitVec 32) (i : Nat) (hi : i < 32) (b : Bool) (hb : x.getLsbD i = b) (w : World) : Calls Try.prog 22 #[.int .u32 (W x), .int .i64 i] w fun e w' => e = .returned (.bool b) ∧ w = w' := by
  rw [← hb]
  have h1 : decide (0 ≤ (i : Int)) = true := by simp
  have h2 : decide ((i : Int) < 32) = true := by simp; omega
  go_enter Try.func22, Try.ntmps22
  go_wp2
  go_ret
  exact ⟨rfl, rfl⟩
theorem bad (who : Int) (A : Option Addr) (lf c : Nat) (firm : List Int) (A2 : Option Addr) (m c2 : Nat) (clss : List Int) (A3 : Option Addr) (nd c3 : Nat) (w : World) (hs : SlI w A lf firm) (hc : SlI w A2 m clss) (h : wallF who firm clss nd ≠ 0) :
    Calls Try.prog 11 #[.int .i64 who, .slice A lf c, .slice A2 m c2, .slice A3 nd c3] w fun e w' => e = .returned (.bool true) ∧ Kept w w' := by
  have HP := Lib.hid (play_bad who A lf c firm A2 m c2 clss A3 nd c3 w hs hc h)
  have HK := Lib.hid (fun w' (k : Kept w w') => walled_any who A lf c firm A2 m c2 clss nd w' (hs.kept k) (hc.kept k))
  have h1 : (wallF who firm clss nd == 0) = false := by simpa using h
  rw [h1] at HK
  clear h h1
  go_enter Try.func11, Try.ntmps11
  go_wp2_with fail
  refine HP.out.mono ?_
  rintro e w1 ⟨k1, code, hcode, rfl⟩
  have hc2 : (code != 0) = true := by simpa using hcode
  have k2 := k1.alloc (.cells #[.slice none 0 0, .slice none 0 0, .slice none 0 0] 66)
  go_wp2_with fail
  refine (HK.out _ k2).mono ?_
  rintro e w2 ⟨rfl, rfl⟩
  go_wp2_with fail
  go_ret
  exact ⟨rfl, k2⟩
theorem six {bi bj pf pg ne cl : Bool} (h : (bi && bj && pf && pg && ne && cl) = false) : bi = false ∨ (bi = true ∧ bj = false) ∨ (bi = true ∧ bj = true ∧ pf = false) ∨ (bi = true ∧ bj = true ∧ pf = true ∧ pg = false) ∨ (bi = true ∧ bj = true ∧ pf = true ∧ pg = true ∧ ne = false) ∨ (bi = true ∧ bj = true ∧ pf = true ∧ pg = true ∧ ne = true ∧ cl = false) := by
  cases bi <;> cases bj <;> cases pf <;> cases pg <;> cases ne <;> cases cl <;> simp_all
theorem frm_at {firm : List Int} {k : Nat} (h : k < firm.length) : frm firm k = firm[k] := frm_eq h
set_option maxRecDepth 100000 in
set_option maxHeartbeats 16000000 in
theorem good (who : Nat) (A : Option Addr) (lf c : Nat) (firm : List Int) (A2 : Option Addr) (m c2 : Nat) (clss : List Int) (A3 : Option Addr) (nd c3 : Nat) (ds : List De) (w : World) (hs : SlI w A lf firm) (hc : SlI w A2 m clss) (hd : SlD w A3 nd ds) (h1 : 1 ≤ who) (h5 : who ≤ 5) (hnd : nd ≤ 30) (h0 : firmF firm clss = 0) :
    Calls Try.prog 11 #[.int .i64 who, .slice A lf c, .slice A2 m c2, .slice A3 nd c3] w fun e w' => e = .returned (.bool true) ∧ Kept w w' := by
  obtain ⟨hl8, hm8, hok⟩ := firmF_zero h0
  rw [hs.2] at hl8
  rw [hc.2] at hm8 hok
  have HP := Lib.hid (play_good who A lf c firm A2 m c2 clss A3 nd c3 ds w hs hc hd h1 h5 hnd h0)
  have HK := Lib.hid (fun w' (k : Kept w w') => walled_any who A lf c firm A2 m c2 clss nd w' (hs.kept k) (hc.kept k))
  have h2 : (wallF who firm clss nd == 0) = true := by unfold wallF; rw [if_neg (by omega), h0]; rfl
  rw [h2] at HK
  have HOK := Lib.hid hok
  have HLF := Lib.hid hs.2
  have HCL := Lib.hid hc.2
  have n1 : ((who : Int) != (who : Int)) = false := by simp
  have n2 : ((lf : Int) != (lf : Int)) = false := by simp
  have n3 : ((nd : Int) != (nd : Int)) = false := by simp
  clear h2 h0 hok
  go_enter Try.func11, Try.ntmps11
  go_wp2_with fail
  refine HP.out.mono ?_
  rintro e w1 ⟨k1, AC, AR, AF, cC, cR, cF, r, k, f, rfl, hR, hF, HINV⟩
  have HI := Lib.hid HINV
  have kb := (Kept.refl w1).alloc (.cells #[.slice AC nd cC, .slice AR who cR, .slice AF lf cF] 66)
  have bx := Box.new w1 #[.slice AC nd cC, .slice AR who cR, .slice AF lf cF] 66 w1.heap.size rfl
  have b0 := bx.at_ 0 rfl
  have b1 := bx.at_ 1 rfl
  have b2 := bx.at_ 2 rfl
  have K2 := Lib.hid (k1.trans kb)
  have HR := Lib.hid (hR.kept kb)
  have HF := Lib.hid (hF.kept kb)
  clear HINV bx hR hF k1 kb
  go_wp2_with fail
  refine (HK.out _ K2.out).mono ?_
  rintro e w2 ⟨rfl, hw2⟩
  rw [hw2] at b0 b1 b2 K2 HR HF
  obtain ⟨B, hB⟩ : ∃ B, w1.heap.size = B := ⟨_, rfl⟩
  rw [hB] at b0 b1 b2 ⊢
  clear hw2 hB
  go_wp2_with fail
  go_loopw [66] (fun t wr => ∃ q : Nat, q ≤ who ∧ t = .int .i64 q ∧ Kept w2 wr) (fun t _ => who - (intOf t).toNat)
  case atStart => exact ⟨0, Nat.zero_le _, rfl, Kept.refl _⟩
  case round =>
    obtain ⟨q, hq, rfl, kq⟩ := hrel
    by_cases hltq : q < who
    · obtain ⟨br, fr, rfl, _, cr⟩ := (HR.out.kept kq).getN q hltq
      have HRQ := Lib.hid (show nth ((List.range who).map r) q = r q by rw [nth_eq _ _ (by simpa using hltq)]; simp)
      rw [HRQ.out] at cr
      have hq1 : (0 : Int) ≤ (q : Int) := by omega
      have hq2 : (q : Int) < (who : Int) := by omega
      go_wp2_with fail
      go_loopw [72] (fun t wr => ∃ i : Nat, i ≤ lf ∧ t = .int .i64 i ∧ Kept w2 wr) (fun t _ => lf - (intOf t).toNat)
      case atStart => exact ⟨0, Nat.zero_le _, rfl, kq⟩
      case round =>
        clear kq cr
        obtain ⟨i, hi, rfl, ki⟩ := hrel
        by_cases hlti : i < lf
        · obtain ⟨bi, fi, hki, rfl, _, ci⟩ := (hs.kept (K2.out.trans ki)).get i hlti
          have HFI := Lib.hid (frm_at hki)
          have hi1 : (0 : Int) ≤ (i : Int) := by omega
          have hi2 : (i : Int) < (lf : Int) := by omega
          have HOI := Lib.hid (HOK.out _ (List.getElem_mem hki))
          obtain ⟨fa, hfa⟩ : ∃ fa, firm[i] = fa := ⟨_, rfl⟩
          rw [hfa] at ci HFI HOI
          clear hfa
          go_wp2_with fail
          go_loopw [79] (fun t wr => ∃ j : Nat, j ≤ lf ∧ t = .int .i64 j ∧ Kept w2 wr) (fun t _ => lf - (intOf t).toNat)
          case atStart => exact ⟨0, Nat.zero_le _, rfl, ki⟩
          case round =>
            clear ki ci
            obtain ⟨j, hj, rfl, kj⟩ := hrel
            by_cases hltj : j < lf
            · obtain ⟨bj, fj, hkj, e8, _, cj⟩ := (hs.kept (K2.out.trans kj)).get j hltj
              cases e8
              have HFJ := Lib.hid (frm_at hkj)
              have hj1 : (0 : Int) ≤ (j : Int) := by omega
              have hj2 : (j : Int) < (lf : Int) := by omega
              have HOJ := Lib.hid (HOK.out _ (List.getElem_mem hkj))
              obtain ⟨ga, hga⟩ : ∃ ga, firm[j] = ga := ⟨_, rfl⟩
              rw [hga] at cj HFJ HOJ
              clear hga
              obtain ⟨ti, hti⟩ : ∃ t, (r q).getLsbD i = t := ⟨_, rfl⟩
              obtain ⟨tj, htj⟩ : ∃ t, (r q).getLsbD j = t := ⟨_, rfl⟩
              have HTI := Lib.hid hti
              have HTJ := Lib.hid htj
              have hall : (ti && tj && decide (0 ≤ fa) && decide (0 ≤ ga) && (fa != ga) && (cls clss fa == cls clss ga)) = false := by
                rw [Bool.eq_false_iff]
                intro hc0
                simp only [Bool.and_eq_true, decide_eq_true_eq, bne_iff_ne, ne_eq, beq_iff_eq] at hc0
                obtain ⟨⟨⟨⟨⟨x1, x2⟩, x3⟩, x4⟩, x5⟩, x6⟩ := hc0
                have := HI.out.apart q i j (by rw [HLF.out]; exact hlti) (by rw [HLF.out]; exact hltj) (by rw [hti]; exact x1) (by rw [htj]; exact x2) (by rw [HFI.out]; exact x3) (by rw [HFJ.out]; exact x4) (by rw [HFI.out, HFJ.out]; exact x5)
                rw [HFI.out, HFJ.out] at this
                exact this x6
              clear hti htj
              generalize r q = x at HTI HTJ ⊢
              rcases six hall with rfl | ⟨rfl, rfl⟩ | ⟨rfl, rfl, p3⟩ | ⟨rfl, rfl, p3, p4⟩ | ⟨rfl, rfl, p3, p4, p5⟩ | ⟨rfl, rfl, p3, p4, p5, p6⟩
              case inr.inr.inr.inr.inr =>
                obtain ⟨an, rfl⟩ := Int.eq_ofNat_of_zero_le (show 0 ≤ fa by simpa using p3)
                obtain ⟨bn, rfl⟩ := Int.eq_ofNat_of_zero_le (show 0 ≤ ga by simpa using p4)
                have han : an < m := by have := HOI.out.2; omega
                have hbn : bn < m := by have := HOJ.out.2; omega
                obtain ⟨bc, fc, hkc, rfl, _, z1⟩ := (hc.kept (K2.out.trans kj)).get an han
                obtain ⟨bc2, fc2, hkc2, e9, _, z2⟩ := (hc.kept (K2.out.trans kj)).get bn hbn
                cases e9
                rw [cls_eq hkc, cls_eq hkc2] at p6
                generalize clss[an] = y1 at z1 p6
                generalize clss[bn] = y2 at z2 p6
                have w1' : (0 : Int) ≤ (an : Int) := by omega
                have w2' : (an : Int) < (m : Int) := by omega
                have w3' : (0 : Int) ≤ (bn : Int) := by omega
                have w4' : (bn : Int) < (m : Int) := by omega
                have qz1 := kw_cell z1
                have qz2 := kw_cell z2
                clear hall
                go_wp2_with fail
                refine wp_region_kept (by kernel_rfl) (by kernel_rfl) ?_
                repeat (go_big_quiet_step ((go_at_call 22; exact kept_of_same (bit_is _ _ (by omega) _ (by first | exact HTI.out | exact HTJ.out) _))))
                refine wpQuiet_nil ?_
                intro w12 k12
                go_wp2_with fail
                go_roundw
                case rel => exact ⟨j + 1, by omega, by go_num, kj.trans k12⟩
                case measure => simp [intOf]; omega
              all_goals
                clear hall
                go_wp2_with fail
                refine wp_region_kept (by kernel_rfl) (by kernel_rfl) ?_
                repeat (go_big_quiet_step ((go_at_call 22; exact kept_of_same (bit_is _ _ (by omega) _ (by first | exact HTI.out | exact HTJ.out) _))))
                refine wpQuiet_nil ?_
                intro w12 k12
                go_wp2_with fail
                go_roundw
                case rel => exact ⟨j + 1, by omega, by go_num, kj.trans k12⟩
                case measure => simp [intOf]; omega
            · go_wp2_with fail
              go_roundw
              case rel => exact ⟨i + 1, by omega, by go_num, kj⟩
              case measure => simp [intOf]; omega
        · go_wp2_with fail
          go_roundw
          case rel => exact ⟨q + 1, by omega, by go_num, ki⟩
          case measure => simp [intOf]; omega
    · clear n1 n2 n3
      have b2q := (kq.cell (cell_lt b2)).trans b2
      go_wp2_with fail
      go_loopw [121] (fun t wr => ∃ i : Nat, i ≤ lf ∧ t = .int .i64 i ∧ Kept w2 wr) (fun t _ => lf - (intOf t).toNat)
      case atStart => exact ⟨0, Nat.zero_le _, rfl, kq⟩
      case round =>
        clear kq b2q
        obtain ⟨i, hi, rfl, ki⟩ := hrel
        by_cases hlti : i < lf
        · obtain ⟨bi, fi, hki, rfl, _, ci⟩ := (hs.kept (K2.out.trans ki)).get i hlti
          have HFI := Lib.hid (frm_at hki)
          have hi1 : (0 : Int) ≤ (i : Int) := by omega
          have hi2 : (i : Int) < (lf : Int) := by omega
          obtain ⟨fa, hfa⟩ : ∃ fa, firm[i] = fa := ⟨_, rfl⟩
          rw [hfa] at ci HFI
          clear hfa
          obtain ⟨bf, ff, rfl, _, cf⟩ := (HF.out.kept ki).getN i hlti
          rw [show nth ((List.range lf).map f) i = f i by rw [nth_eq _ _ (by simpa using hlti)]; simp] at cf
          have b2i := (ki.cell (cell_lt b2)).trans b2
          have HSELF := Lib.hid (HI.out.self i (by rw [HLF.out]; exact hlti))
          have HCF := Lib.hid (fun w' (kk : Kept w2 w') => show w'.cell? ⟨bf, ff + i, none⟩ = some (.int .u32 (W (f i))) by
            obtain ⟨bf', ff', e9, _, cf'⟩ := (HF.out.kept kk).getN i hlti
            cases e9
            rw [show nth ((List.range lf).map f) i = f i by rw [nth_eq _ _ (by simpa using hlti)]; simp] at cf'
            exact cf')
          go_wp2_with fail
          refine (bit_is (f i) i (by omega) true HSELF.out _).mono ?_
          rintro e w12 ⟨rfl, rfl⟩
          go_wp2_with fail
          go_loopw [136] (fun t wr => ∃ j : Nat, j ≤ lf ∧ t = .int .i64 j ∧ Kept w2 wr) (fun t _ => lf - (intOf t).toNat)
          case atStart => exact ⟨0, Nat.zero_le _, rfl, ki⟩
          case round =>
            clear ki ci cf b2i
            obtain ⟨j, hj, rfl, kj⟩ := hrel
            by_cases hltj : j < lf
            · obtain ⟨bj, fj, hkj, e8, _, cj⟩ := (hs.kept (K2.out.trans kj)).get j hltj
              cases e8
              have HFJ := Lib.hid (frm_at hkj)
              have hj1 : (0 : Int) ≤ (j : Int) := by omega
              have hj2 : (j : Int) < (lf : Int) := by omega
              obtain ⟨ga, hga⟩ : ∃ ga, firm[j] = ga := ⟨_, rfl⟩
              rw [hga] at cj HFJ
              clear hga
              have cf := HCF.out _ kj
              have b2j := (kj.cell (cell_lt b2)).trans b2
              cases htj : (f i).getLsbD j
              · have HTJ := Lib.hid htj
                go_wp2_with fail
                refine (bit_is (f i) j (by omega) false HTJ.out _).mono ?_
                rintro e w12 ⟨rfl, rfl⟩
                go_wp2_with fail
                go_roundw
                case rel => exact ⟨j + 1, by omega, by go_num, kj⟩
                case measure => simp [intOf]; omega
              · have HTJ := Lib.hid htj
                cases hp : decide (0 ≤ ga)
                · go_wp2_with fail
                  refine (bit_is (f i) j (by omega) true HTJ.out _).mono ?_
                  rintro e w12 ⟨rfl, rfl⟩
                  go_wp2_with fail
                  go_roundw
                  case rel => exact ⟨j + 1, by omega, by go_num, kj⟩
                  case measure => simp [intOf]; omega
                · have heq : (ga != fa) = false := by
                    have := HI.out.own i j (by rw [HLF.out]; exact hlti) (by rw [HLF.out]; exact hltj) HTJ.out (by rw [HFJ.out]; simpa using hp)
                    rw [HFI.out, HFJ.out] at this
                    simpa using this
                  go_wp2_with fail
                  refine (bit_is (f i) j (by omega) true HTJ.out _).mono ?_
                  rintro e w12 ⟨rfl, rfl⟩
                  go_wp2_with fail
                  go_roundw
                  case rel => exact ⟨j + 1, by omega, by go_num, kj⟩
                  case measure => simp [intOf]; omega
            · go_wp2_with fail
              go_roundw
              case rel => exact ⟨i + 1, by omega, by go_num, kj⟩
              case measure => simp [intOf]; omega
        · go_wp2_with fail
          go_ret
          exact ⟨rfl, K2.out.trans ki⟩
theorem wallApart_walk (who : Int) (A : Option Addr) (lf c : Nat) (firm : List Int) (A2 : Option Addr) (m c2 : Nat) (clss : List Int) (A3 : Option Addr) (nd c3 : Nat) (ds : List De) (w : World) (_wn : (Lit.int .i64 who).wf = true) (hl : lf ≤ maxLen) (hs : SlI w A lf firm ∧ ∀ z ∈ firm, (Lit.int .i64 z).wf = true) (hl2 : m ≤ maxLen) (hc : SlI w A2 m clss ∧ ∀ z ∈ clss, (Lit.int .i64 z).wf = true) (hl3 : nd ≤ maxLen) (hd : SlD w A3 nd ds) :
    Calls Try.prog 11 #[.int .i64 who, .slice A lf c, .slice A2 m c2, .slice A3 nd c3] w fun e w' => e = .returned (.bool true) ∧ Below w.heap.size w w' := by
  suffices h : Calls Try.prog 11 #[.int .i64 who, .slice A lf c, .slice A2 m c2, .slice A3 nd c3] w fun e w' => e = .returned (.bool true) ∧ Kept w w' from h.mono fun e w' ⟨h1, h2⟩ => ⟨h1, h2.below⟩
  by_cases h0 : wallF who firm clss nd = 0
  · unfold wallF at h0
    by_cases hbad : who < 1 ∨ 5 < who ∨ 30 < nd
    · rw [if_pos hbad] at h0; cases h0
    · rw [if_neg hbad] at h0
      obtain ⟨n, rfl⟩ := Int.eq_ofNat_of_zero_le (show 0 ≤ who by omega)
      exact good n A lf c firm A2 m c2 clss A3 nd c3 ds w hs.1 hc.1 hd (by omega) (by omega) (by omega) h0
  · exact bad who A lf c firm A2 m c2 clss A3 nd c3 w hs.1 hc.1 h0
end Go.Proofs.Ytnnddjanbfamkaa.wallApartDone
