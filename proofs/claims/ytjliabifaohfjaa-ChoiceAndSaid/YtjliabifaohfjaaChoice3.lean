/- The walks of a small tree's table, and of choice.Build. -/
import Derived.Test.YtjliabifaohfjaaChoice2
import Derived.Test.YtjliabifaohfjaaLat2
import Derived.Test.YtjliabifaohfjaaTruth
namespace Go.Proofs.Ytjliabifaohfjaa
open Go Go.RowKit
set_option linter.unusedVariables false
set_option linter.unusedSimpArgs false

def evTo (f : List Bool) (k : Nat) : List Bool := (List.range ((k + 1) / 2)).map fun j => bat f (2 * j)
def odTo (f : List Bool) (k : Nat) : List Bool := (List.range (k / 2)).map fun j => bat f (2 * j + 1)
theorem evTo_even {f : List Bool} {j : Nat} : evTo f (2 * j + 1) = evTo f (2 * j) ++ [bat f (2 * j)] := by
  unfold evTo
  rw [show (2 * j + 1 + 1) / 2 = j + 1 by omega, show (2 * j + 1) / 2 = j by omega, List.range_succ, List.map_append]
  rfl
theorem odTo_even {f : List Bool} {j : Nat} : odTo f (2 * j + 1) = odTo f (2 * j) := by
  unfold odTo
  rw [show (2 * j + 1) / 2 = j by omega, show (2 * j) / 2 = j by omega]
theorem evTo_odd {f : List Bool} {j : Nat} : evTo f (2 * j + 1 + 1) = evTo f (2 * j + 1) := by
  unfold evTo
  rw [show (2 * j + 1 + 1 + 1) / 2 = j + 1 by omega, show (2 * j + 1 + 1) / 2 = j + 1 by omega]
theorem odTo_odd {f : List Bool} {j : Nat} : odTo f (2 * j + 1 + 1) = odTo f (2 * j + 1) ++ [bat f (2 * j + 1)] := by
  unfold odTo
  rw [show (2 * j + 1 + 1) / 2 = j + 1 by omega, show (2 * j + 1) / 2 = j by omega, List.range_succ, List.map_append]
  rfl
theorem evTo_done {f : List Bool} {m : Nat} (h : f.length = 2 * m) : evTo f f.length = evF f := by
  unfold evTo evF
  rw [h, show (2 * m + 1) / 2 = m by omega, show (2 * m) / 2 = m by omega]
theorem odTo_done (f : List Bool) : odTo f f.length = odF f := rfl
theorem evTo_len (f : List Bool) (k : Nat) : (evTo f k).length ≤ k + 1 := by
  unfold evTo
  rw [List.length_map, List.length_range]
  omega
theorem odTo_len (f : List Bool) (k : Nat) : (odTo f k).length ≤ k := by
  unfold odTo
  rw [List.length_map, List.length_range]
  omega
theorem par (k : Nat) : ∃ j, k = 2 * j ∨ k = 2 * j + 1 := ⟨k / 2, by omega⟩
theorem and1_even (j : Nat) (h : j ≤ 100000) : bits .and .i64 ((2 * j : Nat) : Int) 1 = 0 := by
  have := i64_and (2 * j) 1 (by omega) (by omega)
  rw [Nat.and_one_is_mod, Nat.mul_mod_right] at this
  exact this
theorem and1_odd (j : Nat) (h : j ≤ 100000) : bits .and .i64 ((2 * j + 1 : Nat) : Int) 1 = 1 := by
  have := i64_and (2 * j + 1) 1 (by omega) (by omega)
  rw [Nat.and_one_is_mod, show (2 * j + 1) % 2 = 1 by omega] at this
  exact this
theorem Own.baseT {w w1 w2 : World} {E : TypeId} {s n : Nat} {v : Value} {xs : List Value} (h : Own w1 w2 E s v n xs) (k : Kept w w1) : Own w w2 E s v n xs := by
  refine ⟨⟨h.1.1, ?_⟩, k.trans h.2⟩
  rcases h.1.2 with hn | ⟨g, cap, cur, e, hb, rest⟩
  · exact .inl hn
  · exact .inr ⟨g, cap, cur, e, Nat.le_trans k.size hb, rest⟩
theorem own_slB {w0 w : World} {A : Option Addr} {n c : Nat} {xs : List Bool} (h : Own w0 w 4 1 (.slice A n c) n (xs.map bv)) (hl : xs.length = n) : SlB w A n xs := by
  obtain ⟨A2, c2, e, hsl, _⟩ := h.form
  injection e with e
  subst e
  exact ⟨hsl, hl⟩
set_option maxRecDepth 100000 in
set_option maxHeartbeats 8000000 in
theorem table_mk (n : Nat) (hn : n ≤ 4) : ∀ (d v : Nat) (f : List Bool) (l : List Bn) (w0 w : World) (M bm : Nat) (A : Option Addr) (len c : Nat) (vi : Int), vi = (v : Int) → d + v = n → f.length = 2 ^ d → len = f.length → SlB w A len f → MkS w0 w M bm l → TreeOk n l → l.length + 2 ^ d ≤ 40 →
    Calls Try.prog 41 #[.pointer (some ⟨M, 0, none⟩), .int .i64 vi, .int .i64 n, .slice A len c] w (RetMk w0 w M bm (tabF d v f l)) := by
  intro d
  induction d with
  | zero =>
    intro v f l w0 w M bm A len c vi hvi hd hf hlen hs hm ht hl
    subst hvi
    obtain rfl : v = n := by omega
    obtain rfl : len = 1 := by rw [hlen, hf]
    obtain ⟨b, off, rfl, hb, c0⟩ := hs.getN 0 (by omega)
    have g1 : ((v : Int) == (v : Int)) = true := by simp
    have HT := Lib.hid (show tabF 0 v f l = (l, if bat f 0 then 1 else 0) from rfl)
    have HM := Lib.hid hm
    have HK := Lib.hid (KeepB.of hm.kept0 (Kept.refl w))
    obtain ⟨r, hr⟩ : ∃ r, tabF 0 v f l = r := ⟨_, rfl⟩
    rw [hr] at HT ⊢
    clear hr hm hs ht hlen hf
    have c0' : w.cell? ⟨b, off, none⟩ = some (.bool (bat f 0)) := c0
    clear c0
    cases hb0 : bat f 0
    · have HV := Lib.hid (show r = (l, 0) by rw [HT.out, hb0]; rfl)
      rw [hb0] at c0'
      clear hb0
      go_enter Try.func41, Try.ntmps41
      go_wp2_with fail
      go_ret
      exact ⟨by rw [HV.out]; rfl, by rw [HV.out]; exact HM.out, HK.out⟩
    · have HV := Lib.hid (show r = (l, 1) by rw [HT.out, hb0]; rfl)
      rw [hb0] at c0'
      clear hb0
      go_enter Try.func41, Try.ntmps41
      go_wp2_with fail
      go_ret
      exact ⟨by rw [HV.out]; rfl, by rw [HV.out]; exact HM.out, HK.out⟩
  | succ d ih =>
    intro v f l w0 w M bm A len c vi hvi hd hf hlen hs hm ht hl
    subst hvi
    have hpow : 2 ^ (d + 1) = 2 * 2 ^ d := by rw [Nat.pow_succ]; omega
    have hf2 : f.length = 2 * 2 ^ d := by rw [hf, hpow]
    have hp1 : 1 ≤ 2 ^ d := Nat.one_le_two_pow
    have hp : f.length / 2 = 2 ^ d := by rw [hf2]; omega
    have A1 := tab_ok d (v + 1) (evF f) l (by omega) (by rw [evF_length, hp]) ht
    have HA1 := Lib.hid A1
    have B1 := tab_ok d (v + 1) (odF f) (tabF d (v + 1) (evF f) l).1 (by omega) (by rw [odF_length, hp]) A1.tree
    have HB1 := Lib.hid B1
    have HTS := Lib.hid (tabF_succ d v f l)
    have HEL := Lib.hid (show (evF f).length = 2 ^ d by rw [evF_length, hp])
    have HOL := Lib.hid (show (odF f).length = 2 ^ d by rw [odF_length, hp])
    have HED := Lib.hid (evTo_done hf2)
    have HLA := Lib.hid (show (tabF d (v + 1) (evF f) l).1.length + 1 ≤ l.length + 2 ^ d by
      obtain ⟨m, e, hm⟩ := A1.ext
      rw [e, List.length_append]
      omega)
    have HLB := Lib.hid (show (tabF d (v + 1) (odF f) (tabF d (v + 1) (evF f) l).1).1.length + 1 ≤ (tabF d (v + 1) (evF f) l).1.length + 2 ^ d by
      obtain ⟨m, e, hm⟩ := B1.ext
      rw [e, List.length_append]
      omega)
    have HL40 := Lib.hid (show l.length + (2 ^ d + 2 ^ d) ≤ 40 by rw [hpow] at hl; omega)
    have HVN := Lib.hid (show v < n by omega)
    have g1 : ((v : Int) == (n : Int)) = false := by rw [beq_eq_false_iff_ne]; omega
    have hv1 : ((v : Int) + 1) = ((v + 1 : Nat) : Int) := by omega
    have hv4 : v ≤ 4 := by omega
    have hlen32 : len ≤ 40 := by rw [hlen, hf2]; omega
    have HLEN := Lib.hid hlen
    have HS := Lib.hid hs
    have HM := Lib.hid hm
    have IH := Lib.hid ih
    have HDV := Lib.hid (show d + (v + 1) = n by omega)
    have HPP := Lib.hid hp1
    have HK0 := Lib.hid hm.kept0
    have HLE2 := Lib.hid (show len = 2 * 2 ^ d by rw [hlen, hf2])
    have HTR := Lib.hid ht
    obtain ⟨r, hr⟩ : ∃ r, tabF (d + 1) v f l = r := ⟨_, rfl⟩
    obtain ⟨ra, hra⟩ : ∃ ra, tabF d (v + 1) (evF f) l = ra := ⟨_, rfl⟩
    obtain ⟨rb, hrb⟩ : ∃ rb, tabF d (v + 1) (odF f) ra.1 = rb := ⟨_, rfl⟩
    obtain ⟨p, hpp⟩ : ∃ p, 2 ^ d = p := ⟨_, rfl⟩
    rw [hr, hra, hrb] at HTS
    rw [hra] at HA1 HLA
    rw [hra, hrb] at HB1 HLB
    rw [hr]
    have HRA := Lib.hid hra
    have HRB := Lib.hid hrb
    have HP2 := Lib.hid hpp
    have HLA := Lib.hid (show ra.1.length + 1 ≤ l.length + p by rw [← hpp]; exact HLA.out)
    have HLB := Lib.hid (show rb.1.length + 1 ≤ ra.1.length + p by rw [← hpp]; exact HLB.out)
    have HL40 := Lib.hid (show l.length + (p + p) ≤ 40 by rw [← hpp]; exact HL40.out)
    have HPP := Lib.hid (show 1 ≤ p by rw [← hpp]; exact HPP.out)
    clear hr hra hrb hpp ih A1 B1 hm hs hlen hf hf2 hp hpow hl ht hd hp1 hv1
    go_enter Try.func41, Try.ntmps41
    go_wp2_with fail
    go_loopw [9, 10, 22] (fun lo hi t wr => ∃ k : Nat, k ≤ len ∧ t = .int .i64 k ∧ Own w wr 4 1 lo (evTo f k).length ((evTo f k).map bv) ∧ Own w wr 4 1 hi (odTo f k).length ((odTo f k).map bv) ∧ Hid (Dis lo hi)) (fun _ _ t _ => len - (intOf t).toNat)
    case atStart => exact ⟨0, Nat.zero_le _, rfl, Own.start (Kept.refl _), Own.start (Kept.refl _), Lib.hid (Dis.nil _)⟩
    case round =>
      obtain ⟨k, hk, rfl, hlo, hhi, HDIS⟩ := hrel
      obtain ⟨Al, cl, rfl, _, _⟩ := hlo.form
      obtain ⟨Ah, ch, rfl, _, _⟩ := hhi.form
      have HLO := Lib.hid hlo
      have HHI := Lib.hid hhi
      have hel := evTo_len f k
      have hol := odTo_len f k
      by_cases hlt : k < len
      · obtain ⟨b, off, rfl, hb, ck⟩ := (HS.out.kept hlo.2).getN k hlt
        have i1 : (0 : Int) ≤ (k : Int) := by omega
        have i2 : (k : Int) < (len : Int) := by omega
        obtain ⟨j, hj | hj⟩ := par k
        · have hand : bits .and .i64 (k : Int) 1 = 0 := by rw [hj]; exact and1_even j (by omega)
          have HE := Lib.hid (show evTo f (k + 1) = evTo f k ++ [bat f k] by rw [hj]; exact evTo_even)
          have HO := Lib.hid (show odTo f (k + 1) = odTo f k by rw [hj]; exact odTo_even)
          clear hj
          generalize bat f k = x at ck HE
          go_wp2_with (at_builtin; refine wpList_pushAt rfl _ _ 22 rfl 4 Try.underlying22 info_bool rfl (by decide) (by decide) _ _ _ _ hlo #[.bool x] _ _ 1 1 rfl rfl rfl rfl (one_bool _) (by omega) ?_; intro v7 w7 hown7 hgr7 hat7)
          have H7 := Lib.hid hown7
          have HH7 := Lib.hid ((HHI.out.alloc _).grownD hgr7 HDIS.out.symm HLO.out.since)
          have HD7 := Lib.hid ((HDIS.out.symm.moved HHI.out (Nat.le_succ _) hat7).symm)
          clear hown7 hgr7 hat7
          go_roundw
          case rel => exact ⟨k + 1, by omega, by go_num, by rw [HE.out]; simpa [bv] using H7.out, by rw [HO.out]; exact HH7.out, HD7⟩
          case measure => simp [intOf]; omega
        · have hand : bits .and .i64 (k : Int) 1 = 1 := by rw [hj]; exact and1_odd j (by omega)
          have HE := Lib.hid (show evTo f (k + 1) = evTo f k by rw [hj]; exact evTo_odd)
          have HO := Lib.hid (show odTo f (k + 1) = odTo f k ++ [bat f k] by rw [hj]; exact odTo_odd)
          clear hj
          generalize bat f k = x at ck HO
          go_wp2_with (at_builtin; refine wpList_pushAt rfl _ _ 22 rfl 4 Try.underlying22 info_bool rfl (by decide) (by decide) _ _ _ _ hhi #[.bool x] _ _ 1 1 rfl rfl rfl rfl (one_bool _) (by omega) ?_; intro v7 w7 hown7 hgr7 hat7)
          have H7 := Lib.hid hown7
          have HH7 := Lib.hid ((HLO.out.alloc _).grownD hgr7 HDIS.out HHI.out.since)
          have HD7 := Lib.hid (HDIS.out.moved HLO.out (Nat.le_succ _) hat7)
          clear hown7 hgr7 hat7
          go_roundw
          case rel => exact ⟨k + 1, by omega, by go_num, by rw [HE.out]; exact HH7.out, by rw [HO.out]; simpa [bv] using H7.out, HD7⟩
          case measure => simp [intOf]; omega
      · obtain rfl : k = len := by omega
        have HM1 := Lib.hid (HM.out.kept hlo.2)
        have HK1 := Lib.hid (KeepB.of HK0.out hlo.2)
        have he1 : evTo f k = evF f := by rw [HLEN.out]; exact HED.out
        have he2 : odTo f k = odF f := by rw [HLEN.out]; exact odTo_done f
        rw [he1] at hlo ⊢
        rw [he2] at hhi ⊢
        have HL1 := Lib.hid (hlo.baseT HK0.out)
        have HH1 := Lib.hid (hhi.baseT HK0.out)
        clear hlo hhi HLO HHI HDIS hel hol he1 he2
        have hv5 : v + 1 ≤ 5 := by omega
        go_wp2_with fail
        refine (IH.out (v + 1) (evF f) l w0 _ M bm Al _ cl _ (by omega) HDV.out HEL.out rfl (own_slB HL1.out rfl) HM1.out HTR.out (by have := HL40.out; have := HPP.out; rw [HP2.out]; omega)).mono ?_
        rintro e w2 ⟨rfl, hm2, kb2⟩
        rw [HRA.out] at hm2 ⊢
        have HH2 := Lib.hid (kb2.2 _ _ _ HH1.out)
        have HM2 := Lib.hid hm2
        have HK2 := Lib.hid (HK1.out.trans kb2)
        clear hm2 kb2
        go_wp2_with fail
        refine (IH.out (v + 1) (odF f) ra.1 w0 _ M bm Ah _ ch _ (by omega) HDV.out HOL.out rfl (own_slB HH2.out rfl) HM2.out HA1.out.tree (by have := HL40.out; have := HLA.out; rw [HP2.out]; omega)).mono ?_
        rintro e w3 ⟨rfl, hm3, kb3⟩
        rw [HRB.out] at hm3 ⊢
        have HM3 := Lib.hid hm3
        have HK3 := Lib.hid (HK2.out.trans kb3)
        have hka : ra.2 ≤ 1000 := by have := HA1.out.num.1; have := HLA.out; have := HL40.out; omega
        have hkb : rb.2 ≤ 1000 := by have := HB1.out.num.1; have := HLB.out; have := HLA.out; have := HL40.out; omega
        have hlb : rb.1.length + 1 ≤ 900 := by have := HLB.out; have := HLA.out; have := HL40.out; omega
        clear hm3 kb3
        go_wp2_with fail
        refine (put_any w0 _ M bm rb.1 v ra.2 rb.2 HM3.out ⟨by show v ≤ 1000; omega, hka, hkb⟩ hlb).mono ?_
        rintro e w4 ⟨rfl, hm4, kb4⟩
        rw [← HTS.out] at hm4 ⊢
        have HM4 := Lib.hid hm4
        have HK4 := Lib.hid (HK3.out.trans kb4)
        clear hm4 kb4
        go_wp2_with fail
        go_ret
        exact ⟨rfl, HM4.out, HK4.out⟩
end Go.Proofs.Ytjliabifaohfjaa
