/- TruthPrime: the walk of the statement. -/
import Derived.Test.YtjliabifaohfjaaPrime6
namespace Go.Proofs.Ytjliabifaohfjaa.truthPrimeDone
open Go Go.RowKit
set_option linter.unusedVariables false

theorem in_any (x y : BitVec 32) (w : World) : Calls Try.prog 17 #[.int .u32 (W x), .int .u32 (W y)] w fun e w' => e = .returned (.bool (subB x y)) ∧ w = w' := by
  go_enter Try.func17, Try.ntmps17
  go_wp2
  go_ret
  exact ⟨rfl, rfl⟩
theorem primes_no (n : Int) (A : Option Addr) (len c : Nat) (f : List Bool) (w : World) (hl : len ≤ maxLen) (hf : SlB w A len f) (hc : (truthF n f != 0) = true) :
    Calls Try.prog 18 #[.int .i64 n, .slice A len c] w fun e w' => e = .returned (.tuple #[.slice none 0 0, .int .i64 (truthF n f)]) ∧ w = w' := by
  go_enter Try.func18, Try.ntmps18
  go_wp2_with fail
  refine (truthCheck_any _ _ _ _ f _ hl hf).mono ?_
  rintro e w1 ⟨rfl, rfl⟩
  go_wp2_with fail
  go_ret2
  exact ⟨rfl, rfl⟩
def coversB (l : List Cb) (s : BitVec 32) : Bool := l.any fun c => covB c s
theorem covers_snoc (l : List Cb) (s : BitVec 32) (k : Nat) (h : k < l.length) : coversB (l.take (k + 1)) s = (coversB (l.take k) s || covB l[k] s) := by
  unfold coversB
  rw [take_snoc _ _ h, List.any_append]
  simp
theorem covers_is {n : Nat} {f : List Bool} {l : List Cb} (h1 : SndC (2 ^ n) (bat f) l) (h2 : CmpC (2 ^ n) (bat f) l) {s : Nat} (hs : s < 2 ^ n) : coversB l (BitVec.ofNat 32 s) = bat f s := by
  rw [Bool.eq_iff_iff]
  unfold coversB
  rw [List.any_eq_true]
  exact ⟨fun ⟨c, hc, h⟩ => h1 c hc s hs h, fun h => h2 s hs h⟩
theorem wrap_of (s : Nat) (h : s < 4294967296) : IntKind.u32.wrap (s : Int) = W (BitVec.ofNat 32 s) := by
  rw [u32_in _ (by omega) (by omega)]
  unfold W
  rw [BitVec.toNat_ofNat, Nat.mod_eq_of_lt (by omega)]
theorem cbSl_get {w : World} {A : Option Addr} {n : Nat} {ys : List Cb} (h : Sl w 2 A n (cbCells ys)) (hl : ys.length = n) (k : Nat) (hk : k < n) : ∃ b off, ∃ hb : k < ys.length, A = some ⟨b, off, none⟩ ∧ b < w.heap.size ∧
    w.cell? ⟨b, off + k * 2, none⟩ = some (.int .u32 (W ys[k].1)) ∧ w.cell? ⟨b, off + k * 2 + 1, none⟩ = some (.int .u32 (W ys[k].2)) := by
  have hkl : k < ys.length := by omega
  obtain ⟨b, off, e, hb, hc⟩ := h.2 (by omega)
  obtain ⟨q1, q2⟩ := cbCells_at ys k ys[k] (List.getElem?_eq_getElem hkl)
  exact ⟨b, off, hkl, e, hb, hc _ _ q1, hc _ _ q2⟩
set_option maxRecDepth 100000 in
set_option maxHeartbeats 2000000 in
theorem yes (n : Nat) (A : Option Addr) (len cp : Nat) (f : List Bool) (w : World) (hl : len ≤ maxLen) (hf : SlB w A len f) (hc : truthF n f = 0) :
    Calls Try.prog 6 #[.int .i64 n, .slice A len cp] w fun e w' => e = .returned (.bool true) ∧ Kept w w' := by
  have hz := truthF_zero hc
  have hlen : len = 2 ^ n := by rw [← hf.2, hz.2.2, Int.toNat_natCast]
  have h16 : len ≤ 16 := by rw [hlen]; exact pow_le4 n (by omega)
  have HLEN := Lib.hid hlen
  have HC := Lib.hid hc
  clear hc hz hlen
  go_enter Try.func6, Try.ntmps6
  go_wp2_with fail
  refine (primes_ok n _ _ _ f _ hl hf HC.out).mono ?_
  rintro e w1 ⟨m, A1, c1, ys, rfl, hyl, hm, hsl, hsnd, hcmp, k1⟩
  have HSL := Lib.hid hsl
  have HYL := Lib.hid hyl
  have HIS := Lib.hid (fun s hs => covers_is hsnd hcmp (s := s) hs)
  have hf1 := hf.kept k1
  clear hyl hsl hsnd hcmp
  go_wp2_with fail
  refine (stated_any _ _ _ _ f _ hl hf1).mono ?_
  rintro e w2 ⟨rfl, rfl⟩
  rw [HC.out]
  go_wp2_with fail
  go_loopw [7] (fun t wr => ∃ s : Nat, s ≤ len ∧ t = .int .i64 s ∧ Kept w1 wr) (fun t _ => len - (intOf t).toNat)
  case atStart => exact ⟨0, Nat.zero_le _, rfl, Kept.refl _⟩
  case round =>
    obtain ⟨s, hs, rfl, hkw⟩ := hrel
    by_cases hlt : s < len
    · have HI := Lib.hid (HIS.out s (by have := HLEN.out; omega))
      have hwr := wrap_of s (by omega)
      obtain ⟨x, hx⟩ : ∃ x, BitVec.ofNat 32 s = x := ⟨_, rfl⟩
      rw [hx] at HI hwr
      clear hx
      go_wp2_with fail
      go_loopw [8, 31] (fun v t wr => ∃ k : Nat, k ≤ m ∧ t = .int .i64 k ∧ v = .bool (coversB (ys.take k) x) ∧ Kept w1 wr) (fun _ t _ => m - (intOf t).toNat)
      case atStart => exact ⟨0, Nat.zero_le _, rfl, rfl, hkw⟩
      case round =>
        obtain ⟨k, hk, rfl, rfl, hkw2⟩ := hrel
        by_cases hlt2 : k < m
        · obtain ⟨b, off, hkr, rfl, hb, c0, c1⟩ := cbSl_get (HSL.out.kept hkw2) HYL.out k hlt2
          have HS := Lib.hid (covers_snoc ys x k hkr)
          have HCV := Lib.hid (show covB ys[k] x = (subB ys[k].1 x && (ys[k].2 &&& x == 0#32)) from rfl)
          generalize covB ys[k] x = cv at HS HCV
          generalize ys[k].1 = y1 at c0 HCV
          generalize ys[k].2 = y2 at c1 HCV
          cases hcb : coversB (ys.take k) x
          · cases h1 : subB y1 x
            · have HN := Lib.hid (show coversB (ys.take (k + 1)) x = false by rw [HS.out, hcb, HCV.out, h1]; rfl)
              have H1 := Lib.hid h1
              clear hcb h1
              go_wp2_with fail
              refine (in_any y1 x _).mono ?_
              rintro e w3 ⟨rfl, rfl⟩
              rw [H1.out]
              go_wp2_with fail
              go_roundw
              case rel => exact ⟨k + 1, by omega, by go_num, by rw [HN.out], hkw2.alloc _⟩
              case measure => simp [intOf]; omega
            · obtain ⟨b2, h2⟩ : ∃ b2, (y2 &&& x == 0#32) = b2 := ⟨_, rfl⟩
              have HN := Lib.hid (show coversB (ys.take (k + 1)) x = b2 by rw [HS.out, hcb, HCV.out, h1, h2]; cases b2 <;> rfl)
              have H1 := Lib.hid h1
              clear hcb h1
              go_wp2_with fail
              refine (in_any y1 x _).mono ?_
              rintro e w3 ⟨rfl, rfl⟩
              rw [H1.out]
              go_wp2_with fail
              go_roundw
              case rel => exact ⟨k + 1, by omega, by go_num, by rw [HN.out], hkw2.alloc _⟩
              case measure => simp [intOf]; omega
          · have HN := Lib.hid (show coversB (ys.take (k + 1)) x = true by rw [HS.out, hcb]; rfl)
            clear hcb
            go_wp2_with fail
            go_roundw
            case rel => exact ⟨k + 1, by omega, by go_num, by rw [HN.out], hkw2.alloc _⟩
            case measure => simp [intOf]; omega
        · have HK := Lib.hid (show coversB (ys.take k) x = bat f s by rw [take_all ys k (by rw [HYL.out]; omega)]; exact HI.out)
          rw [HK.out]
          obtain ⟨b, off, rfl, hb, cq⟩ := (hf1.kept hkw2).getN s hlt
          have hi1 : (0 : Int) ≤ (s : Int) := by omega
          have hi2 : (s : Int) < (len : Int) := by omega
          have hne : (bat f s != bat f s) = false := by simp
          generalize bat f s = bb at cq hne
          clear hwr
          go_wp2_with fail
          go_roundw
          case rel => exact ⟨s + 1, by omega, by go_num, hkw2⟩
          case measure => simp [intOf]; omega
    · go_wp2_with fail
      go_ret
      exact ⟨rfl, k1.trans hkw⟩
theorem truthPrime_walk (n : Int) (A : Option Addr) (len cp : Nat) (f : List Bool) (w : World) (_wn : (Lit.int .i64 n).wf = true) (hl : len ≤ maxLen) (hf : SlB w A len f) :
    Calls Try.prog 6 #[.int .i64 n, .slice A len cp] w fun e w' => e = .returned (.bool true) ∧ Kept w w' := by
  by_cases hc : truthF n f = 0
  · obtain ⟨nn, rfl⟩ := Int.eq_ofNat_of_zero_le (show 0 ≤ n by have := (truthF_zero hc).1; omega)
    exact yes nn A len cp f w hl hf hc
  · have hne : (truthF n f != 0) = true := by simpa using hc
    have hnz : (truthF n f == 0) = false := by simpa using hc
    clear hc
    go_enter Try.func6, Try.ntmps6
    go_wp2_with fail
    refine (primes_no n _ _ _ f _ hl hf hne).mono ?_
    rintro e w1 ⟨rfl, rfl⟩
    go_wp2_with fail
    refine (stated_any _ _ _ _ f _ hl hf).mono ?_
    rintro e w2 ⟨rfl, rfl⟩
    go_wp2_with fail
    go_ret
    exact ⟨rfl, Kept.refl _⟩
end Go.Proofs.Ytjliabifaohfjaa.truthPrimeDone
