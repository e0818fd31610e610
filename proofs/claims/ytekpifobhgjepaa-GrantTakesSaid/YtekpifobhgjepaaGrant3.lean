/- The walks of grant.wrong and grant.Can. -/
import Derived.Test.YtekpifobhgjepaaGrant2
import Derived.Laws.Cover3
namespace Go.Proofs.Ytekpifobhgjepaa
open Go Go.RowKit
set_option linter.unusedVariables false
set_option linter.unusedSimpArgs false

/-- the code of Can -/
def canF (n : Int) (es : List Ed) (x y : Int) (rt : BitVec 32) : Int := if edgeF n es ≠ 0 then edgeF n es else if x < 0 ∨ y < 0 ∨ n ≤ x ∨ n ≤ y ∨ x = y then 2 else if popN rt 32 ≠ 1 then 4 else 0
theorem canF_zero {n : Int} {es : List Ed} {x y : Int} {rt : BitVec 32} (h : canF n es x y rt = 0) : edgeF n es = 0 ∧ 0 ≤ x ∧ x < n ∧ 0 ≤ y ∧ y < n ∧ x ≠ y ∧ popN rt 32 = 1 := by
  unfold canF at h
  split at h
  · omega
  · split at h
    · omega
    · split at h
      · omega
      · refine ⟨by omega, by omega, by omega, by omega, by omega, by omega, by omega⟩
def RetWrong (w : World) (n : Int) (es : List Ed) (x y : Int) (rt : BitVec 32) (e : Ending) (w' : World) : Prop :=
  (canF n es x y rt = 0 ∧ ∃ g c Bs, e = .returned (.tuple #[.slice (some ⟨g, 0, none⟩) n.toNat c, .int .i64 0]) ∧ GrS w w' g c n.toNat Bs (gE es)) ∨
  ((canF n es x y rt != 0) = true ∧ e = .returned (.tuple #[.slice none 0 0, .int .i64 (canF n es x y rt)]) ∧ Kept w w')
set_option maxHeartbeats 2000000 in
theorem gwrong_any (n : Int) (A : Option Addr) (len c : Nat) (es : List Ed) (x y : Int) (rt : BitVec 32) (w : World) (hs : SlE w A len es) :
    Calls Try.prog 49 #[.int .i64 n, .slice A len c, .int .i64 x, .int .i64 y, .int .u32 (W rt)] w (RetWrong w n es x y rt) := by
  by_cases h0 : edgeF n es = 0
  · obtain ⟨n1, n6, _, _⟩ := edgeF_zero h0
    obtain ⟨nn, rfl⟩ := Int.eq_ofNat_of_zero_le (show 0 ≤ n by omega)
    have H0 := Lib.hid h0
    have hCF : canF nn es x y rt = if x < 0 ∨ y < 0 ∨ (nn : Int) ≤ x ∨ (nn : Int) ≤ y ∨ x = y then 2 else if popN rt 32 ≠ 1 then 4 else 0 := by
      unfold canF
      rw [if_neg (by omega)]
    by_cases hb : x < 0 ∨ y < 0 ∨ (nn : Int) ≤ x ∨ (nn : Int) ≤ y ∨ x = y
    · rw [if_pos hb] at hCF
      have FIN := Lib.hid (fun w' (k : Kept w w') => show RetWrong w nn es x y rt (.returned (.tuple #[.slice none 0 0, .int .i64 2])) w' from .inr ⟨by rw [hCF]; rfl, by rw [hCF], k⟩)
      obtain ⟨mn, hmn⟩ : ∃ mn, (if y < x then y else x) = mn := ⟨_, rfl⟩
      obtain ⟨mx, hmx⟩ : ∃ mx, (if x < y then y else x) = mx := ⟨_, rfl⟩
      have hq : mn < 0 ∨ (¬ mn < 0 ∧ (nn : Int) ≤ mx) ∨ (¬ mn < 0 ∧ ¬ (nn : Int) ≤ mx ∧ x = y) := by
        rw [← hmn, ← hmx]
        split <;> split <;> omega
      have hd : ∃ d1 d2 d3 : Bool, decide (mn < 0) = d1 ∧ decide ((nn : Int) ≤ mx) = d2 ∧ (x == y) = d3 ∧ (d1 = true ∨ (d1 = false ∧ d2 = true) ∨ (d1 = false ∧ d2 = false ∧ d3 = true)) := by
        refine ⟨_, _, _, rfl, rfl, rfl, ?_⟩
        rcases hq with a | ⟨a, b⟩ | ⟨a, b, c⟩
        · exact .inl (by simpa using a)
        · exact .inr (.inl ⟨by simpa using a, by simpa using b⟩)
        · exact .inr (.inr ⟨by simpa using a, by simpa using b, by simpa using c⟩)
      obtain ⟨d1, d2, d3, e1, e2, e3, hd⟩ := hd
      clear hq hb hCF h0
      rcases hd with rfl | ⟨rfl, rfl⟩ | ⟨rfl, rfl, rfl⟩
      all_goals
        go_enter Try.func49, Try.ntmps49
        go_wp2_with fail
        refine (build_any nn _ _ _ es _ hs).mono ?_
        rintro e w1 (⟨_, g, c1, Bs, rfl, hg⟩ | ⟨hne, _⟩)
        case inr => rw [H0.out] at hne; cases hne
        have KG := Lib.hid hg.1.kept0
        clear hg
        go_wp2_with fail
        go_ret2
        exact FIN.out _ KG.out
    · rw [if_neg hb] at hCF
      obtain ⟨mn, hmn⟩ : ∃ mn, (if y < x then y else x) = mn := ⟨_, rfl⟩
      obtain ⟨mx, hmx⟩ : ∃ mx, (if x < y then y else x) = mx := ⟨_, rfl⟩
      have e1 : decide (mn < 0) = false := by
        rw [← hmn]
        simp
        split <;> omega
      have e2 : decide ((nn : Int) ≤ mx) = false := by
        rw [← hmx]
        simp
        split <;> omega
      have e3 : (x == y) = false := by
        simp
        omega
      by_cases hp : popN rt 32 = 1
      · have hCF0 : canF nn es x y rt = 0 := by rw [hCF, if_neg (by omega)]
        have HCF := Lib.hid hCF0
        have HP := Lib.hid hp
        clear hb hCF hCF0 hp h0
        go_enter Try.func49, Try.ntmps49
        go_wp2_with fail
        refine (build_any nn _ _ _ es _ hs).mono ?_
        rintro e w1 (⟨_, g, c1, Bs, rfl, hg⟩ | ⟨hne, _⟩)
        case inr => rw [H0.out] at hne; cases hne
        have HG := Lib.hid hg
        clear hg
        go_wp2_with fail
        refine (onesO_any rt _).mono ?_
        rintro e w2 ⟨rfl, k2⟩
        rw [HP.out]
        have FIN := Lib.hid (show RetWrong w nn es x y rt (.returned (.tuple #[.slice (some ⟨g, 0, none⟩) nn c1, .int .i64 0])) w2 from .inl ⟨HCF.out, g, c1, Bs, rfl, HG.out.kept k2⟩)
        clear k2
        go_wp2_with fail
        go_ret2
        exact FIN.out
      · have hCF0 : canF nn es x y rt = 4 := by rw [hCF, if_pos hp]
        have HCF := Lib.hid hCF0
        have hp2 : ((popN rt 32 : Int) != 1) = true := by rw [bne_iff_ne]; omega
        obtain ⟨pp, hpp⟩ : ∃ pp, popN rt 32 = pp := ⟨_, rfl⟩
        have HPP := Lib.hid hpp
        rw [hpp] at hp2
        clear hb hCF hCF0 hp h0 hpp
        go_enter Try.func49, Try.ntmps49
        go_wp2_with fail
        refine (build_any nn _ _ _ es _ hs).mono ?_
        rintro e w1 (⟨_, g, c1, Bs, rfl, hg⟩ | ⟨hne, _⟩)
        case inr => rw [H0.out] at hne; cases hne
        have KG := Lib.hid hg.1.kept0
        clear hg
        go_wp2_with fail
        refine (onesO_any rt _).mono ?_
        rintro e w2 ⟨rfl, k2⟩
        rw [HPP.out]
        have FIN := Lib.hid (show RetWrong w nn es x y rt (.returned (.tuple #[.slice none 0 0, .int .i64 4])) w2 from .inr ⟨by rw [HCF.out]; rfl, by rw [HCF.out], KG.out.trans k2⟩)
        clear k2
        go_wp2_with fail
        go_ret2
        exact FIN.out
  · have hCF : canF n es x y rt = edgeF n es := by
      unfold canF
      rw [if_pos h0]
    have H0 := Lib.hid h0
    have hne2 : (edgeF n es != 0) = true := by simpa using h0
    have FIN := Lib.hid (fun w' (k : Kept w w') => show RetWrong w n es x y rt (.returned (.tuple #[.slice none 0 0, .int .i64 (edgeF n es)])) w' from .inr ⟨by rw [hCF]; exact hne2, by rw [hCF], k⟩)
    clear h0 hCF
    go_enter Try.func49, Try.ntmps49
    go_wp2_with fail
    refine (build_any n _ _ _ es _ hs).mono ?_
    rintro e w1 (⟨h0, _⟩ | ⟨_, rfl, k1⟩)
    · exact absurd h0 H0.out
    go_wp2_with fail
    go_ret2
    exact FIN.out _ k1
/-- what Can hands back -/
def RetCan (w : World) (n : Int) (es : List Ed) (x y : Int) (rt : BitVec 32) (e : Ending) (w' : World) : Prop :=
  Kept w w' ∧ ((canF n es x y rt = 0 ∧ e = .returned (.tuple #[.bool (canB n.toNat (gE es) x.toNat y.toNat rt), .int .i64 0])) ∨ ((canF n es x y rt != 0) = true ∧ e = .returned (.tuple #[.bool false, .int .i64 (canF n es x y rt)])))
set_option maxRecDepth 100000 in
set_option maxHeartbeats 2000000 in
theorem can_any (n : Int) (A : Option Addr) (len c : Nat) (es : List Ed) (x y : Int) (rt : BitVec 32) (w : World) (hs : SlE w A len es) :
    Calls Try.prog 31 #[.int .i64 n, .slice A len c, .int .i64 x, .int .i64 y, .int .u32 (W rt)] w (RetCan w n es x y rt) := by
  by_cases h0 : canF n es x y rt = 0
  · obtain ⟨z0, z1, z2, z3, z4, z5, _⟩ := canF_zero h0
    obtain ⟨n1, n6, _, _⟩ := edgeF_zero z0
    obtain ⟨nn, rfl⟩ := Int.eq_ofNat_of_zero_le (show 0 ≤ n by omega)
    obtain ⟨xx, rfl⟩ := Int.eq_ofNat_of_zero_le z1
    obtain ⟨yy, rfl⟩ := Int.eq_ofNat_of_zero_le z3
    have H0 := Lib.hid h0
    have hx : xx < nn := by omega
    have hy : yy < nn := by omega
    have hnil := fun (a : Option Addr) (l c : Nat) (w : World) => run_neq_slice_nil (P := Try.prog) w 88 3 a l c Try.underlying88
    clear z0 z1 z2 z3 z4 z5 h0
    go_enter Try.func31, Try.ntmps31
    go_wp2_with fail
    refine (gwrong_any nn _ _ _ es xx yy rt _ hs).mono ?_
    rintro e w1 (⟨_, g, c1, Bs, rfl, hg⟩ | ⟨hne, _⟩)
    case inr => rw [H0.out] at hne; cases hne
    rw [Int.toNat_natCast] at hg
    have HR := Lib.hid hg.read
    have KG := Lib.hid hg.1.kept0
    clear hg
    go_wp2_with fail
    refine (path_any g c1 nn Bs (gE es) xx yy rt _ HR.out (by omega) hx hy).mono ?_
    rintro e w2 ⟨k2, ⟨hr, rfl⟩ | ⟨hr, b, k, c2, rfl⟩⟩
    all_goals
      have FIN := Lib.hid (fun b (hb : canB nn (gE es) xx yy rt = b) => show RetCan w nn es xx yy rt (.returned (.tuple #[.bool b, .int .i64 0])) w2 from ⟨KG.out.trans k2, .inl ⟨H0.out, by rw [← hb]; simp⟩⟩)
      have HRR := Lib.hid hr
      clear hr k2
      go_wp2_with fail
      go_ret2
      exact FIN.out _ HRR.out
  · have H0 := Lib.hid h0
    have hne2 : (canF n es x y rt != 0) = true := by simpa using h0
    clear h0
    go_enter Try.func31, Try.ntmps31
    go_wp2_with fail
    refine (gwrong_any n _ _ _ es x y rt _ hs).mono ?_
    rintro e w1 (⟨h0, _⟩ | ⟨_, rfl, k1⟩)
    · exact absurd h0 H0.out
    have FIN := Lib.hid (show RetCan w n es x y rt (.returned (.tuple #[.bool false, .int .i64 (canF n es x y rt)])) w1 from ⟨k1, .inr ⟨hne2, rfl⟩⟩)
    clear k1
    go_wp2_with fail
    go_ret2
    exact FIN.out
end Go.Proofs.Ytekpifobhgjepaa
