/- Package roles: the office where its struct stands; no set at odds is had by more than one bit. -/
import Derived.Test.YtgcpomdlajoifaaRoles
import Derived.Test.YtgcpomdlajoifaaApartP
import Derived.Test.YtgcpomdlajoifaaDeedS
import Derived.Test.YtgcpomdlajoifaaFirst
import Derived.Test.YtgcpomdlajoifaaLat2
import Derived.Lib.BitFns
import Derived.StillTailTactics
import Derived.Deep.RegionHeld3
import Derived.BigRegion
namespace Go.Proofs.Ytgcpomdlajoifaa
open Go Go.RowKit
set_option linter.unusedVariables false

/-! ### counting -/
theorem pop8_nat6 (n : Nat) (h : n ≤ 255) : Lib.pop8 (n : Int) = (Lib.onesCount n : Int) := Lib.pop8_eq ⟨n, by omega⟩
set_option maxRecDepth 100000 in
theorem ones6 : ∀ n : Fin 64, Lib.onesCount n.val = bitsN (BitVec.ofNat 32 n.val) 32 := by decide +kernel
set_option maxRecDepth 100000 in
theorem ones6_le : ∀ n : Fin 64, Lib.onesCount n.val ≤ 6 := by decide +kernel
theorem bits_and6 (x : Int) (h0 : 0 ≤ x) (h1 : x ≤ 63) : bits .and .u32 x 255 = x := by
  obtain ⟨n, rfl⟩ := Int.eq_ofNat_of_zero_le h0
  have h := bits_and_W (BitVec.ofNat 32 n) 255#32
  have e1 : W (BitVec.ofNat 32 n) = (n : Int) := by unfold W; rw [BitVec.toNat_ofNat, Nat.mod_eq_of_lt (by omega)]
  have e2 : W 255#32 = 255 := rfl
  have e3 : W (BitVec.ofNat 32 n &&& 255#32) = ((n % 256 : Nat) : Int) := by
    unfold W
    rw [BitVec.toNat_and, BitVec.toNat_ofNat, Nat.mod_eq_of_lt (by omega), show (255#32).toNat = 2 ^ 8 - 1 from rfl, Nat.and_two_pow_sub_one_eq_mod]
  rw [e1, e2, e3] at h
  rw [h]
  omega
set_option maxRecDepth 100000 in
theorem onesInt6 (x : Int) (h0 : 0 ≤ x) (h1 : x ≤ 63) (w : World) : Calls Try.prog 45 #[.int .u32 x] w fun e w' => e = .returned (.int .i64 (Lib.onesCount x.toNat)) ∧ Kept w w' := by
  have e24 : x / 16777216 = 0 := by omega
  have e16 : x / 65536 = 0 := by omega
  have e8 : x / 256 = 0 := by omega
  have f0 : bits .and .u32 0 255 = 0 := by kernel_rfl
  have fx : bits .and .u32 x 255 = x := bits_and6 x h0 h1
  have h2 : x ≤ 255 := by omega
  go_enter Try.func45, Try.ntmps45
  go_wp2_with fail
  go_region
  go_wp2_with fail
  go_ret
  refine ⟨congrArg Ending.returned (congrArg (Value.int IntKind.i64) ?_), (Kept.refl _).drew⟩
  obtain ⟨n, rfl⟩ := Int.eq_ofNat_of_zero_le h0
  have l1 := ones6_le ⟨n, by omega⟩
  simp only at l1
  show (Lib.pop8 0 + Lib.pop8 0 + Lib.pop8 0 + Lib.pop8 n) % 256 = _
  rw [pop8_nat6 n (by omega), show Lib.pop8 0 = 0 by decide +kernel, Int.toNat_natCast]
  omega
theorem fit6_lt {p : BitVec 32} (hp : fitB 6 p = true) : p.toNat < 64 := by
  rw [fitB_lt (by omega), decide_eq_true_eq, BitVec.lt_def] at hp
  exact hp
theorem ones6_any (p : BitVec 32) (hp : fitB 6 p = true) (w : World) : Calls Try.prog 45 #[.int .u32 (W p)] w fun e w' => e = .returned (.int .i64 (bitsN p 32)) ∧ Kept w w' := by
  have hlt := fit6_lt hp
  have h := onesInt6 (W p) (by unfold W; omega) (by unfold W; omega) w
  have e : (W p).toNat = p.toNat := by unfold W; omega
  have e2 := ones6 ⟨p.toNat, hlt⟩
  rw [show BitVec.ofNat 32 p.toNat = p by simp] at e2
  rw [e] at h
  rw [← e2]
  exact h
/-! ### at odds -/
theorem offOdd1_any (nx : BitVec 32) (hn : fitB 6 nx = true) (p : Addr) (x : BitVec 32) (w : World) (hp : w.cell? p = some (.int .u32 (W nx))) :
    Calls Try.prog 65 #[.int .u32 (W x), .pointer (some p)] w fun e w' => e = .returned (.bool (oddR nx x)) ∧ Kept w w' := by
  have h6 : fitB 6 (x &&& nx) = true := by
    rw [fitB_iff] at hn ⊢
    intro i hi
    rw [BitVec.getLsbD_and, Bool.and_eq_true] at hi
    exact hn i hi.2
  have HO := Lib.hid (fun w => ones6_any (x &&& nx) h6 w)
  have HD := Lib.hid (show oddR nx x = decide ((1 : Int) < (bitsN (x &&& nx) 32 : Nat)) by unfold oddR; rw [Bool.eq_iff_iff]; simp only [decide_eq_true_eq]; omega)
  clear h6
  generalize bitsN (x &&& nx) 32 = m at HO HD
  go_enter Try.func65, Try.ntmps65
  go_wp2_with fail
  refine (HO.out _).mono ?_
  rintro e w1 ⟨rfl, k1⟩
  go_wp2_with fail
  go_ret
  exact ⟨by rw [HD.out]; rfl, k1⟩
theorem offIndex_any (nx : BitVec 32) (hn6 : fitB 6 nx = true) (p : Addr) (A : Option Addr) (n c : Nat) (xs : List (BitVec 32)) (w : World) (hs : SlW w A n xs) (hn : n ≤ 1000) (hp : w.cell? p = some (.int .u32 (W nx))) :
    Calls Try.prog 64 #[.slice A n c, .func (.func 65) #[] #[.pointer (some p)]] w fun e w' => e = .returned (.int .i64 (firstI (oddR nx) xs)) ∧ Kept w w' := by
  have hpl := cell_lt hp
  go_enter Try.func64, Try.ntmps64
  go_wp2_with fail
  go_loopw [8] (fun t wr => ∃ q : Nat, q ≤ n ∧ t = .int .i64 q ∧ Hid ((xs.take q).any (oddR nx) = false) ∧ Kept w wr) (fun t _ => n - (intOf t).toNat)
  case atStart => exact ⟨0, Nat.zero_le _, rfl, Lib.hid rfl, Kept.refl _⟩
  case round =>
    obtain ⟨q, hq, rfl, HN, kq⟩ := hrel
    by_cases hlt : q < n
    · obtain ⟨b, off, hk, rfl, hb, cq⟩ := (hs.kept kq).get q hlt
      have hsn := Lib.hid (any_snoc (oddR nx) xs q hk)
      have hhit := Lib.hid (firstI_hit (oddR nx) xs q hk HN.out)
      have HC := Lib.hid (offOdd1_any nx hn6 p xs[q] wr ((kq.cell (p := p) hpl).trans hp))
      generalize xs[q] = x at cq hsn hhit HC
      obtain ⟨bb, hb1⟩ : ∃ bb, oddR nx x = bb := ⟨_, rfl⟩
      rw [hb1] at HC hsn hhit
      clear hb1
      go_wp2_with fail
      refine HC.out.mono ?_
      rintro e w' ⟨rfl, k1⟩
      cases bb
      · go_wp2_with fail
        go_roundw
        case rel => exact ⟨q + 1, by omega, by go_num, Lib.hid (by rw [hsn.out, HN.out]; rfl), kq.trans k1⟩
        case measure => simp [intOf]; omega
      · go_wp2_with fail
        go_ret
        exact ⟨by rw [hhit.out trivial]; rfl, kq.trans k1⟩
    · have HK := Lib.hid (take_all xs q (by rw [hs.2]; omega))
      go_wp2_with fail
      go_ret
      exact ⟨by rw [firstI_none _ _ (by rw [← HK.out]; exact HN.out)]; rfl, kq⟩
theorem offContains_any (nx : BitVec 32) (hn6 : fitB 6 nx = true) (p : Addr) (A : Option Addr) (n c : Nat) (xs : List (BitVec 32)) (w : World) (hs : SlW w A n xs) (hn : n ≤ 1000) (hp : w.cell? p = some (.int .u32 (W nx))) :
    Calls Try.prog 58 #[.slice A n c, .func (.func 65) #[] #[.pointer (some p)]] w fun e w' => e = .returned (.bool (xs.any (oddR nx))) ∧ Kept w w' := by
  have H := Lib.hid (firstI_ge (oddR nx) xs)
  go_enter Try.func58, Try.ntmps58
  go_wp2_with fail
  refine (offIndex_any nx hn6 p _ _ _ xs _ hs hn hp).mono ?_
  rintro e w' ⟨rfl, k1⟩
  go_wp2_with fail
  go_ret
  exact ⟨by rw [← H.out]; rfl, k1⟩
/-! ### the office -/
theorem rowsV_upR (n : Nat) (m : Nat → BitVec 32) (k : Nat) (x : BitVec 32) : (rowsV n m).set k (.int .u32 (W x)) = rowsV n (updR m k x) := rowsV_set n m k x
structure OSt (w0 w : World) (S G P : Nat) (Au : Option Addr) (n cu : Nat) (Ao : Option Addr) (no co : Nat) (VC : Value) (users : Nat) (s : RSt) : Prop where
  st : Row w0 w S 90 [.slice Au n cu, .slice Ao no co, VC, .slice (some ⟨G, 0, none⟩) users users, .slice (some ⟨P, 0, none⟩) users users]
  gv : Row w0 w G 29 (rowsV users s.given)
  pl : Row w0 w P 29 (rowsV users s.play)
  ne : G ≠ P
theorem row_neO {w0 w : World} {B D : Nat} {e1 e2 : TypeId} {xs ys : List Value} (h : Row w0 w B e1 xs) (k : Row w0 w D e2 ys) (hne : e1 ≠ e2) : B ≠ D := by
  intro e
  obtain ⟨c, h3, _⟩ := h.1
  obtain ⟨c', h4, _⟩ := k.1
  rw [e, h4] at h3
  injection h3 with h3
  injection h3 with _ h3
  exact hne h3.symm
section
variable {w0 w w' : World} {S G P : Nat} {Au : Option Addr} {n cu : Nat} {Ao : Option Addr} {no co : Nat} {VC : Value} {users : Nat} {s : RSt}
theorem OSt.kept (h : OSt w0 w S G P Au n cu Ao no co VC users s) (k : Kept w w') : OSt w0 w' S G P Au n cu Ao no co VC users s := ⟨h.st.kept k, h.gv.kept k, h.pl.kept k, h.ne⟩
theorem OSt.setG (h : OSt w0 w S G P Au n cu Ao no co VC users s) (i : Nat) (v : BitVec 32) : OSt w0 (w.setCell ⟨G, i, none⟩ (.int .u32 (W v))) S G P Au n cu Ao no co VC users ⟨updR s.given i v, s.play⟩ := by
  refine ⟨h.st.other (p := ⟨G, i, none⟩) _ (row_neO h.st h.gv (by decide)) h.gv.2.1, ?_, h.pl.other (p := ⟨G, i, none⟩) _ (Ne.symm h.ne) h.gv.2.1, h.ne⟩
  rw [← rowsV_upR]
  exact h.gv.set i _
theorem OSt.setP (h : OSt w0 w S G P Au n cu Ao no co VC users s) (i : Nat) (v : BitVec 32) : OSt w0 (w.setCell ⟨P, i, none⟩ (.int .u32 (W v))) S G P Au n cu Ao no co VC users ⟨s.given, updR s.play i v⟩ := by
  refine ⟨h.st.other (p := ⟨P, i, none⟩) _ (row_neO h.st h.pl (by decide)) h.pl.2.1, h.gv.other (p := ⟨P, i, none⟩) _ h.ne h.pl.2.1, ?_, h.ne⟩
  rw [← rowsV_upR]
  exact h.pl.set i _
end
/-- what the call owns besides arrays of words is as it was -/
def KeepsO (w0 w w' : World) : Prop := ∀ (E : TypeId) (s : Nat) (v : Value) (n : Nat) (xs : List Value), E ≠ 29 → Own w0 w E s v n xs → Own w0 w' E s v n xs
theorem KeepsO.of {w0 w w' : World} (k : Kept w w') : KeepsO w0 w w' := fun _ _ _ _ _ _ h => h.kept k
theorem KeepsO.trans {w0 w w1 w2 : World} (h : KeepsO w0 w w1) (k : KeepsO w0 w1 w2) : KeepsO w0 w w2 := fun E s v n xs hne h1 => k E s v n xs hne (h E s v n xs hne h1)
theorem KeepsO.setRow {w0 w : World} {B : Nat} {ys : List Value} (k : Row w0 w B 29 ys) (i : Nat) (u : Value) : KeepsO w0 w (w.setCell ⟨B, i, none⟩ u) := fun _ _ _ _ _ hne h => h.setRow k hne i u
/-- what a deed leaves -/
def RetOff (w0 w : World) (S G P : Nat) (Au : Option Addr) (n cu : Nat) (Ao : Option Addr) (no co : Nat) (VC : Value) (users : Nat) (r : Int × RSt) (e : Ending) (w' : World) : Prop :=
  e = .returned (.int .i64 r.1) ∧ OSt w0 w' S G P Au n cu Ao no co VC users r.2 ∧ KeepsO w0 w w'
end Go.Proofs.Ytgcpomdlajoifaa
