/- The walks of package follow: closing a set. -/
import Derived.Test.YtmdlfngdmlhpmaaFollow
namespace Go.Proofs.Ytmdlfngdmlhpmaa
open Go Go.RowKit

/-- at the head of each pass -/
def CInv (rs : List Ru) (s0 t : BitVec 32) (b : Bool) : Prop :=
  subB s0 t = true ∧ (∀ u, subB s0 u = true → isClosed rs u = true → subB t u = true) ∧ (b = false → isClosed rs t = true)
theorem CInv.start (rs : List Ru) (s0 : BitVec 32) : CInv rs s0 s0 true := ⟨subB_refl _, fun _ h _ => h, fun h => by cases h⟩
theorem CInv.step {rs : List Ru} {s0 t : BitVec 32} {b : Bool} (h : CInv rs s0 t b) : CInv rs s0 (passF rs t) (passF rs t != t) :=
  ⟨subB_trans h.1 (passF_sub rs t), fun u h1 h2 => passF_least rs t u (h.2.1 u h1 h2) h2, fun h3 => by
    have e : passF rs t = t := by simpa [bne] using h3
    rw [e]
    exact (passF_fix rs t).1 e⟩
theorem CInv.stop {rs : List Ru} {s0 t : BitVec 32} (h : CInv rs s0 t false) : closeF rs s0 = t := closeF_eq h.1 (h.2.2 rfl) h.2.1
def cMeas (t : Int) (b : Bool) : Nat := 2 * (4294967296 - t.toNat) + (if b then 1 else 0)
def boolOf : Value → Bool
  | .bool b => b
  | _ => false
theorem cMeas_step (rs : List Ru) (t : BitVec 32) : cMeas (W (passF rs t)) (passF rs t != t) < cMeas (W t) true := by
  unfold cMeas W
  have h1 := (passF rs t).isLt
  have h2 := t.isLt
  by_cases e : passF rs t = t
  · rw [e]
    simp
  · have := subB_lt (passF_sub rs t) (fun h => e h.symm)
    split <;> simp <;> omega

set_option maxHeartbeats 400000 in
theorem closed_any (A : Option Addr) (len c : Nat) (rs : List Ru) (s0 : BitVec 32) (w : World) (hr : SlR w A len rs) (hlen : len ≤ 1000) :
    Calls Try.prog 33 #[.slice A len c, .int .u32 (W s0)] w fun e w' => e = .returned (.int .u32 (W (closeF rs s0))) ∧ Kept w w' := by
  go_enter Try.func33, Try.ntmps33
  go_wp2_with fail
  go_loopw [1, 5] (fun s m wr => ∃ (t : BitVec 32) (b : Bool), s = .int .u32 (W t) ∧ m = .bool b ∧ Kept w wr ∧ CInv rs s0 t b) (fun s m _ => cMeas (intOf s) (boolOf m))
  case atStart => exact ⟨s0, true, rfl, rfl, Kept.refl _, CInv.start _ _⟩
  case round =>
    obtain ⟨t, b, rfl, rfl, hkw, hinv⟩ := hrel
    cases b
    · have HS := Lib.hid hinv.stop
      go_wp2_with fail
      go_ret
      exact ⟨by rw [HS.out]; rfl, hkw⟩
    · go_wp2_with fail
      go_loopw [1, 13] (fun s i wr' => ∃ k : Nat, k ≤ len ∧ i = .int .i64 k ∧ s = .int .u32 (W (passF (rs.take k) t)) ∧ Kept wr wr') (fun _ i _ => len - (intOf i).toNat)
      case atStart => exact ⟨0, Nat.zero_le _, rfl, rfl, Kept.refl _⟩
      case round =>
        obtain ⟨k, hk, rfl, rfl, hkw2⟩ := hrel
        by_cases hlt : k < len
        · obtain ⟨b, off, hkr, rfl, hb, c1, c2⟩ := (hr.kept (hkw.trans hkw2)).get k hlt
          have hs := Lib.hid (show passF (rs.take (k + 1)) t = stepF (passF (rs.take k) t) rs[k] from foldl_snoc _ _ _ _ hkr)
          cases hb1 : subB rs[k].1 (passF (rs.take k) t)
          all_goals
            have HB := Lib.hid hb1
            go_wp2_with fail
            go_roundw
            case rel => exact ⟨k + 1, by omega, by go_num, by rw [hs.out]; unfold stepF; rw [HB.out]; rfl, hkw2.alloc _⟩
            case measure => simp [intOf]; omega
        · have HK := Lib.hid (take_all rs k (by rw [hr.2]; omega))
          go_wp2_with fail
          go_roundw
          case rel => exact ⟨passF rs t, _, by rw [HK.out], by rw [HK.out], hkw.trans hkw2, hinv.step⟩
          case measure => rw [HK.out]; exact cMeas_step rs t
end Go.Proofs.Ytmdlfngdmlhpmaa
