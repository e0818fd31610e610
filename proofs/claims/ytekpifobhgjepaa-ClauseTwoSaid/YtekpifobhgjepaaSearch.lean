/- The walk of clause.search: the least word that makes all clauses true. -/
import Derived.Test.YtekpifobhgjepaaSearchP
import Derived.Test.YtekpifobhgjepaaBits
import Derived.BigRegion
namespace Go.Proofs.Ytekpifobhgjepaa
open Go Go.RowKit
set_option linter.unusedVariables false

def boolOf : Value → Bool
  | .bool b => b
  | _ => false
/-- the word of a value -/
def wd (v : Value) : Nat := (intOf v).toNat
@[simp] theorem wd_W (x : BitVec 32) : wd (.int .u32 (W x)) = x.toNat := by unfold wd intOf W; simp
/-- how much is left to a search -/
def msr (y z m : Value) : Nat := 2 * (64 - (BitVec.ofNat 32 (wd y) ||| BitVec.ofNat 32 (wd z)).toNat) + if boolOf m then 1 else 0
theorem msr_eq (Y N : BitVec 32) (b : Bool) : msr (.int .u32 (W Y)) (.int .u32 (W N)) (.bool b) = 2 * (64 - (Y ||| N).toNat) + if b then 1 else 0 := by
  unfold msr
  rw [wd_W, wd_W, BitVec.ofNat_toNat, BitVec.ofNat_toNat]
  cases b <;> rfl
/-- what a search hands back -/
def RetS (n : Nat) (rs : List Ru) (yes no : BitVec 32) (w : World) (e : Ending) (w' : World) : Prop := ∃ v ok, e = .returned (.tuple #[.int .u32 (W v), .bool ok]) ∧ Res n rs yes no v ok ∧ Kept w w'
theorem lt64 {n : Nat} (hn : n ≤ 6) {a : BitVec 32} (h : fitB n a = true) : a.toNat < 64 := by
  have : fitB 6 a = true := fitB_iff.2 fun i hi => by have := fitB_iff.1 h i hi; omega
  rw [fitB_lt (by omega), decide_eq_true_eq, BitVec.lt_def] at this
  exact this
theorem fit12 {n : Nat} (hn : n ≤ 6) {a b : BitVec 32} (h : fitB n a = true) : fitB 12 (a &&& ~~~b) = true := fitB_iff.2 fun i hi => by have := fitB_iff.1 h i (bit_andNot.1 hi).1; omega
set_option maxHeartbeats 4000000 in
theorem search_any (n : Nat) (hn : n ≤ 6) (A : Option Addr) (len c : Nat) (rs : List Ru) (hlen : len ≤ 1000) (hok : ∀ r ∈ rs, fitB n (r.1 ||| r.2) = true) : ∀ (M : Nat) (yes no : BitVec 32) (w : World), SlR w A len rs → St n yes no → 64 - (yes ||| no).toNat ≤ M →
    Calls Try.prog 36 #[.int .i64 n, .slice A len c, .int .u32 (W yes), .int .u32 (W no)] w (RetS n rs yes no w) := by
  intro M
  induction M with
  | zero =>
    intro yes no w _ hst hm
    have := lt64 hn (show fitB n (yes ||| no) = true by rw [fitB_or, hst.1, hst.2.1]; rfl)
    omega
  | succ M ih =>
    intro yes no w hsl hst hm
    have HIH := Lib.hid ih
    have HM := Lib.hid hm
    have HOK := Lib.hid hok
    have HST := Lib.hid hst
    clear ih hm hok hst
    go_enter Try.func36, Try.ntmps36
    go_wp2_with fail
    go_loopw [2, 3, 11] (fun y z m wr => ∃ Y N b, y = .int .u32 (W Y) ∧ z = .int .u32 (W N) ∧ m = .bool b ∧ Kept w wr ∧ Hid (St n Y N ∧ (∀ s, Sol n rs yes no s ↔ Sol n rs Y N s) ∧ (yes ||| no).toNat ≤ (Y ||| N).toNat ∧ (b = false → ∀ r ∈ rs, Settled Y N r))) (fun y z m _ => msr y z m)
    case atStart => exact ⟨yes, no, true, rfl, rfl, rfl, Kept.refl _, Lib.hid ⟨HST.out, fun s => Iff.rfl, Nat.le_refl _, fun h => by cases h⟩⟩
    case round =>
      obtain ⟨Y, N, b, rfl, rfl, rfl, hkw, HI⟩ := hrel
      cases b
      · cases hl : ((1#32 <<< n - 1#32) &&& ~~~(Y ||| N) == 0#32)
        · have hne : leftW n Y N ≠ 0#32 := fun h => by unfold leftW at h; rw [h] at hl; simp at hl
          obtain ⟨t, ht, hbl, hbt, htop⟩ := left_top (yes := Y) (no := N) hn hne
          have HLEN := fun w => len_any ((1#32 <<< n - 1#32) &&& ~~~(Y ||| N)) (left_fit (yes := Y) (no := N) hn) w
          obtain ⟨L, hL⟩ : ∃ L : Int, L = (Lib.bitLen ((1#32 <<< n - 1#32) &&& ~~~(Y ||| N)).toNat : Int) := ⟨_, rfl⟩
          rw [← hL] at HLEN
          have hLt : L = (t : Int) + 1 := by
            rw [hL]
            show (Lib.bitLen (leftW n Y N).toNat : Int) = _
            rw [hbl]; rfl
          have hsub : wrap64 (L - 1) = (t : Int) := by rw [hLt]; unfold wrap64; omega
          have HTOP := Lib.hid htop
          have HB := Lib.hid (branch_st HI.out.1 hn ht hbt)
          have HF1 := Lib.hid (lt64 hn (show fitB n (Y ||| (N ||| 1#32 <<< t)) = true by rw [fitB_or, HB.out.1.1, HB.out.1.2.1]; rfl))
          have HF2 := Lib.hid (lt64 hn (show fitB n ((Y ||| 1#32 <<< t) ||| N) = true by rw [fitB_or, HB.out.2.1.1, HB.out.2.1.2.1]; rfl))
          clear hne hbl hbt htop hL hLt
          go_wp2_with fail
          refine (HLEN _).mono ?_
          rintro e w2 ⟨rfl, k2⟩
          have q2 := hkw.trans k2
          clear HLEN
          go_wp2_with fail
          refine (HIH.out Y (N ||| 1#32 <<< t) _ (hsl.kept q2) HB.out.1 (by have h1 := HM.out; have h2 := HI.out.2.2.1; have h3 := HB.out.2.2.1; have h4 := HF1.out; omega)).mono ?_
          rintro e w3 ⟨v, ok, rfl, hr, k3⟩
          have q3 := q2.trans k3
          have HR := Lib.hid hr
          clear hr
          cases ok
          · go_wp2_with fail
            refine (HIH.out (Y ||| 1#32 <<< t) N _ (hsl.kept q3) HB.out.2.1 (by have h1 := HM.out; have h2 := HI.out.2.2.1; have h3 := HB.out.2.2.2; have h4 := HF2.out; omega)).mono ?_
            rintro e w4 ⟨v', ok', rfl, hr', k4⟩
            have FIN := Lib.hid (show RetS n rs yes no w (.returned (.tuple #[.int .u32 (W v'), .bool ok'])) w4 from ⟨v', ok', rfl, res_same HI.out.2.1 (res_high HR.out hr'), q3.trans k4⟩)
            go_wp2_with fail
            go_ret2
            exact FIN.out
          · have FIN := Lib.hid (show RetS n rs yes no w (.returned (.tuple #[.int .u32 (W v), .bool true])) w3 from ⟨v, true, rfl, res_same HI.out.2.1 (res_low hn ht HTOP.out HR.out), q3⟩)
            go_wp2_with fail
            go_ret2
            exact FIN.out
        · have FIN := Lib.hid (show RetS n rs yes no w (.returned (.tuple #[.int .u32 (W Y), .bool true])) wr from ⟨Y, true, rfl, res_same HI.out.2.1 (res_full HI.out.1 hn HOK.out (HI.out.2.2.2 rfl) (by unfold leftW; simpa using hl)), hkw⟩)
          go_wp2_with fail
          go_ret2
          exact FIN.out
      · go_wp2_with fail
        go_loopw [2, 3, 11, 26] (fun y z m t wr => ∃ (k : Nat) (Y' N' : BitVec 32) (b' : Bool), k ≤ len ∧ t = .int .i64 k ∧ y = .int .u32 (W Y') ∧ z = .int .u32 (W N') ∧ m = .bool b' ∧ Kept w wr ∧ Hid (St n Y' N' ∧ (∀ s, Sol n rs yes no s ↔ Sol n rs Y' N' s) ∧ (Y ||| N).toNat ≤ (Y' ||| N').toNat ∧ (b' = true → (Y ||| N).toNat < (Y' ||| N').toNat) ∧ (b' = false → ∀ r ∈ rs.take k, Settled Y' N' r))) (fun _ _ _ t _ => len - (intOf t).toNat)
        case atStart => exact ⟨0, Y, N, false, Nat.zero_le _, rfl, rfl, rfl, rfl, hkw, Lib.hid ⟨HI.out.1, HI.out.2.1, Nat.le_refl _, (fun h => by cases h), fun _ r hr => by simp at hr⟩⟩
        case round =>
          obtain ⟨k, Y', N', b', hk, rfl, rfl, rfl, rfl, hkw2, HJ⟩ := hrel
          by_cases hlt : k < len
          · obtain ⟨bk, off, hkr, rfl, hb, c1, c2⟩ := (hsl.kept hkw2).get k hlt
            have HMEM := Lib.hid (show rs[k] ∈ rs from List.getElem_mem hkr)
            have HTK := Lib.hid (show rs.take (k + 1) = rs.take k ++ [rs[k]] from take_snoc rs k hkr)
            have HFIT := Lib.hid (HOK.out _ HMEM.out)
            have HSET := Lib.hid (show ∀ y n, Settled y n rs[k] ↔ (rs[k].1 &&& y != 0#32) = true ∨ (rs[k].2 &&& n != 0#32) = true ∨ 2 ≤ Lib.onesCount (rs[k].1 &&& ~~~n).toNat + Lib.onesCount (rs[k].2 &&& ~~~y).toNat from fun _ _ => Iff.rfl)
            have HNONE := Lib.hid (fun yes no => res_none (n := n) (rs := rs) (yes := yes) (no := no) (r := rs[k]) HMEM.out)
            have HUNIT := Lib.hid (fun yes no (h : St n yes no) => unit (n := n) (rs := rs) (yes := yes) (no := no) (r := rs[k]) h hn HMEM.out HFIT.out)
            generalize rs[k] = r at c1 c2 HMEM HTK HFIT HSET HNONE HUNIT
            obtain ⟨p, q⟩ := r
            simp only at c1 c2
            have HFIT' := HFIT.out
            have HNONE' := HNONE.out Y' N'
            have HUNIT' := HUNIT.out Y' N' HJ.out.1
            have HSET' := HSET.out Y' N'
            simp only at HFIT' HNONE' HUNIT' HSET'
            have HF := Lib.hid HFIT'
            have HN := Lib.hid HNONE'
            have HU := Lib.hid HUNIT'
            have HS := Lib.hid HSET'
            clear HFIT HNONE HUNIT HSET HFIT' HNONE' HUNIT' HSET'
            have hi1 : (0 : Int) ≤ (k : Int) := by omega
            have hi2 : (k : Int) < (len : Int) := by omega
            have DONE := Lib.hid (show Settled Y' N' (p, q) → (b' = false → ∀ r ∈ rs.take (k + 1), Settled Y' N' r) from fun hs hb r hr => by
              rw [HTK.out, List.mem_append, List.mem_singleton] at hr
              rcases hr with hr | rfl
              · exact HJ.out.2.2.2.2 hb r hr
              · exact hs)
            cases hy : (p &&& Y' != 0#32)
            · cases hz : (q &&& N' != 0#32)
              · have HY := Lib.hid hy
                have HZ := Lib.hid hz
                have HFY := Lib.hid (fit12 (a := p) (b := N') hn (fitB_sub (subB_or_left p q) HF.out))
                have HFZ := Lib.hid (fit12 (a := q) (b := Y') hn (fitB_sub (subB_or_right p q) HF.out))
                have hly := ones_le12 ⟨(p &&& ~~~N').toNat, by have := HFY.out; rw [fitB_lt (by omega), decide_eq_true_eq, BitVec.lt_def] at this; exact this⟩
                have hlz := ones_le12 ⟨(q &&& ~~~Y').toNat, by have := HFZ.out; rw [fitB_lt (by omega), decide_eq_true_eq, BitVec.lt_def] at this; exact this⟩
                simp only at hly hlz
                have HOY := fun w => ones_any (p &&& ~~~N') HFY.out w
                have HOZ := fun w => ones_any (q &&& ~~~Y') HFZ.out w
                obtain ⟨oy, hoy⟩ : ∃ oy : Int, oy = (Lib.onesCount (p &&& ~~~N').toNat : Int) := ⟨_, rfl⟩
                obtain ⟨oz, hoz⟩ : ∃ oz : Int, oz = (Lib.onesCount (q &&& ~~~Y').toNat : Int) := ⟨_, rfl⟩
                rw [← hoy] at HOY
                rw [← hoz] at HOZ
                have HEY := Lib.hid hoy
                have HEZ := Lib.hid hoz
                obtain ⟨s, hs⟩ : ∃ s : Int, wrap64 (oy + oz) = s := ⟨_, rfl⟩
                have HSS := Lib.hid (show s = ((Lib.onesCount (p &&& ~~~N').toNat + Lib.onesCount (q &&& ~~~Y').toNat : Nat) : Int) by rw [← hs]; unfold wrap64; omega)
                clear hoy hoz hly hlz
                go_wp2_with fail
                go_region
                have hka : Kept w (wr.alloc (.cells #[.int .u32 (W p), .int .u32 (W q)] 29)).drew := hkw2.trans ((Kept.refl _).alloc _).drew
                go_wp2_with fail
                refine (HOY _).mono ?_
                rintro e w3 ⟨rfl, k3⟩
                go_wp2_with fail
                refine (HOZ _).mono ?_
                rintro e w4 ⟨rfl, k4⟩
                have q4 := (hka.trans k3).trans k4
                clear HOY HOZ
                by_cases h0 : s = 0
                · subst h0
                  have FIN := Lib.hid (show RetS n rs yes no w (.returned (.tuple #[.int .u32 0, .bool false])) w4 from ⟨0#32, false, rfl, res_same HJ.out.2.1 (HN.out HY.out HZ.out (ones_word_zero HFY.out (by have := HSS.out; omega)) (ones_word_zero HFZ.out (by have := HSS.out; omega))), q4⟩)
                  go_wp2_with fail
                  go_ret2
                  exact FIN.out
                · by_cases h1 : s = 1
                  · subst h1
                    have HU2 := Lib.hid (HU.out HY.out HZ.out (by have := HSS.out; omega))
                    go_wp2_with fail
                    go_roundw
                    case rel => exact ⟨k + 1, _, _, true, by omega, by go_num, rfl, rfl, rfl, q4, Lib.hid ⟨HU2.out.2.1, fun s => (HJ.out.2.1 s).trans (HU2.out.1 s), Nat.le_trans HJ.out.2.2.1 (Nat.le_of_lt HU2.out.2.2), fun _ => Nat.lt_of_le_of_lt HJ.out.2.2.1 HU2.out.2.2, fun h => by cases h⟩⟩
                    case measure => simp [intOf]; omega
                  · have d0 : (s == 0) = false := by simpa using h0
                    have d1 : (s == 1) = false := by simpa using h1
                    have H2 := Lib.hid (show Settled Y' N' (p, q) from HS.out.2 (.inr (.inr (by have := HSS.out; omega))))
                    clear h0 h1
                    go_wp2_with fail
                    go_roundw
                    case rel => exact ⟨k + 1, Y', N', b', by omega, by go_num, rfl, rfl, rfl, q4, Lib.hid ⟨HJ.out.1, HJ.out.2.1, HJ.out.2.2.1, HJ.out.2.2.2.1, DONE.out H2.out⟩⟩
                    case measure => simp [intOf]; omega
              · have H2 := Lib.hid (show Settled Y' N' (p, q) from HS.out.2 (.inr (.inl hz)))
                go_wp2_with fail
                go_roundw
                case rel => exact ⟨k + 1, Y', N', b', by omega, by go_num, rfl, rfl, rfl, hkw2.alloc _, Lib.hid ⟨HJ.out.1, HJ.out.2.1, HJ.out.2.2.1, HJ.out.2.2.2.1, DONE.out H2.out⟩⟩
                case measure => simp [intOf]; omega
            · have H2 := Lib.hid (show Settled Y' N' (p, q) from HS.out.2 (.inl hy))
              go_wp2_with fail
              go_roundw
              case rel => exact ⟨k + 1, Y', N', b', by omega, by go_num, rfl, rfl, rfl, hkw2.alloc _, Lib.hid ⟨HJ.out.1, HJ.out.2.1, HJ.out.2.2.1, HJ.out.2.2.2.1, DONE.out H2.out⟩⟩
              case measure => simp [intOf]; omega
          · have HK := Lib.hid (show rs.take k = rs from List.take_of_length_le (by rw [hsl.2]; omega))
            go_wp2_with fail
            go_roundw
            case rel => exact ⟨Y', N', b', rfl, rfl, rfl, hkw2, Lib.hid ⟨HJ.out.1, HJ.out.2.1, Nat.le_trans HI.out.2.2.1 HJ.out.2.2.1, fun h r hr => HJ.out.2.2.2.2 h r (by rw [HK.out]; exact hr)⟩⟩
            case measure =>
              rw [msr_eq, msr_eq]
              have h1 := HJ.out.2.2.1
              have h2 := HJ.out.2.2.2.1
              have h3 := lt64 hn (show fitB n (Y' ||| N') = true by rw [fitB_or, HJ.out.1.1, HJ.out.1.2.1]; rfl)
              generalize (Y' ||| N').toNat = p at h1 h2 h3 ⊢
              generalize (Y ||| N).toNat = q at h1 h2 ⊢
              cases b'
              · show 2 * (64 - p) + 0 < 2 * (64 - q) + 1
                omega
              · have := h2 rfl
                show 2 * (64 - p) + 1 < 2 * (64 - q) + 1
                omega
end Go.Proofs.Ytekpifobhgjepaa
