/- The walk of the statements' Refutes, where the refutation is right. -/
import Derived.Test.YtekpifobhgjepaaTwN
import Derived.Test.YtekpifobhgjepaaOpen
namespace Go.Proofs.Ytekpifobhgjepaa
open Go Go.RowKit
set_option linter.unusedVariables false

theorem ref_res {a b c : Ru} (h : resO a b = some c) (w : World) : Calls Try.prog 14 #[.agg #[.int .u32 (W a.1), .int .u32 (W a.2)], .agg #[.int .u32 (W b.1), .int .u32 (W b.2)]] w fun e w' => e = .returned (.tuple #[.agg #[.int .u32 (W c.1), .int .u32 (W c.2)], .bool true]) ∧ Kept w w' := by
  refine (refRes_any a b w).mono ?_
  rintro e w' ⟨k, rfl⟩
  exact ⟨by rw [resB_some h], k⟩
theorem SlR.getc {w : World} {A : Option Addr} {n : Nat} {rs : List Ru} (h : SlR w A n rs) (k : Nat) (hk : k < n) : ∃ b off, A = some ⟨b, off, none⟩ ∧ b < w.heap.size ∧
    w.cell? ⟨b, off + k * 2, none⟩ = some (.int .u32 (W (cl0 rs k).1)) ∧ w.cell? ⟨b, off + k * 2 + 1, none⟩ = some (.int .u32 (W (cl0 rs k).2)) := by
  obtain ⟨b, off, hl, e, hb, h1, h2⟩ := h.get k hk
  exact ⟨b, off, e, hb, by rw [cl0_eq hl]; exact h1, by rw [cl0_eq hl]; exact h2⟩
theorem own_slR {w0 w : World} {n c : Nat} {A : Option Addr} {L : List Ru} (h : Own w0 w 29 2 (.slice A n c) n (ruCells L)) (hl : L.length = n) : SlR w A n L := by
  obtain ⟨A2, c2, e, hsl, _⟩ := h.form
  injection e with e
  subst e
  exact ⟨hsl, hl⟩
set_option maxRecDepth 100000 in
set_option maxHeartbeats 16000000 in
theorem refutes_nil (rs : List Ru) (A A2 : Option Addr) (len c c2 : Nat) (w : World) (hs : SlR w A len rs) (hn : len ≤ 1000) (hz : ((0#32, 0#32) : Ru) ∈ rs) :
    Calls Try.prog 20 #[.slice A len c, .slice A2 0 c2] w fun e w' => e = .returned (.bool true) ∧ Kept w w' := by
  have HZ := Lib.hid hz
  clear hz
  go_enter Try.func20, Try.ntmps20
  go_wp2_with (at_builtin; refine wpList_pushAll rfl _ _ 22 rfl 29 Try.underlying22 info_ru rfl (by decide) (by decide) _ _ _ _ (Own.empty (Kept.refl w) 29 2 _ rfl) _ _ _ _ (hs.kept ((Kept.refl w).alloc _)).1 rfl rfl (one_ru _) len (by omega) (by omega) ?_; intro v' w3 hown3)
  have HK3 := Lib.hid hown3.kept0
  clear hown3
  go_loopw [20] (fun t wr => ∃ k : Nat, k ≤ len ∧ t = .int .i64 k ∧ Kept w wr ∧ Hid (((0#32, 0#32) : Ru) ∉ rs.take k)) (fun t _ => len - (intOf t).toNat)
  case atStart => exact ⟨0, Nat.zero_le _, rfl, HK3.out, Lib.hid (by simp)⟩
  case round =>
    obtain ⟨k, hk, rfl, hkw, HN⟩ := hrel
    by_cases hlt : k < len
    · obtain ⟨b, off, hkl, rfl, hb, e1, e2⟩ := (hs.kept hkw).get k hlt
      have HE := Lib.hid (show rs.take (k + 1) = rs.take k ++ [rs[k]] from List.take_succ_eq_append_getElem hkl)
      have HM := Lib.hid (List.getElem_mem hkl)
      generalize rs[k] = r at e1 e2 HE
      obtain ⟨r1, r2⟩ := r
      have g1 : (0 : Int) ≤ (k : Int) := by omega
      have g2 : (k : Int) < (len : Int) := by omega
      have KW := Lib.hid (fun cs => hkw.alloc (.cells cs 29))
      by_cases z1 : r1 = 0#32
      · by_cases z2 : r2 = 0#32
        · subst z1 z2
          rw [W_zero] at e1 e2
          go_wp2_with fail
          go_ret
          exact ⟨by simp, KW.out _⟩
        · have HREL := Lib.hid (show ((0#32, 0#32) : Ru) ∉ rs.take (k + 1) from by
            rw [HE.out, List.mem_append, List.mem_singleton]
            rintro (h | h)
            · exact HN.out h
            · injection h with h1 h2
              exact z2 h2.symm)
          subst z1
          rw [W_zero] at e1
          go_wp2_with fail
          go_roundw
          case rel => exact ⟨k + 1, by omega, by go_num, KW.out _, HREL⟩
          case measure => simp [intOf]; omega
      · have HREL := Lib.hid (show ((0#32, 0#32) : Ru) ∉ rs.take (k + 1) from by
          rw [HE.out, List.mem_append, List.mem_singleton]
          rintro (h | h)
          · exact HN.out h
          · injection h with h1 h2
            exact z1 h1.symm)
        go_wp2_with fail
        go_roundw
        case rel => exact ⟨k + 1, by omega, by go_num, KW.out _, HREL⟩
        case measure => simp [intOf]; omega
    · exact absurd HZ.out (by
        have h := HN.out
        rw [List.take_of_length_le (by rw [hs.2]; omega)] at h
        exact h)
end Go.Proofs.Ytekpifobhgjepaa
