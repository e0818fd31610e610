/- The walk of Turned. -/
import Derived.Test.YtgcpomdlajoifaaDowns
namespace Go.Proofs.Ytgcpomdlajoifaa
open Go Go.RowKit
set_option linter.unusedVariables false

theorem info_pr3 : (Try.prog.info? 31).map (fun i => (i.zero, i.size, i.bytes)) = some (some (.agg #[.int .i64 0, .int .i64 0]), 2, 16) := by kernel_rfl
theorem one_pr3 (a b : Int) : ∀ u ∈ (#[Value.int .i64 a, Value.int .i64 b] : Array Value).toList, u.oneCell' = true := fun u hu => by
  simp at hu
  rcases hu with rfl | rfl <;> rfl
def RetPr (w : World) (n : Nat) (ps : List Pr) (e : Ending) (w' : World) : Prop := ∃ A c, e = .returned (.slice A n c) ∧ SlP w' A n ps ∧ Kept w w'
theorem turnP_snoc (ps : List Pr) (k : Nat) (h : k < ps.length) : turnP (ps.take (k + 1)) = turnP (ps.take k) ++ [(ps[k].2, ps[k].1)] := by
  unfold turnP
  rw [take_snoc _ _ h, List.map_append]
  rfl
theorem turnP_len (ps : List Pr) : (turnP ps).length = ps.length := by simp [turnP]
theorem turned_any (A : Option Addr) (n c : Nat) (ps : List Pr) (w : World) (hp : SlP w A n ps) (hn : n ≤ 1000) :
    Calls Try.prog 24 #[.slice A n c] w (RetPr w n (turnP ps)) := by
  have HL := Lib.hid hp.2
  go_enter Try.func24, Try.ntmps24
  go_wp2_with fail
  go_loopw [3, 8] (fun v t wr => ∃ k : Nat, k ≤ n ∧ t = .int .i64 k ∧ Own w wr 31 2 v k (prCells (turnP (ps.take k)))) (fun _ t _ => n - (intOf t).toNat)
  case atStart => exact ⟨0, Nat.zero_le _, rfl, Own.start (Kept.refl _)⟩
  case round =>
    obtain ⟨k, hk, rfl, hown⟩ := hrel
    by_cases hlt : k < n
    · obtain ⟨b, off, hkl, rfl, hb, c1, c2⟩ := (hp.kept hown.2).get k hlt
      have HS := Lib.hid (turnP_snoc ps k hkl)
      generalize ps[k].1 = x at c1 HS
      generalize ps[k].2 = y at c2 HS
      go_wp2_with (at_builtin; refine wpList_push rfl _ _ 22 rfl 31 Try.underlying22 info_pr3 rfl (by decide) (by decide) _ _ _ _ (hown.alloc _) #[.int .i64 y, .int .i64 x] _ _ 1 1 rfl rfl (by simp) rfl (one_pr3 _ _) (by omega) ?_; intro v' w7 hown7 _)
      go_roundw
      case rel => exact ⟨k + 1, by omega, by go_num, by rw [HS.out, prCells_snoc]; simpa using hown7⟩
      case measure => simp [intOf]; omega
    · have HK := Lib.hid (show k = n by omega)
      have HT := Lib.hid (show turnP (ps.take k) = turnP ps by rw [take_all ps k (by rw [HL.out]; omega)])
      rw [HT.out, HK.out] at hown
      obtain ⟨A2, c2, rfl, hsl, _⟩ := hown.form
      have FIN := Lib.hid (show RetPr w n (turnP ps) (.returned (.slice A2 n c2)) wr from ⟨A2, c2, rfl, ⟨hsl, by rw [turnP_len, HL.out]⟩, hown.2⟩)
      go_wp2_with fail
      go_ret
      exact FIN.out
end Go.Proofs.Ytgcpomdlajoifaa
