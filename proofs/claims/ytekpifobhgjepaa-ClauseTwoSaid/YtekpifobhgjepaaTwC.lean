/- slices.Contains and slices.Clone at clauses. -/
import Derived.Test.YtekpifobhgjepaaTwRes
import Derived.Test.YtekpifobhgjepaaPushAll
import Derived.Test.YtekpifobhgjepaaOwn
import Derived.Test.YtekpifobhgjepaaSeat
import Derived.WalkLawsBesides
import Derived.WalkSpells
namespace Go.Proofs.Ytekpifobhgjepaa
open Go Go.RowKit
set_option linter.unusedVariables false

/-- two clauses are the same -/
def eqR (x r : Ru) : Bool := x.1 == r.1 && x.2 == r.2
theorem eqR_iff {x r : Ru} : eqR x r = true ↔ x = r := by
  unfold eqR
  rw [Bool.and_eq_true, beq_iff_eq, beq_iff_eq]
  exact ⟨fun h => Prod.ext h.1 h.2, fun h => h ▸ ⟨rfl, rfl⟩⟩
theorem any_eqR {x : Ru} {xs : List Ru} : xs.any (eqR x) = true ↔ x ∈ xs := by
  rw [List.any_eq_true]
  exact ⟨fun ⟨r, hr, h⟩ => by rw [eqR_iff.1 h]; exact hr, fun h => ⟨x, h, eqR_iff.2 rfl⟩⟩
theorem twIndex_any (A : Option Addr) (n c : Nat) (xs : List Ru) (x : Ru) (w : World) (hs : SlR w A n xs) (hn : n ≤ 1000) :
    Calls Try.prog 58 #[.slice A n c, .agg #[.int .u32 (W x.1), .int .u32 (W x.2)]] w fun e w' => e = .returned (.int .i64 (firstI (eqR x) xs)) ∧ Kept w w' := by
  obtain ⟨x1, x2⟩ := x
  have ka : Kept w (w.alloc (.cells #[.int .u32 (W x1), .int .u32 (W x2)] 29)) := (Kept.refl _).alloc _
  go_enter Try.func58, Try.ntmps58
  go_wp2_with fail
  go_loopw [8] (fun t wr => ∃ q : Nat, q ≤ n ∧ t = .int .i64 q ∧ Kept (w.alloc (.cells #[.int .u32 (W x1), .int .u32 (W x2)] 29)) wr ∧ Hid ((xs.take q).any (eqR (x1, x2)) = false)) (fun t _ => n - (intOf t).toNat)
  case atStart => exact ⟨0, Nat.zero_le _, rfl, Kept.refl _, Lib.hid rfl⟩
  case round =>
    obtain ⟨q, hq, rfl, hkw, HN⟩ := hrel
    by_cases hlt : q < n
    · have bx := boxes1 hkw
      have a0 := bx.at_ 0 rfl
      have a1 := bx.at_ 1 rfl
      clear bx
      obtain ⟨b, off, hk, rfl, hb, cq, cq2⟩ := (hs.kept (ka.trans hkw)).get q hlt
      have hsn := Lib.hid (any_snoc (eqR (x1, x2)) xs q hk)
      have hhit := Lib.hid (firstI_hit (eqR (x1, x2)) xs q hk HN.out)
      have hi1 : (0 : Int) ≤ (q : Int) := by omega
      have hi2 : (q : Int) < (n : Int) := by omega
      generalize xs[q] = r at cq cq2 hsn hhit
      obtain ⟨r1, r2⟩ := r
      have FIN := Lib.hid ((ka.trans hkw).drew)
      have KW := Lib.hid hkw.drew
      cases hb1 : eqR (x1, x2) (r1, r2)
      · have HB := Lib.hid hb1
        have g : ¬ x1 = r1 ∨ (x1 = r1 ∧ ¬ x2 = r2) := by
          by_cases g1 : x1 = r1
          · refine .inr ⟨g1, fun g2 => ?_⟩
            rw [eqR_iff.2 (Prod.ext g1 g2)] at hb1
            cases hb1
          · exact .inl g1
        clear hb1
        have HREL := Lib.hid (show ((xs.take (q + 1)).any (eqR (x1, x2))) = false from by rw [hsn.out, HN.out, HB.out]; rfl)
        rcases g with g | ⟨rfl, g⟩
        all_goals
          go_wp2_with fail
          go_region
          all_goals
            go_wp2_with fail
            go_roundw
            case rel => exact ⟨q + 1, by omega, by go_num, KW.out, HREL⟩
            case measure => simp [intOf]; omega
      · have HB := Lib.hid hb1
        have g := eqR_iff.1 hb1
        clear hb1
        cases g
        go_wp2_with fail
        go_region
        all_goals
          go_wp2_with fail
          go_ret
          exact ⟨by rw [hhit.out HB.out]; rfl, FIN.out⟩
    · have HK := Lib.hid (take_all xs q (by rw [hs.2]; omega))
      go_wp2_with fail
      go_ret
      exact ⟨by rw [firstI_none _ _ (by rw [← HK.out]; exact HN.out)]; rfl, ka.trans hkw⟩
theorem twContains_any (A : Option Addr) (n c : Nat) (xs : List Ru) (x : Ru) (w : World) (hs : SlR w A n xs) (hn : n ≤ 1000) :
    Calls Try.prog 40 #[.slice A n c, .agg #[.int .u32 (W x.1), .int .u32 (W x.2)]] w fun e w' => e = .returned (.bool (xs.any (eqR x))) ∧ Kept w w' := by
  have ka : Kept w (w.alloc (.cells #[.int .u32 (W x.1), .int .u32 (W x.2)] 29)) := (Kept.refl _).alloc _
  have HS2 := Lib.hid (hs.kept ka)
  have H := Lib.hid (firstI_ge (eqR x) xs)
  go_enter Try.func40, Try.ntmps40
  go_wp2_with fail
  refine (twIndex_any _ _ _ xs x _ HS2.out hn).mono ?_
  rintro e w' ⟨rfl, k1⟩
  go_wp2_with fail
  go_ret
  exact ⟨by rw [← H.out]; rfl, ka.trans k1⟩
theorem info_ru : (Try.prog.info? 29).map (fun i => (i.zero, i.size, i.bytes)) = some (some (.agg #[.int .u32 0, .int .u32 0]), 2, 8) := by kernel_rfl
theorem one_ru (ls : List Ru) : ∀ u ∈ ruCells ls, u.oneCell' = true := fun u hu => by
  unfold ruCells at hu
  rw [List.mem_flatMap] at hu
  obtain ⟨x, _, hx⟩ := hu
  simp at hx
  rcases hx with rfl | rfl <;> rfl
theorem twClone_any (A : Option Addr) (n c : Nat) (ls : List Ru) (w : World) (hs : SlR w A n ls) (hn : n ≤ 1000) :
    Calls Try.prog 41 #[.slice A n c] w fun e w' => ∃ v, e = .returned v ∧ Own w w' 29 2 v n (ruCells ls) := by
  have hnil := fun W => Lib.run_eql_slice_nil (P := Try.prog) W 22 29 A n c 0 0 Try.underlying22
  rcases A with _ | ad
  · have h0 : n = 0 := by
      rcases Nat.eq_zero_or_pos n with h | h
      · exact h
      · obtain ⟨b, off, e, _⟩ := hs.1.2 (by omega)
        cases e
    subst h0
    have hx : ls = [] := List.eq_nil_of_length_eq_zero hs.2
    subst hx
    go_enter Try.func41, Try.ntmps41
    go_wp2_with fail
    go_ret
    exact ⟨_, rfl, Own.start (Kept.refl _)⟩
  · have hl := hs.2
    go_enter Try.func41, Try.ntmps41
    go_wp2_with (at_builtin; refine wpList_pushAll rfl _ _ 22 rfl 29 Try.underlying22 info_ru rfl (by decide) (by decide) _ _ _ _ (Own.empty (Kept.refl w) 29 2 _ rfl) _ _ _ _ (hs.kept ((Kept.refl w).alloc _)).1 rfl rfl (one_ru _) n (by omega) (by omega) ?_; intro v' w3 hown3)
    go_ret
    refine ⟨_, rfl, ?_⟩
    simpa using hown3
end Go.Proofs.Ytekpifobhgjepaa
