/- A small tree that grows: what holds of its struct; the walk of put. -/
import Derived.Test.YtjliabifaohfjaaChecked
import Derived.Test.YtjliabifaohfjaaChoiceP
import Derived.Test.YtjliabifaohfjaaSeat
import Derived.Test.YtjliabifaohfjaaMapK
import Derived.DeepKeys4
import Derived.BigQuiet
import Derived.Deep.RegionLaw
import Derived.StillTailTactics
namespace Go.Proofs.Ytjliabifaohfjaa
open Go Go.RowKit
set_option linter.unusedVariables false
set_option linter.unusedSimpArgs false

theorem info_branch : (Try.prog.info? 74).map (fun i => (i.zero, i.size, i.bytes)) = some (some (.agg #[.int .i64 0, .int .i64 0, .int .i64 0]), 3, 24) := by kernel_rfl
theorem brLaidOut : laidOutB Try.prog = true := by kernel_rfl
theorem brRow : (74 : TypeId) < Try.prog.types.size := of_decide_eq_true (by kernel_rfl)
theorem brAt : Try.prog.keyTypeAt 2 74 = true := by kernel_rfl
theorem brLaw : Go.WideMaps.KeyLaw Try.prog 74 := deep_law_laid brLaidOut (m := 2) (by omega) brRow brAt (by simp only [Try.underlying74])
theorem brKeyed : Go.Maps.Keyed Try.prog 74 := Go.Maps.Keyed.of_law brLaw
theorem brKT : Try.prog.keyType 74 = true := by kernel_rfl
theorem brCells : Try.prog.cellsOf 74 = 3 := by kernel_rfl
theorem intCells : Try.prog.cellsOf 3 = 1 := by kernel_rfl
theorem zero_int (w : World) : (zeroValue 3).run Try.prog w = .ok (.int .i64 0) w := by kernel_rfl
def bnV (b : Bn) : Value := .agg #[.int .i64 b.1, .int .i64 b.2.1, .int .i64 b.2.2]
def bnCells (l : List Bn) : List Value := l.flatMap fun b => [.int .i64 b.1, .int .i64 b.2.1, .int .i64 b.2.2]
theorem bnV_inj {a b : Bn} (h : bnV a = bnV b) : a = b := by
  unfold bnV at h
  injection h with h
  simp at h
  obtain ⟨h1, h2, h3⟩ := h
  exact Prod.ext (by omega) (Prod.ext (by omega) (by omega))
def bnSmall (b : Bn) : Prop := b.1 ≤ 1000 ∧ b.2.1 ≤ 1000 ∧ b.2.2 ≤ 1000
theorem wf_small {n : Nat} (h : n ≤ 1000) : (Lit.int .i64 (n : Int)).wf = true := by
  simp [Lit.wf, IntKind.min, IntKind.max, IntKind.signed, IntKind.bits]
  omega
theorem bn_key (b : Bn) (h : bnSmall b) : ∃ l, keyOf Try.prog 74 (bnV b) = some l := by
  obtain ⟨m, hm⟩ : ∃ m, Try.prog.types.size = m + 1 := Nat.exists_eq_succ_of_ne_zero (Nat.ne_of_gt (Nat.lt_of_le_of_lt (Nat.zero_le _) brRow))
  have w1 := wf_small h.1
  have w2 := wf_small h.2.1
  have w3 := wf_small h.2.2
  have hu := Try.underlying74
  have hi := Try.underlying3
  unfold keyOf
  simp only [hu]
  have hf : (bnV b).formed Try.prog 74 = true := by
    unfold Value.formed bnV
    simp only [hu, brCells]
    rfl
  rw [brKT, hf, hm]
  simp only [Bool.and_self, if_true]
  unfold bnV
  unfold Program.keyLits
  simp only [hu]
  simp [Value.cells, brCells, intCells, Program.keyLits, hi, w1, w2, w3]
theorem bnCells_at : ∀ (l : List Bn) (k : Nat) (b : Bn), l[k]? = some b → (bnCells l)[k * 3]? = some (.int .i64 b.1) ∧ (bnCells l)[k * 3 + 1]? = some (.int .i64 b.2.1) ∧ (bnCells l)[k * 3 + 2]? = some (.int .i64 b.2.2) := by
  intro l
  induction l with
  | nil => intro k b h; simp at h
  | cons a l ih =>
    intro k b h
    cases k with
    | zero => simp at h; subst h; simp [bnCells]
    | succ k =>
      have := ih k b (by simpa using h)
      have e : (k + 1) * 3 = k * 3 + 1 + 1 + 1 := by omega
      rw [e]
      simpa [bnCells] using this
theorem bnCells_length (l : List Bn) : (bnCells l).length = l.length * 3 := by
  induction l with
  | nil => rfl
  | cons a l ih => simp [bnCells] at ih ⊢; omega
theorem bnCells_snoc (l : List Bn) (b : Bn) : bnCells (l ++ [b]) = bnCells l ++ [.int .i64 b.1, .int .i64 b.2.1, .int .i64 b.2.2] := by
  unfold bnCells
  rw [List.flatMap_append]
  rfl
theorem one_bn (a b c : Int) : ∀ u ∈ (#[Value.int .i64 a, Value.int .i64 b, Value.int .i64 c] : Array Value).toList, u.oneCell' = true := fun u hu => by
  simp at hu
  rcases hu with rfl | rfl | rfl <;> rfl
/-- the struct of a tree that grows, at block M; its map at block bm -/
def MkS (w0 w : World) (M bm : Nat) (l : List Bn) : Prop :=
  (∃ A c, Row w0 w M 69 [.slice A l.length c, .map (some bm)] ∧ Own w0 w 74 3 (.slice A l.length c) l.length (bnCells l)) ∧
  (∃ g, MapK w Try.prog 74 bm (l.map bnV) g ∧ ∀ b ∈ l, g (bnV b) = .int .i64 ((l.idxOf b + 2 : Nat) : Int)) ∧ w0.heap.size ≤ bm ∧ (∀ b ∈ l, bnSmall b) ∧ l.length ≤ 900
/-- slices of truth values that the call has made stay as they are -/
def KeepB (w0 w w' : World) : Prop := Kept w0 w' ∧ ∀ (v : Value) (n : Nat) (xs : List Value), Own w0 w 4 1 v n xs → Own w0 w' 4 1 v n xs
theorem KeepB.of {w0 w w' : World} (h : Kept w0 w) (k : Kept w w') : KeepB w0 w w' := ⟨h.trans k, fun _ _ _ h1 => h1.kept k⟩
theorem KeepB.trans {w0 w w1 w2 : World} (h : KeepB w0 w w1) (k : KeepB w0 w1 w2) : KeepB w0 w w2 := ⟨k.1, fun v n xs h1 => k.2 v n xs (h.2 v n xs h1)⟩
theorem MkS.kept {w0 w w' : World} {M bm : Nat} {l : List Bn} (h : MkS w0 w M bm l) (k : Kept w w') : MkS w0 w' M bm l := by
  obtain ⟨⟨A, c, h1, h2⟩, ⟨g, h3, h4⟩, h5, h6, h7⟩ := h
  exact ⟨⟨A, c, h1.kept k, h2.kept k⟩, ⟨g, h3.kept k, h4⟩, h5, h6, h7⟩
theorem MkS.kept0 {w0 w : World} {M bm : Nat} {l : List Bn} (h : MkS w0 w M bm l) : Kept w0 w := by
  obtain ⟨⟨A, c, h1, _⟩, _⟩ := h
  exact h1.kept0
theorem idx_app {l : List Bn} {a b : Bn} (h : a ∈ l) : (l ++ [b]).idxOf a = l.idxOf a := by
  rw [List.idxOf_append, if_pos h]
theorem idx_new {l : List Bn} {b : Bn} (h : b ∉ l) : (l ++ [b]).idxOf b = l.length := by
  rw [List.idxOf_append, if_neg h]
  simp
/-- a map's block is no row's -/
theorem MapK.ne {w0 w : World} {P : Program} {k : TypeId} {b : Nat} {ks : List Value} {g : Value → Value} {B : Nat} {e : TypeId} {xs : List Value} (h : MapK w P k b ks g) (r : Row w0 w B e xs) : b ≠ B := by
  obtain ⟨es, clock, hb, _⟩ := h
  obtain ⟨cur, h1, _⟩ := r.1
  intro e
  subst e
  rw [hb] at h1
  cases h1
theorem MapK.far {w0 w : World} {P : Program} {k : TypeId} {b : Nat} {ks : List Value} {g : Value → Value} {E : TypeId} {s n : Nat} {v : Value} {xs : List Value} (h : MapK w P k b ks g) (o : Own w0 w E s v n xs) : some b ≠ v.ownBlock := by
  obtain ⟨es, clock, hb, _⟩ := h
  intro he
  rcases o.1.2 with ⟨rfl, _⟩ | ⟨gg, cap, cur, rfl, _, hg, _⟩
  · cases he
  · injection he with he
    have he : b = gg := he
    subst he
    rw [hb] at hg
    cases hg
end Go.Proofs.Ytjliabifaohfjaa
