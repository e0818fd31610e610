/- The walk of concept.All; what the sort at its end says. -/
import Derived.Test.YtmdlfngdmlhpmaaNext2
namespace Go.Proofs.Ytmdlfngdmlhpmaa
open Go Go.RowKit
set_option linter.unusedVariables false

abbrev Cn := BitVec 32 × BitVec 32
def encC (x : Cn) : List Value := [.int .u32 (W x.1), .int .u32 (W x.2)]
def cnCells (l : List Cn) : List Value := l.flatMap encC
theorem cnCells_snoc (l : List Cn) (x : Cn) : cnCells (l ++ [x]) = cnCells l ++ [.int .u32 (W x.1), .int .u32 (W x.2)] := by
  unfold cnCells
  rw [List.flatMap_append]
  simp [encC]
theorem cnCells_length (l : List Cn) : (cnCells l).length = l.length * 2 := by
  induction l with
  | nil => rfl
  | cons x l ih =>
    have e : cnCells (x :: l) = encC x ++ cnCells l := rfl
    rw [e, List.length_append, ih]
    simp [encC]
    omega
theorem cnCells_at : ∀ (l : List Cn) (k : Nat) (x : Cn), l[k]? = some x → (cnCells l)[k * 2]? = some (.int .u32 (W x.1)) ∧ (cnCells l)[k * 2 + 1]? = some (.int .u32 (W x.2)) := by
  intro l
  induction l with
  | nil => intro k x h; simp at h
  | cons y l ih =>
    intro k x h
    have e : cnCells (y :: l) = encC y ++ cnCells l := rfl
    rw [e]
    cases k with
    | zero =>
      simp at h
      subst h
      exact ⟨rfl, rfl⟩
    | succ k =>
      have h : l[k]? = some x := by simpa using h
      obtain ⟨a, b⟩ := ih k x h
      have e1 : (k + 1) * 2 = k * 2 + 1 + 1 := by omega
      have e2 : (k + 1) * 2 + 1 = k * 2 + 1 + 1 + 1 := by omega
      rw [e1]
      exact ⟨a, b⟩
theorem info_con : (Try.prog.info? 58).map (fun i => (i.zero, i.size, i.bytes)) = some (some (.agg #[.int .u32 0, .int .u32 0]), 2, 8) := by kernel_rfl
theorem one_con (a b : Int) : ∀ u ∈ (#[Value.int .u32 a, Value.int .u32 b] : Array Value).toList, u.oneCell' = true := fun u hu => by
  simp at hu
  rcases hu with rfl | rfl <;> rfl
/-- what All hands back: all closed sets, ascending -/
def RetAllC (w : World) (m : Nat) (R : List (BitVec 32)) (e : Ending) (w' : World) : Prop :=
  ∃ (A : Option Addr) (c : Nat) (ys : List Cn), e = .returned (.tuple #[.slice A m c, .int .i64 0]) ∧ (ys.map Prod.snd).Perm R ∧ (∀ (i j : Nat) (x y : Cn), i < j → ys[i]? = some x → ys[j]? = some y → x.2.toNat ≤ y.2.toNat) ∧ Sl w' 2 A m (cnCells ys) ∧ Kept w w'
/-- what the sort says -/
def SortSays : Prop := ∀ (w0 w : World) (v : Value) (m : Nat) (xs : List Cn), Own w0 w 58 2 v m (cnCells xs) → xs.length = m → 0 < m → m ≤ 1000 →
  Calls Try.prog 47 #[v, .func (.func 48) #[] #[]] w fun e w' => e = .returned (.tuple #[]) ∧
    ∃ (ys : List Cn) (A : Option Addr) (c : Nat), v = .slice A m c ∧ ys.Perm xs ∧ (∀ (i j : Nat) (x y : Cn), i < j → ys[i]? = some x → ys[j]? = some y → x.2.toNat ≤ y.2.toNat) ∧ Sl w' 2 A m (cnCells ys) ∧ Kept w0 w'
end Go.Proofs.Ytmdlfngdmlhpmaa
