/- The run of closed sets: it is whole; concept.Next's walk. -/
import Derived.Test.YtmdlfngdmlhpmaaNextP
namespace Go.Proofs.Ytmdlfngdmlhpmaa
open Go Go.RowKit
set_option linter.unusedVariables false

/-- enough steps -/
def Fuel (n q : Nat) (c : BitVec 32) : Prop := 2 ^ n ≤ lexN c n + q + 1
theorem runG_eq {n : Nat} (hn : n < 32) {rows : List (BitVec 32)} (hl : rows.length ≤ 32) (q : Nat) (c : BitVec 32) (hf : Fuel n q c) :
    runG n rows q c = c :: match nextG n rows c n with | none => [] | some d => runG n rows (q - 1) d := by
  cases q with
  | succ q => rfl
  | zero =>
    unfold runG
    cases he : nextG n rows c n with
    | none => rfl
    | some d =>
      have h1 := (nextG_some hn hl n (Nat.le_refl n) he).2
      have h2 := lexN_lt d n
      unfold Fuel at hf
      omega
theorem Fuel.next {n : Nat} (hn : n < 32) {rows : List (BitVec 32)} (hl : rows.length ≤ 32) {q : Nat} {c d : BitVec 32} (hf : Fuel n q c) (he : nextG n rows c n = some d) : Fuel n (q - 1) d ∧ 1 ≤ q := by
  have h1 := (nextG_some hn hl n (Nat.le_refl n) he).2
  have h2 := lexN_lt d n
  unfold Fuel at hf ⊢
  omega
theorem runG_len (n : Nat) (rows : List (BitVec 32)) : ∀ q c, (runG n rows q c).length ≤ q + 1 ∧ 1 ≤ (runG n rows q c).length := by
  intro q
  induction q with
  | zero => intro c; simp [runG]
  | succ q ih =>
    intro c
    unfold runG
    cases nextG n rows c n with
    | none => simp
    | some d => have := ih d; simp; omega
/-- who comes behind whom -/
theorem runG_next {n : Nat} (hn : n < 32) {rows : List (BitVec 32)} (hl : rows.length ≤ 32) : ∀ q c, Fuel n q c → ∀ i x, (runG n rows q c)[i]? = some x → nextG n rows x n = (runG n rows q c)[i + 1]? := by
  intro q
  induction q with
  | zero =>
    intro c hf i x hx
    rw [runG_eq hn hl 0 c hf] at hx ⊢
    cases he : nextG n rows c n with
    | some d => have := (hf.next hn hl he).2; omega
    | none =>
      rw [he] at hx
      cases i with
      | zero => simp at hx; subst hx; simpa using he
      | succ i => simp at hx
  | succ q ih =>
    intro c hf i x hx
    rw [runG_eq hn hl (q + 1) c hf] at hx ⊢
    cases he : nextG n rows c n with
    | none =>
      rw [he] at hx
      cases i with
      | zero => simp at hx; subst hx; simpa using he
      | succ i => simp at hx
    | some d =>
      rw [he] at hx
      have hd := (hf.next hn hl he).1
      cases i with
      | zero =>
        simp at hx
        subst hx
        rw [he]
        simp only [Nat.add_sub_cancel, List.getElem?_cons_succ]
        rw [runG_eq hn hl q d hd]
        rfl
      | succ i =>
        simp only [Nat.add_sub_cancel, List.getElem?_cons_succ] at hx ⊢
        exact ih d hd i x hx
/-- all closed sets, in their order -/
def allG (n : Nat) (rows : List (BitVec 32)) : List (BitVec 32) := runG n rows 63 (clG n rows 0#32)
theorem allG_fuel {n : Nat} (hn : n ≤ 6) (c : BitVec 32) : Fuel n 63 c := by
  unfold Fuel
  have : 2 ^ n ≤ 2 ^ 6 := Nat.pow_le_pow_right (by omega) hn
  omega
theorem allG_least {n : Nat} (hn : n ≤ 6) {rows : List (BitVec 32)} (hl : rows.length ≤ 32) : ∀ x ∈ allG n rows, (clG n rows 0#32).toNat ≤ x.toNat := by
  intro x hx
  obtain ⟨m, rfl⟩ := runG_closed (by omega) hl 63 _ ⟨_, rfl⟩ x hx
  exact sub_le (clG_none (by omega) hl m)
/-! ### Next -/
def nextE : Option (BitVec 32) → Value
  | none => .tuple #[.int .u32 0, .int .i64 5]
  | some c => .tuple #[.int .u32 (W c), .int .i64 0]
theorem nextX_ok (n : Nat) (A : Option Addr) (len c : Nat) (rows : List (BitVec 32)) (cur : BitVec 32) (w : World) (hr : SlW w A len rows) (hc : tabF n rows 0#32 [cur] = 0) :
    Calls Try.prog 30 #[.int .i64 n, .slice A len c, .int .u32 (W cur)] w fun e w' => e = .returned (nextE (nextG n rows cur n)) ∧ Kept w w' := by
  have hz := tabF_zero hc
  have hlen : len ≤ 8 := by rw [← hr.2]; exact hz.2.2.1
  have hn6 : n ≤ 6 := by omega
  have HC := Lib.hid hc
  clear hc hz
  obtain ⟨r, hrr⟩ : ∃ r, nextG n rows cur n = r := ⟨_, rfl⟩
  rw [hrr]
  have HN := Lib.hid hrr
  clear hrr
  cases r
  all_goals
   go_enter Try.func30, Try.ntmps30
   go_wp2_with fail
   refine (conWrong_any _ _ _ _ rows 0#32 _ _ _ [cur] _ (hr.kept ((Kept.refl w).alloc _)) (SlW.new1 _ _ _) (by omega)).mono ?_
   rintro e w1 ⟨rfl, hk⟩
   rw [HC.out]
   have hk1 : Kept w w1 := ((Kept.refl w).alloc _).trans hk
   clear hk
   go_wp2_with fail
   refine (next_any n hn6 A len c rows cur _ (hr.kept hk1) hlen).mono ?_
   rintro e w2 ⟨rfl, rfl⟩
   rw [HN.out]
   unfold nextV
   go_wp2_with fail
   go_ret2
   exact ⟨rfl, hk1⟩
end Go.Proofs.Ytmdlfngdmlhpmaa
