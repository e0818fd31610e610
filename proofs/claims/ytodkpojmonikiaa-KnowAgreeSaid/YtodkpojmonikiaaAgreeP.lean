/- Two who agree: plain facts on sums, with no program in sight. -/
import Derived.Test.YtodkpojmonikiaaMeetP
namespace Go.Proofs.Ytodkpojmonikiaa
open Go Go.RowKit

def sumN (f : Nat → Nat) : Nat → Nat
  | 0 => 0
  | k + 1 => sumN f k + f k
theorem sumN_succ (f : Nat → Nat) (k : Nat) : sumN f (k + 1) = sumN f k + f k := rfl
theorem sumN_congr {f g : Nat → Nat} : ∀ {n : Nat}, (∀ i, i < n → f i = g i) → sumN f n = sumN g n := by
  intro n
  induction n with
  | zero => intro _; rfl
  | succ n ih => intro h; rw [sumN_succ, sumN_succ, ih (fun i hi => h i (by omega)), h n (by omega)]
theorem sumN_zero (n : Nat) : sumN (fun _ => 0) n = 0 := by
  induction n with
  | zero => rfl
  | succ n ih => rw [sumN_succ, ih]
theorem sumN_add (f g : Nat → Nat) (n : Nat) : sumN (fun i => f i + g i) n = sumN f n + sumN g n := by
  induction n with
  | zero => rfl
  | succ n ih => rw [sumN_succ, sumN_succ, sumN_succ, ih]; omega
theorem sumN_mul (f : Nat → Nat) (c n : Nat) : sumN (fun i => f i * c) n = sumN f n * c := by
  induction n with
  | zero => simp [sumN]
  | succ n ih => rw [sumN_succ, sumN_succ, ih, Nat.add_mul]
theorem sumN_swap (g : Nat → Nat → Nat) (m : Nat) : ∀ n, sumN (fun i => sumN (g i) m) n = sumN (fun j => sumN (fun i => g i j) n) m := by
  intro n
  induction n with
  | zero => simp [sumN, sumN_zero]
  | succ n ih =>
    rw [sumN_succ, ih, ← sumN_add]
    rfl
theorem sumN_one {f : Nat → Nat} {v0 : Nat} : ∀ {n : Nat}, v0 < n → f v0 = 1 → (∀ v, v < n → v ≠ v0 → f v = 0) → sumN f n = 1 := by
  intro n
  induction n with
  | zero => intro h; omega
  | succ n ih =>
    intro h h1 h0
    rw [sumN_succ]
    by_cases e : v0 = n
    · subst e
      rw [h1, sumN_congr (g := fun _ => 0) (fun i hi => h0 i (by omega) (by omega)), sumN_zero]
    · rw [ih (by omega) h1 (fun v hv hne => h0 v (by omega) hne), h0 n (by omega) (by omega)]
theorem sumN_pos {f : Nat → Nat} {v0 : Nat} : ∀ {n : Nat}, v0 < n → 0 < f v0 → 0 < sumN f n := by
  intro n
  induction n with
  | zero => intro h; omega
  | succ n ih =>
    intro h h1
    rw [sumN_succ]
    by_cases e : v0 = n
    · subst e; omega
    · have := ih (by omega) h1; omega
theorem sumN_le {f : Nat → Nat} (h : ∀ i, f i ≤ 1) (n : Nat) : sumN f n ≤ n := by
  induction n with
  | zero => exact Nat.le_refl _
  | succ n ih => rw [sumN_succ]; have := h n; omega
/-- is v the first of its cell? -/
def repB (c : List Int) (v : Nat) : Bool := (List.range v).all fun u => iat c u != iat c v
def ind (b : Bool) : Nat := if b then 1 else 0
theorem rep_ex (c : List Int) : ∀ d u : Nat, u ≤ d → ∃ v, v ≤ u ∧ repB c v = true ∧ iat c u = iat c v := by
  intro d
  induction d with
  | zero =>
    intro u hu
    have : u = 0 := by omega
    subst this
    exact ⟨0, Nat.le_refl _, rfl, rfl⟩
  | succ d ih =>
    intro u hu
    by_cases h : repB c u = true
    · exact ⟨u, Nat.le_refl _, h, rfl⟩
    · unfold repB at h
      rw [Bool.not_eq_true, List.all_eq_false] at h
      obtain ⟨x, hx, hne⟩ := h
      have e : iat c x = iat c u := by simpa using hne
      rw [List.mem_range] at hx
      obtain ⟨v, h1, h2, h3⟩ := ih x (by omega)
      exact ⟨v, by omega, h2, by rw [← e, h3]⟩
theorem rep_uniq {c : List Int} {v v' : Nat} (h : repB c v = true) (h' : repB c v' = true) (e : iat c v = iat c v') : v = v' := by
  unfold repB at h h'
  rw [List.all_eq_true] at h h'
  rcases Nat.lt_trichotomy v v' with hlt | he | hlt
  · have := h' v (List.mem_range.2 hlt)
    simp [e] at this
  · exact he
  · have := h v' (List.mem_range.2 hlt)
    simp [e] at this
theorem rep_sum (c : List Int) {n u : Nat} (hu : u < n) : sumN (fun v => ind (repB c v && iat c u == iat c v)) n = 1 := by
  obtain ⟨v, h1, h2, h3⟩ := rep_ex c u u (Nat.le_refl _)
  refine sumN_one (v0 := v) (by omega) ?_ ?_
  · rw [h2, h3]
    simp [ind]
  · intro v' _ hne
    cases hr : repB c v'
    · rfl
    · cases he : iat c u == iat c v'
      · simp [ind]
      · exfalso
        rw [beq_iff_eq] at he
        exact hne (rep_uniq hr h2 (by rw [← he, h3]))
/-- the weight of a cell -/
def cellS (c : List Int) (e : Nat → Nat) (n v : Nat) : Nat := sumN (fun u => ind (iat c u == iat c v) * e u) n
/-- the weight of all that are joined -/
theorem class_sum {c : List Int} {e : Nat → Nat} {n : Nat} {p : Nat → Nat} {m : Nat} (hp : ∀ u v, u < n → v < n → iat c u = iat c v → p u = p v) :
    sumN (fun v => ind (repB c v && p v == m) * cellS c e n v) n = sumN (fun u => ind (p u == m) * e u) n := by
  have e1 : ∀ v, v < n → ind (repB c v && p v == m) * cellS c e n v = sumN (fun u => ind (repB c v && p v == m) * (ind (iat c u == iat c v) * e u)) n := by
    intro v _
    unfold cellS
    rw [Nat.mul_comm, ← sumN_mul]
    exact sumN_congr fun u _ => Nat.mul_comm _ _
  rw [sumN_congr e1, sumN_swap]
  refine sumN_congr fun u hu => ?_
  have e2 : ∀ v, v < n → ind (repB c v && p v == m) * (ind (iat c u == iat c v) * e u) = ind (repB c v && iat c u == iat c v) * (ind (p u == m) * e u) := by
    intro v hv
    cases he : iat c u == iat c v
    · simp [ind]
    · rw [beq_iff_eq] at he
      rw [hp u v hu hv he]
      cases repB c v <;> cases (p v == m) <;> simp [ind]
  rw [sumN_congr e2, sumN_mul, rep_sum c hu, Nat.one_mul]
theorem class_share {c : List Int} {e : Nat → Nat} {n : Nat} {p : Nat → Nat} {w x y : Nat} (hp : ∀ u v, u < n → v < n → iat c u = iat c v → p u = p v)
    (h : ∀ v, v < n → p v = p w → cellS c e n v * y = x * cellS c (fun _ => 1) n v) :
    sumN (fun u => ind (p u == p w) * e u) n * y = x * sumN (fun u => ind (p u == p w) * 1) n := by
  rw [← class_sum (c := c) hp, ← class_sum (c := c) (e := fun _ => 1) hp, ← sumN_mul, Nat.mul_comm x, ← sumN_mul]
  refine sumN_congr fun v hv => ?_
  cases hb : p v == p w
  · simp [ind]
  · rw [beq_iff_eq] at hb
    have := h v hv hb
    rw [Nat.mul_assoc, this, Nat.mul_assoc, Nat.mul_comm x]
/-- they agree -/
theorem agree {n : Nat} {a b : List Int} {e : Nat → Nat} {p : Nat → Nat} {w : Nat} (hw : w < n) (hconn : ∀ u v, u < n → v < n → (p u = p v ↔ Conn n [a, b] u v))
    (ha : ∀ v, v < n → p v = p w → cellS a e n v * cellS a (fun _ => 1) n w = cellS a e n w * cellS a (fun _ => 1) n v)
    (hb : ∀ v, v < n → p v = p w → cellS b e n v * cellS b (fun _ => 1) n w = cellS b e n w * cellS b (fun _ => 1) n v) :
    cellS a e n w * cellS b (fun _ => 1) n w = cellS b e n w * cellS a (fun _ => 1) n w := by
  have h1 := class_share (c := a) (fun u v hu hv e => (hconn u v hu hv).2 (Conn.adj ⟨hu, hv, a, by simp, e⟩)) ha
  have h2 := class_share (c := b) (fun u v hu hv e => (hconn u v hu hv).2 (Conn.adj ⟨hu, hv, b, by simp, e⟩)) hb
  have hpos : 0 < sumN (fun u => ind (p u == p w) * 1) n := sumN_pos hw (by simp [ind])
  generalize sumN (fun u => ind (p u == p w) * 1) n = N at h1 h2 hpos
  generalize sumN (fun u => ind (p u == p w) * e u) n = H at h1 h2
  generalize cellS a e n w = x at h1 ⊢
  generalize cellS b e n w = z at h2 ⊢
  generalize cellS a (fun _ => 1) n w = y at h1 ⊢
  generalize cellS b (fun _ => 1) n w = t at h2 ⊢
  apply Nat.eq_of_mul_eq_mul_left hpos
  calc N * (x * t) = (x * N) * t := by rw [Nat.mul_comm x N, Nat.mul_assoc]
    _ = H * y * t := by rw [h1]
    _ = (H * t) * y := by rw [Nat.mul_assoc, Nat.mul_comm y t, Nat.mul_assoc]
    _ = (z * N) * y := by rw [h2]
    _ = N * (z * y) := by rw [Nat.mul_comm z N, Nat.mul_assoc]
end Go.Proofs.Ytodkpojmonikiaa
