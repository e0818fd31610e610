/- As few as are needed can read all: plain laws (Brewer, Nash). -/
import Derived.Test.YtnnddjanbfamkaaDeed
namespace Go.Proofs.Ytnnddjanbfamkaa
open Go
set_option linter.unusedVariables false

/-- the firms of the first i things, in order -/
def doneF (firm : List Int) : Nat → List Int
  | 0 => []
  | i + 1 => if frm firm i < 0 then doneF firm i else if frm firm i ∈ doneF firm i then doneF firm i else doneF firm i ++ [frm firm i]
/-- how many of its class are there ahead of it -/
def whoF (clss D : List Int) (f : Int) : Nat := ((D.takeWhile fun g => g != f).filter fun g => cls clss g == cls clss f).length
def cntF (clss D : List Int) (c : Int) : Nat := (D.filter fun g => cls clss g == c).length
def mostF (firm clss : List Int) : Nat → Nat
  | 0 => 0
  | i + 1 => if frm firm i < 0 then mostF firm clss i else max (mostF firm clss i) (cntF clss (doneF firm (i + 1)) (cls clss (frm firm i)))
def deF (who i : Nat) : De := (1, (who : Int), (i : Int), 0, 0#32, 0)
def dsF (firm clss : List Int) : Nat → List De
  | 0 => []
  | i + 1 => if frm firm i < 0 then dsF firm clss i else dsF firm clss i ++ [deF (whoF clss (doneF firm (i + 1)) (frm firm i)) i]
section
variable {firm clss D E : List Int} {i k : Nat} {f g : Int}
theorem doneF_neg (h : frm firm i < 0) : doneF firm (i + 1) = doneF firm i := by show (if _ then _ else _) = _; rw [if_pos h]
theorem doneF_old (h : 0 ≤ frm firm i) (hm : frm firm i ∈ doneF firm i) : doneF firm (i + 1) = doneF firm i := by show (if _ then _ else _) = _; rw [if_neg (by omega), if_pos hm]
theorem doneF_new (h : 0 ≤ frm firm i) (hm : frm firm i ∉ doneF firm i) : doneF firm (i + 1) = doneF firm i ++ [frm firm i] := by show (if _ then _ else _) = _; rw [if_neg (by omega), if_neg hm]
theorem doneF_step (firm : List Int) (i : Nat) : ∃ E, doneF firm (i + 1) = doneF firm i ++ E := by
  by_cases h : frm firm i < 0
  · exact ⟨[], by rw [doneF_neg h, List.append_nil]⟩
  · by_cases hm : frm firm i ∈ doneF firm i
    · exact ⟨[], by rw [doneF_old (by omega) hm, List.append_nil]⟩
    · exact ⟨_, doneF_new (by omega) hm⟩
theorem doneF_mono (firm : List Int) (i : Nat) : ∀ d, ∃ E, doneF firm (i + d) = doneF firm i ++ E := by
  intro d
  induction d with
  | zero => exact ⟨[], by rw [List.append_nil]; rfl⟩
  | succ d ih =>
    obtain ⟨E, hE⟩ := ih
    obtain ⟨F, hF⟩ := doneF_step firm (i + d)
    exact ⟨E ++ F, by rw [show i + (d + 1) = i + d + 1 by omega, hF, hE, List.append_assoc]⟩
theorem doneF_here (h : 0 ≤ frm firm i) : frm firm i ∈ doneF firm (i + 1) := by
  by_cases hm : frm firm i ∈ doneF firm i
  · rw [doneF_old h hm]; exact hm
  · rw [doneF_new h hm]; simp
theorem doneF_mem (h : 0 ≤ frm firm i) (hk : i < k) : frm firm i ∈ doneF firm k := by
  obtain ⟨d, rfl⟩ := Nat.le.dest (show i + 1 ≤ k by omega)
  obtain ⟨E, hE⟩ := doneF_mono firm (i + 1) d
  rw [hE, List.mem_append]
  exact .inl (doneF_here h)
theorem doneF_ok (firm : List Int) : ∀ i, (doneF firm i).Nodup ∧ ∀ f ∈ doneF firm i, 0 ≤ f ∧ ∃ j, j < i ∧ frm firm j = f := by
  intro i
  induction i with
  | zero => exact ⟨List.nodup_nil, fun f h => by cases h⟩
  | succ i ih =>
    have up : ∀ f ∈ doneF firm i, 0 ≤ f ∧ ∃ j, j < i + 1 ∧ frm firm j = f := fun f h => by
      obtain ⟨a, j, hj, e⟩ := ih.2 f h
      exact ⟨a, j, by omega, e⟩
    by_cases h : frm firm i < 0
    · rw [doneF_neg h]; exact ⟨ih.1, up⟩
    · by_cases hm : frm firm i ∈ doneF firm i
      · rw [doneF_old (by omega) hm]; exact ⟨ih.1, up⟩
      · rw [doneF_new (by omega) hm]
        refine ⟨?_, fun f hf => ?_⟩
        · rw [List.nodup_append]
          refine ⟨ih.1, by simp, fun a ha b hb e => ?_⟩
          simp at hb
          subst hb e
          exact hm ha
        · rw [List.mem_append] at hf
          rcases hf with hf | hf
          · exact up f hf
          · simp at hf
            subst hf
            exact ⟨by omega, i, by omega, rfl⟩
theorem takeWhile_app (hf : f ∈ D) : (D ++ E).takeWhile (fun g => g != f) = D.takeWhile fun g => g != f := by
  induction D with
  | nil => cases hf
  | cons a D ih =>
    rw [List.cons_append, List.takeWhile_cons, List.takeWhile_cons]
    by_cases e : a = f
    · subst e; simp
    · have : (a != f) = true := by simpa using e
      rw [this]
      simp only [if_true]
      rw [List.mem_cons] at hf
      rw [ih (hf.resolve_left fun h => e h.symm)]
theorem whoF_app (hf : f ∈ D) : whoF clss (D ++ E) f = whoF clss D f := by unfold whoF; rw [takeWhile_app hf]
theorem whoF_done (h : 0 ≤ frm firm i) (hk : i < k) : whoF clss (doneF firm k) (frm firm i) = whoF clss (doneF firm (i + 1)) (frm firm i) := by
  obtain ⟨d, rfl⟩ := Nat.le.dest (show i + 1 ≤ k by omega)
  obtain ⟨E, hE⟩ := doneF_mono firm (i + 1) d
  rw [hE]
  exact whoF_app (doneF_here h)
theorem whoF_lt (hf : f ∈ D) : whoF clss D f < cntF clss D (cls clss f) := by
  unfold whoF cntF
  induction D with
  | nil => cases hf
  | cons a D ih =>
    rw [List.takeWhile_cons, List.filter_cons]
    by_cases e : a = f
    · subst e; simp
    · have : (a != f) = true := by simpa using e
      rw [this]
      simp only [if_true]
      rw [List.mem_cons] at hf
      have := ih (hf.resolve_left fun h => e h.symm)
      rw [List.filter_cons]
      cases cls clss a == cls clss f
      · simp; exact this
      · simp; exact this
theorem whoF_inj (hf : f ∈ D) (hg : g ∈ D) (hc : cls clss f = cls clss g) (hw : whoF clss D f = whoF clss D g) : f = g := by
  unfold whoF at hw
  induction D with
  | nil => cases hf
  | cons a D ih =>
    rw [List.takeWhile_cons, List.takeWhile_cons] at hw
    by_cases e1 : a = f
    · by_cases e2 : a = g
      · exact e1.symm.trans e2
      · have h1 : (a != f) = false := by simpa using e1
        have h2 : (a != g) = true := by simpa using e2
        rw [h1, h2] at hw
        simp only [if_true, Bool.false_eq_true, if_false, List.filter_nil, List.length_nil] at hw
        rw [List.filter_cons] at hw
        have : (cls clss a == cls clss g) = true := by rw [e1, hc]; simp
        rw [this] at hw
        simp at hw
    · have h1 : (a != f) = true := by simpa using e1
      by_cases e2 : a = g
      · have h2 : (a != g) = false := by simpa using e2
        rw [h1, h2] at hw
        simp only [if_true, Bool.false_eq_true, if_false, List.filter_nil, List.length_nil] at hw
        rw [List.filter_cons] at hw
        have : (cls clss a == cls clss f) = true := by rw [e2, hc]; simp
        rw [this] at hw
        simp at hw
      · have h2 : (a != g) = true := by simpa using e2
        rw [h1, h2] at hw
        simp only [if_true] at hw
        rw [List.filter_cons, List.filter_cons, hc] at hw
        rw [List.mem_cons] at hf hg
        refine ih (hf.resolve_left fun h => e1 h.symm) (hg.resolve_left fun h => e2 h.symm) ?_
        rw [hc]
        cases hcc : cls clss a == cls clss g
        · rw [hcc] at hw
          simpa using hw
        · rw [hcc] at hw
          simpa using hw
theorem cntF_app : cntF clss (D ++ [f]) (cls clss g) = cntF clss D (cls clss g) + (if cls clss f = cls clss g then 1 else 0) := by
  unfold cntF
  rw [List.filter_append, List.length_append]
  congr 1
  by_cases h : cls clss f = cls clss g
  · rw [if_pos h]; simp [h]
  · rw [if_neg h]; simp [h]
theorem mostF_neg (h : frm firm i < 0) : mostF firm clss (i + 1) = mostF firm clss i := by show (if _ then _ else _) = _; rw [if_pos h]
theorem mostF_pos (h : 0 ≤ frm firm i) : mostF firm clss (i + 1) = max (mostF firm clss i) (cntF clss (doneF firm (i + 1)) (cls clss (frm firm i))) := by show (if _ then _ else _) = _; rw [if_neg (by omega)]
theorem mostF_ge (firm clss : List Int) : ∀ i, ∀ f ∈ doneF firm i, cntF clss (doneF firm i) (cls clss f) ≤ mostF firm clss i := by
  intro i
  induction i with
  | zero => intro f h; cases h
  | succ i ih =>
    intro f hf
    by_cases h : frm firm i < 0
    · rw [doneF_neg h] at hf ⊢; rw [mostF_neg h]; exact ih f hf
    · rw [mostF_pos (by omega)]
      by_cases hc : cls clss f = cls clss (frm firm i)
      · rw [hc]; exact Nat.le_max_right _ _
      · by_cases hm : frm firm i ∈ doneF firm i
        · rw [doneF_old (by omega) hm] at hf ⊢
          exact Nat.le_trans (ih f hf) (Nat.le_max_left _ _)
        · rw [doneF_new (by omega) hm] at hf ⊢
          rw [List.mem_append] at hf
          rcases hf with hf | hf
          · rw [cntF_app, if_neg (fun e => hc e.symm)]
            exact Nat.le_trans (ih f hf) (Nat.le_max_left _ _)
          · simp at hf
            rw [hf] at hc
            exact absurd rfl hc
theorem mostF_le (firm clss : List Int) : ∀ i, mostF firm clss i ≤ (doneF firm i).length := by
  intro i
  induction i with
  | zero => exact Nat.le_refl _
  | succ i ih =>
    obtain ⟨E, hE⟩ := doneF_step firm i
    have hlen : (doneF firm i).length ≤ (doneF firm (i + 1)).length := by rw [hE, List.length_append]; omega
    by_cases h : frm firm i < 0
    · rw [mostF_neg h]; omega
    · rw [mostF_pos (by omega)]
      refine Nat.max_le.2 ⟨by omega, ?_⟩
      unfold cntF
      exact List.length_filter_le _ _
theorem mostF_zero (h : mostF firm clss k = 0) (hi : i < k) : frm firm i < 0 := by
  refine Decidable.byContradiction fun hn => ?_
  have hm := doneF_mem (firm := firm) (i := i) (k := k) (by omega) hi
  have h1 := whoF_lt (clss := clss) hm
  have h2 := mostF_ge firm clss k _ hm
  omega
theorem len_small : ∀ (n : Nat) (l : List Int), l.Nodup → (∀ x ∈ l, 0 ≤ x ∧ x < (n : Int)) → l.length ≤ n := by
  intro n
  induction n with
  | zero =>
    intro l _ h
    cases l with
    | nil => simp
    | cons a l => have := h a (List.mem_cons_self ..); omega
  | succ n ih =>
    intro l hn h
    have h1 := ih (l.filter fun x => x != (n : Int)) (hn.filter _) (fun x hx => by
      rw [List.mem_filter] at hx
      have := h x hx.1
      have h2 : x ≠ (n : Int) := by simpa using hx.2
      omega)
    have h2 : ∀ l : List Int, l.Nodup → l.length ≤ (l.filter fun x => x != (n : Int)).length + 1 := by
      intro l
      induction l with
      | nil => intro _; simp
      | cons a l ihl =>
        intro hn
        rw [List.nodup_cons] at hn
        rw [List.filter_cons]
        by_cases e : a = (n : Int)
        · have h0 : (l.filter fun x => x != (n : Int)) = l := by
            rw [List.filter_eq_self]
            intro x hx
            have : x ≠ (n : Int) := fun e2 => hn.1 (by rw [e, ← e2]; exact hx)
            simpa using this
          have e1 : (a != (n : Int)) = false := by simpa using e
          rw [e1, h0]
          simp
        · have e1 : (a != (n : Int)) = true := by simpa using e
          rw [e1]
          have := ihl hn.2
          simp
          omega
    have := h2 l hn
    omega
theorem doneF_len {m : Nat} (hm : ∀ j, j < i → frm firm j < (m : Int)) : (doneF firm i).length ≤ m := by
  obtain ⟨h1, h2⟩ := doneF_ok firm i
  refine len_small m _ h1 fun x hx => ?_
  obtain ⟨a, j, hj, e⟩ := h2 x hx
  have := hm j hj
  omega
theorem dsF_ok (firm clss : List Int) : ∀ k n, k ≤ n → (dsF firm clss k).length ≤ k ∧ ∀ d ∈ dsF firm clss k, ∃ i, i < k ∧ 0 ≤ frm firm i ∧ d = deF (whoF clss (doneF firm n) (frm firm i)) i := by
  intro k
  induction k with
  | zero => intro n _; exact ⟨Nat.le_refl _, fun d h => by cases h⟩
  | succ k ih =>
    intro n hn
    have up : ∀ d ∈ dsF firm clss k, ∃ i, i < k + 1 ∧ 0 ≤ frm firm i ∧ d = deF (whoF clss (doneF firm n) (frm firm i)) i := fun d hd => by
      obtain ⟨i, a, b⟩ := (ih n (by omega)).2 d hd
      exact ⟨i, by omega, b⟩
    have hl := (ih n (by omega)).1
    unfold dsF
    by_cases h : frm firm k < 0
    · rw [if_pos h]; exact ⟨by omega, up⟩
    · rw [if_neg h]
      refine ⟨by rw [List.length_append]; simp; omega, fun d hd => ?_⟩
      rw [List.mem_append] at hd
      rcases hd with hd | hd
      · exact up d hd
      · simp at hd
        exact ⟨k, by omega, by omega, by rw [hd, whoF_done (by omega) (show k < n by omega)]⟩
end
end Go.Proofs.Ytnnddjanbfamkaa
