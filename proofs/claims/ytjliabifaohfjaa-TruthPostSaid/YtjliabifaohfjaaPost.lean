/- The class of a table, as five bits; a table put into another one has what both have: plain facts. -/
import Derived.Test.YtjliabifaohfjaaSums
import Derived.Test.YtjliabifaohfjaaPostP
import Derived.Test.YtjliabifaohfjaaWordP
namespace Go.Proofs.Ytjliabifaohfjaa
open Go Go.RowKit
set_option linter.unusedVariables false

def monoB (n : Nat) (f : List Bool) : Bool := (List.range f.length).all fun s => (List.range n).all fun i => !bat f s || bat f (s ||| 2 ^ i)
def linB (n : Nat) (f : List Bool) : Bool := (List.range f.length).all fun s => !bat (sumsL n f) s || supp s
def classB (n : Nat) (f : List Bool) (i : Nat) : Bool := match i with
  | 0 => !bat f 0
  | 1 => bat f (f.length - 1)
  | 2 => f == dualL f
  | 3 => monoB n f
  | 4 => linB n f
  | _ => false
def classF (n : Nat) (f : List Bool) : BitVec 32 := wordN 5 (classB n f)
theorem classF_bit (n : Nat) (f : List Bool) (i : Nat) (hi : i < 5) : (classF n f).getLsbD i = classB n f i := by
  unfold classF
  rw [wordN_bit _ 5 (by omega)]
  simp [hi]
theorem classF_fit (n : Nat) (f : List Bool) : fitB 5 (classF n f) = true := wordN_fit 5 _ (by omega)
theorem monoB_iff {n : Nat} {f : List Bool} (hl : f.length = 2 ^ n) : monoB n f = true ↔ MonoF n (bat f) := by
  unfold monoB MonoF
  rw [hl, List.all_eq_true]
  constructor
  · intro h s i hs hi hf
    have := h s (List.mem_range.2 hs)
    rw [List.all_eq_true] at this
    have := this i (List.mem_range.2 hi)
    rw [hf] at this
    simpa using this
  · intro h s hs
    rw [List.all_eq_true]
    intro i hi
    cases hb : bat f s
    · rfl
    · rw [h s i (List.mem_range.1 hs) (List.mem_range.1 hi) hb]; rfl
theorem linB_iff {n : Nat} {f : List Bool} (hl : f.length = 2 ^ n) : linB n f = true ↔ LinF n (bat f) := by
  unfold linB LinF
  rw [hl, List.all_eq_true]
  constructor
  · intro h s hs hf
    have := h s (List.mem_range.2 hs)
    rw [bat_sumsL _ _ _ (by rw [hl]; exact hs), hf] at this
    simpa using this
  · intro h s hs
    have hs := List.mem_range.1 hs
    rw [bat_sumsL _ _ _ (by rw [hl]; exact hs)]
    cases hb : sumsN (bat f) n s
    · rfl
    · rw [h s hs hb]; rfl
theorem dualB_iff {n : Nat} {f : List Bool} (hl : f.length = 2 ^ n) : (f == dualL f) = true ↔ DualF n (bat f) := by
  rw [beq_iff_eq]
  constructor
  · intro h s hs
    have e : bat f s = bat (dualL f) s := congrArg (fun l => bat l s) h
    rw [bat_dualL _ _ (by rw [hl]; exact hs), hl] at e
    exact e
  · intro h
    apply bat_ext (by rw [dualL_length])
    intro k hk
    rw [bat_dualL _ _ hk, hl]
    exact h k (by rw [← hl]; exact hk)
/-- what is made of them -/
def putL (n : Nat) (f : List Bool) (g : Nat → List Bool) : List Bool := (List.range (2 ^ n)).map fun s => bat f (inN (fun v => bat (g v)) s n)
theorem putL_length (n : Nat) (f : List Bool) (g : Nat → List Bool) : (putL n f g).length = 2 ^ n := by simp [putL]
theorem bat_putL {n : Nat} (f : List Bool) (g : Nat → List Bool) {s : Nat} (h : s < 2 ^ n) : bat (putL n f g) s = bat f (inN (fun v => bat (g v)) s n) := bat_map_range _ _ _ h
theorem MonoF.congr {n : Nat} {f g : Nat → Bool} (h : MonoF n f) (e : ∀ s, s < 2 ^ n → g s = f s) : MonoF n g := fun s i hs hi hf => by
  rw [e _ (or_lt2 hs hi)]
  exact h s i hs hi (by rw [← e s hs]; exact hf)
theorem LinF.congr {n : Nat} {f g : Nat → Bool} (h : LinF n f) (e : ∀ s, s < 2 ^ n → g s = f s) : LinF n g := fun s hs hf => by
  rw [sumsN_congr e n (Nat.le_refl n) s hs] at hf
  exact h s hs hf
theorem DualF.congr {n : Nat} {f g : Nat → Bool} (h : DualF n f) (e : ∀ s, s < 2 ^ n → g s = f s) : DualF n g := fun s hs => by
  rw [e s hs, e _ (by omega)]
  exact h s hs
theorem class_put {n : Nat} (hn : n ≤ 4) {f : List Bool} {g : Nat → List Bool} (hf : f.length = 2 ^ n) (hg : ∀ v, v < n → (g v).length = 2 ^ n) {i : Nat} (h0 : classB n f i = true) (h1 : ∀ v, v < n → classB n (g v) i = true) : classB n (putL n f g) i = true := by
  have hp := Nat.two_pow_pos n
  match i, h0, h1 with
  | 0, h0, h1 =>
    have e : inN (fun v => bat (g v)) 0 n = 0 := in_none fun v hv => by
      have h := h1 v hv
      show bat (g v) 0 = false
      have h : (!bat (g v) 0) = true := h
      simpa using h
    show (!bat (putL n f g) 0) = true
    rw [bat_putL f g hp, e]
    exact h0
  | 1, h0, h1 =>
    have e : inN (fun v => bat (g v)) (2 ^ n - 1) n = 2 ^ n - 1 := in_all fun v hv => by
      have h : bat (g v) ((g v).length - 1) = true := h1 v hv
      rw [hg v hv] at h
      exact h
    show bat (putL n f g) ((putL n f g).length - 1) = true
    rw [putL_length, bat_putL f g (by omega), e]
    have h : bat f (f.length - 1) = true := h0
    rw [hf] at h
    exact h
  | 2, h0, h1 =>
    refine (dualB_iff (putL_length n f g)).2 (DualF.congr (DualF.put (g := fun v => bat (g v)) ((dualB_iff hf).1 h0) fun v hv => (dualB_iff (hg v hv)).1 (h1 v hv)) fun s hs => bat_putL f g hs)
  | 3, h0, h1 =>
    refine (monoB_iff (putL_length n f g)).2 (MonoF.congr (MonoF.put (g := fun v => bat (g v)) ((monoB_iff hf).1 h0) fun v hv => (monoB_iff (hg v hv)).1 (h1 v hv)) fun s hs => bat_putL f g hs)
  | 4, h0, h1 =>
    refine (linB_iff (putL_length n f g)).2 (LinF.congr (LinF.put hn (g := fun v => bat (g v)) ((linB_iff hf).1 h0) fun v hv => (linB_iff (hg v hv)).1 (h1 v hv)) fun s hs => bat_putL f g hs)
  | (i + 5), h0, h1 => cases h0
/-- what all have -/
def allW (n : Nat) (f : List Bool) (g : Nat → List Bool) : Nat → BitVec 32
  | 0 => classF n f
  | q + 1 => allW n f g q &&& classF n (g q)
theorem allW_bit (n : Nat) (f : List Bool) (g : Nat → List Bool) (i : Nat) (hi : i < 5) : ∀ q, (allW n f g q).getLsbD i = true → classB n f i = true ∧ ∀ v, v < q → classB n (g v) i = true := by
  intro q
  induction q with
  | zero => intro h; exact ⟨by rw [← classF_bit n f i hi]; exact h, fun v hv => by omega⟩
  | succ q ih =>
    intro h
    have h : (allW n f g q &&& classF n (g q)).getLsbD i = true := h
    rw [BitVec.getLsbD_and, Bool.and_eq_true] at h
    obtain ⟨h1, h2⟩ := ih h.1
    refine ⟨h1, fun v hv => ?_⟩
    by_cases e : v = q
    · subst e; rw [← classF_bit n _ i hi]; exact h.2
    · exact h2 v (by omega)
theorem allW_fit (n : Nat) (f : List Bool) (g : Nat → List Bool) : ∀ q, fitB 5 (allW n f g q) = true := by
  intro q
  induction q with
  | zero => exact classF_fit n f
  | succ q ih =>
    rw [fitB_iff]
    intro i hi
    have hi : (allW n f g q &&& classF n (g q)).getLsbD i = true := hi
    rw [BitVec.getLsbD_and, Bool.and_eq_true] at hi
    exact fitB_iff.1 ih i hi.1
theorem allW_put {n : Nat} (hn : n ≤ 4) {f : List Bool} {g : Nat → List Bool} (hf : f.length = 2 ^ n) (hg : ∀ v, v < n → (g v).length = 2 ^ n) : subB (allW n f g n) (classF n (putL n f g)) = true := by
  rw [subB_iff]
  intro i hi
  have h5 := fitB_iff.1 (allW_fit n f g n) i hi
  obtain ⟨h1, h2⟩ := allW_bit n f g i h5 n hi
  rw [classF_bit _ _ _ h5]
  exact class_put hn hf hg h1 h2
theorem class_one : classF 0 [true] = 26#32 := by decide
end Go.Proofs.Ytjliabifaohfjaa
