/- The sort at the end of Primes: what it says. -/
import Derived.Test.YtjliabifaohfjaaPrime3
import Derived.Test.YtjliabifaohfjaaSortLaidC
import Derived.Shelf.SlSortCmp.NoneTotal
import Derived.Test.YtjliabifaohfjaaHold
import Derived.Test.YtjliabifaohfjaaOwn
namespace Go.Proofs.Ytjliabifaohfjaa
open Go Go.RowKit Go.Shelf Go.Lib Go.Sort
set_option linter.unusedVariables false

def encP (x : Cb) : List Value := [.int .u32 (W x.1), .int .u32 (W x.2)]
def cbCells (l : List Cb) : List Value := l.flatMap encP
theorem cbCells_snoc (l : List Cb) (x : Cb) : cbCells (l ++ [x]) = cbCells l ++ [.int .u32 (W x.1), .int .u32 (W x.2)] := by
  unfold cbCells
  rw [List.flatMap_append]
  simp [encP]
theorem cbCells_length (l : List Cb) : (cbCells l).length = l.length * 2 := by
  induction l with
  | nil => rfl
  | cons x l ih =>
    have e : cbCells (x :: l) = encP x ++ cbCells l := rfl
    rw [e, List.length_append, ih]
    simp [encP]
    omega
theorem cbCells_at : ∀ (l : List Cb) (k : Nat) (x : Cb), l[k]? = some x → (cbCells l)[k * 2]? = some (.int .u32 (W x.1)) ∧ (cbCells l)[k * 2 + 1]? = some (.int .u32 (W x.2)) := by
  intro l
  induction l with
  | nil => intro k x h; simp at h
  | cons y l ih =>
    intro k x h
    have e : cbCells (y :: l) = encP y ++ cbCells l := rfl
    rw [e]
    cases k with
    | zero =>
      simp at h
      subst h
      exact ⟨rfl, rfl⟩
    | succ k =>
      have h : l[k]? = some x := by simpa using h
      obtain ⟨a, b⟩ := ih k x h
      have e1 : (k + 1) * 2 = k * 2 + 1 + 1 := by omega
      have e2 : (k + 1) * 2 + 1 = k * 2 + 1 + 1 + 1 := by omega
      rw [e1]
      exact ⟨a, b⟩
theorem info_cb : (Try.prog.info? 40).map (fun i => (i.zero, i.size, i.bytes)) = some (some (.agg #[.int .u32 0, .int .u32 0]), 2, 8) := by kernel_rfl
theorem one_cb (a b : Int) : ∀ u ∈ (#[Value.int .u32 a, Value.int .u32 b] : Array Value).toList, u.oneCell' = true := fun u hu => by
  simp at hu
  rcases hu with rfl | rfl <;> rfl
/-- what the sort says -/
def SortSays : Prop := ∀ (w0 w : World) (v : Value) (m : Nat) (xs : List Cb), Own w0 w 40 2 v m (cbCells xs) → xs.length = m → m ≤ 100000 →
  Calls Try.prog 34 #[v, .func (.func 35) #[] #[]] w fun e w' => e = .returned (.tuple #[]) ∧
    ∃ (ys : List Cb) (A : Option Addr) (c : Nat), v = .slice A m c ∧ ys.Perm xs ∧ Sl w' 2 A m (cbCells ys) ∧ Kept w0 w'
theorem cmpC (blk off size : Nat) (w : World) : CmpLays Try.prog 35 #[] encP 2 cfP blk off size w :=
  fun _ _ _ _ x y => cmp_cube x y _
theorem ltC (x y : Cb) : ltOf cfP x y = decide (x.1.toNat < y.1.toNat ∨ (x.1.toNat = y.1.toNat ∧ x.2.toNat < y.2.toNat)) := by
  unfold ltOf cfP orI cmpU
  rw [decide_eq_decide]
  generalize x.1.toNat = a
  generalize y.1.toNat = b
  generalize x.2.toNat = c
  generalize y.2.toNat = d
  by_cases h1 : a < b
  · simp [h1]
  · by_cases h2 : b < a
    · have h3 : ¬ a = b := by omega
      simp [h1, h2, h3]
    · have h3 : a = b := by omega
      subst h3
      by_cases h4 : c < d
      · simp [h4]
      · by_cases h5 : d < c
        · simp [h4, h5]
        · simp [h4, h5]
theorem swoC : SWO (ltOf cfP) where
  irrefl x := by rw [ltC]; simp
  trans x y z h1 h2 := by rw [ltC] at *; simp at *; omega
  ntrans x y z h1 h2 := by rw [ltC] at *; simp at *; omega
theorem flat_at (d : Array Cb) (t : Nat) (h : t < d.size * 2) : (cbCells d.toList)[t]? = some ((flatK encP 2 d)[t]!) := by
  rw [get_flatK encP 2 d t h]
  have hk : t / 2 < d.size := by omega
  have e : d.toList[t / 2]? = some d[t / 2]! := by
    rw [getElem!_pos d (t / 2) hk, Array.getElem?_toList, Array.getElem?_eq_getElem hk]
  obtain ⟨a, b⟩ := cbCells_at d.toList (t / 2) _ e
  rcases Nat.mod_two_eq_zero_or_one t with hm | hm
  · rw [hm]
    have : t = t / 2 * 2 := by omega
    rw [this, a, Nat.mul_div_cancel _ (by omega)]
    rfl
  · rw [hm]
    have e2 : t = t / 2 * 2 + 1 := by omega
    have e3 : (t / 2 * 2 + 1) / 2 = t / 2 := by omega
    rw [e2, b, e3]
    rfl
theorem kept_sort {w0 w : World} {E : TypeId} {g n cap : Nat} {xs : List Value} (h : Own w0 w E 2 (.slice (some ⟨g, 0, none⟩) n cap) n xs) (q : Nat) (d' : Array Cb) (os : Array Obj) : Kept w0 (sortWorldK encP 2 w g 0 q d' os) := by
  have hlt := World.ownsRow.lt h.1 g rfl
  have hk := h.2
  have hsz : w.heap.size ≤ (sortWorldK encP 2 w g 0 q d' os).heap.size := size_sortWorldK_c encP 2 w g 0 q d' os
  refine ⟨hk.os, hk.tape, hk.output, Nat.le_trans hk.size hsz, fun k hkk => ?_⟩
  have h1 := hk.block k hkk
  have hkw : k < w.heap.size := Nat.lt_of_lt_of_le hkk hk.size
  rw [← h1]
  unfold sortWorldK grow putRowK putRow mapBlock Sort.ahead
  simp only
  rw [Array.getElem?_append_left (by simpa using hkw), Array.getElem?_modify, if_neg (by omega)]
theorem sortSays : SortSays := by
  intro w0 w v m xs hown hl hm
  by_cases h0 : m = 0
  · subst h0
    obtain ⟨A, c, rfl, hsl, _⟩ := hown.form
    obtain rfl : xs = [] := List.eq_nil_of_length_eq_zero hl
    refine Calls.mono (show Calls Try.prog 34 _ _ _ from AnyF.slices_SortFunc_none sortLaid A c (.func (.func 35) #[] #[]) w) ?_
    rintro e w' ⟨rfl, rfl⟩
    exact ⟨rfl, [], A, c, rfl, List.Perm.refl _, hsl, hown.2⟩
  rcases hown.1.2 with ⟨_, h⟩ | ⟨g, cap, cur, rfl, hb, hg, _⟩
  · omega
  · have hlt := World.ownsRow.lt hown.1 g rfl
    have hsz : xs.toArray.size = m := by simpa using hl
    have hH : HoldsK encP 2 w g 0 xs.toArray := by
      intro j hj
      rw [size_flatK, hsz] at hj
      have e := World.ownsRow.cellAt hown.1 j hj
      rw [show (0 + j) = j by omega]
      refine ⟨?_, World.ownsRow.frozenAt hown.1 j⟩
      rw [e]
      have := flat_at xs.toArray j (by rw [hsz]; exact hj)
      exact this
    have eg : ∀ args w, (callFunc 35 args).run Try.prog w = .ok (.enter 35 args) w := enters_of Try.func35 (by kernel_rfl) rfl
    have hcon := AnyQ.slices_SortFunc sortLaid 2 Try.isAgg40 Try.sizeOf40 encP (fun _ => rfl) (fun x v hv => by simp [encP] at hv; rcases hv with rfl | rfl <;> rfl) cfP swoC 35 #[] g 0 cap xs.toArray w eg (cmpC g 0 xs.toArray.size w) hH hlt.2 (by rw [hsz]; omega)
    rw [hsz] at hcon
    refine Calls.mono (show Calls Try.prog 34 _ _ _ from hcon) ?_
    rintro e w' ⟨rfl, d', q, os, hp, hs, rfl⟩
    have hsd : d'.size = m := hp.1.trans hsz
    have hH' : HoldsK encP 2 (sortWorldK encP 2 w g 0 q d' os) g 0 d' := holdsK_sortWorldK_c encP 2 w g 0 xs.toArray d' q os hH hlt.2 hp.1
    refine ⟨rfl, d'.toList, some ⟨g, 0, none⟩, cap, rfl, ?_, ⟨by rw [cbCells_length]; simp [hsd], fun _ => ⟨g, 0, rfl, ?_, ?_⟩⟩, kept_sort hown q d' os⟩
    · have := hp.2.2
      rw [← hsz] at this
      have e1 : d'.extract 0 xs.toArray.size = d' := by rw [← hp.1, Array.extract_size]
      rw [e1, Array.extract_size] at this
      exact this
    · have := size_sortWorldK_c encP 2 w g 0 q d' os
      omega
    · intro j u hu
      have hj : j < d'.size * 2 := by
        have := (List.getElem?_eq_some_iff.1 hu).1
        rw [cbCells_length] at this
        simpa using this
      have a := (hH' j (by rw [size_flatK]; exact hj)).1
      rw [flat_at d' j hj] at hu
      injection hu with hu
      rw [a, ← hu]
      rfl
end Go.Proofs.Ytjliabifaohfjaa
