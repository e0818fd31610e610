/- Arrays that the call itself makes, and writes cell by cell. Over any program. -/
import Derived.Test.YtekpifobhgjepaaOwn
import Derived.Laws.MakeOwn
namespace Go.Proofs.Ytekpifobhgjepaa
open Go Go.RowKit

/-- Block B is the call's own, made since w0: an array of one-cell elements, whose first cells read as xs; what was there at w0 is as it was. -/
def Row (w0 w : World) (B : Nat) (e : TypeId) (xs : List Value) : Prop := (∃ cur : Array Value, w.heap[B]? = some (.cells cur e (0, 0)) ∧ cur.toList.take xs.length = xs) ∧ w0.heap.size ≤ B ∧ Kept w0 w
section
variable {w0 w w' : World} {B : Nat} {e : TypeId} {xs : List Value}
theorem Row.lt (h : Row w0 w B e xs) : B < w.heap.size := by
  rcases Nat.lt_or_ge B w.heap.size with hlt | hge
  · exact hlt
  · obtain ⟨cur, h1, _⟩ := h.1
    rw [Array.getElem?_eq_none hge] at h1
    cases h1
theorem Row.kept0 (h : Row w0 w B e xs) : Kept w0 w := h.2.2
theorem Row.cell (h : Row w0 w B e xs) (k : Nat) {u : Value} (hu : xs[k]? = some u) : w.cell? ⟨B, k, none⟩ = some u := by
  obtain ⟨cur, h1, h2⟩ := h.1
  rw [cell_of_row w B k cur e (0, 0) h1]
  rw [← h2, List.getElem?_take] at hu
  split at hu
  · simpa using hu
  · cases hu
theorem Row.free (h : Row w0 w B e xs) (k : Nat) : w.frozen? ⟨B, k, none⟩ = false := by
  obtain ⟨cur, hh, _⟩ := h.1
  unfold World.frozen?
  simp only [hh]
  simp
theorem Row.kept (h : Row w0 w B e xs) (k : Kept w w') : Row w0 w' B e xs := by
  obtain ⟨cur, h1, h2⟩ := h.1
  exact ⟨⟨cur, (k.block B h.lt).trans h1, h2⟩, h.2.1, h.2.2.trans k⟩
theorem take_set (l : List Value) (n k : Nat) (u : Value) : (l.set k u).take n = (l.take n).set k u := by
  apply List.ext_getElem?
  intro i
  simp only [List.getElem?_take, List.getElem?_set, List.length_take]
  by_cases hi : i < n
  · by_cases hk : k = i
    · subst hk
      by_cases hl : k < l.length
      · simp [hi, hl]
        omega
      · simp [hi, hl]
        omega
    · simp [hi, hk]
  · by_cases hk : k = i
    · subst hk
      simp [hi]
      omega
    · simp [hi, hk]
theorem Row.set (h : Row w0 w B e xs) (k : Nat) (u : Value) : Row w0 (w.setCell ⟨B, k, none⟩ u) B e (xs.set k u) := by
  obtain ⟨cur, hh, h2⟩ := h.1
  refine ⟨⟨cur.setIfInBounds k u, ?_, ?_⟩, h.2.1, h.2.2.setCell (p := ⟨B, k, none⟩) h.2.1 u⟩
  · simp [World.setCell, Array.getElem?_modify, hh]
  · rw [List.length_set, Array.toList_setIfInBounds, take_set, h2]
theorem Row.drew (h : Row w0 w B e xs) : Row w0 w.drew B e xs := h.kept (Kept.refl _).drew
theorem Row.sl (h : Row w0 w B e xs) (n : Nat) (hn : xs.length = n) : Sl w 1 (some ⟨B, 0, none⟩) n xs := by
  refine ⟨by omega, fun _ => ⟨B, 0, rfl, h.lt, fun j u hu => ?_⟩⟩
  rw [Nat.zero_add]
  exact h.cell j hu
theorem Row.new (h : Kept w0 w) (e : TypeId) (xs : List Value) (B : Nat) (hB : w.heap.size = B) : Row w0 (w.alloc (.cells xs.toArray e)) B e xs := by
  subst hB
  exact ⟨⟨xs.toArray, heap_alloc_new w _, by simp⟩, h.size, h.alloc _⟩
theorem Row.of_own {A : Option Addr} {n c : Nat} (h : Own w0 w e 1 (.slice A n c) n xs) (hn : 0 < n) : ∃ B, A = some ⟨B, 0, none⟩ ∧ Row w0 w B e xs := by
  rcases h.1.2 with ⟨_, h0⟩ | ⟨g, cap, cur, hv, hb, hg, _, _, _, ht⟩
  · omega
  · injection hv with hA
    refine ⟨g, hA, ⟨cur, hg, ?_⟩, hb, h.2⟩
    have hl := h.1.1
    rw [hl]
    exact ht
end

/-- n equal cells -/
def rep (n : Nat) (z : Value) : Array Value := (List.replicate n z).toArray
/-- 'make([]T, n)', T of one cell -/
theorem run_make1 {P : Program} (t e : TypeId) {z : Value} {bytes : Nat} (ht : P.underlying t = some (.slice e)) (hi : (P.info? e).map (fun i => (i.zero, i.size, i.bytes)) = some (some z, 1, bytes)) (hz : z.cells = #[z]) (hb : bytes ≤ 1000)
    (n : Nat) (hn : n ≤ 1000000) (W : World) :
    (Instr.makeSlice t (.int .i64 (n : Int)) (.int .i64 (n : Int))).run P W = .ok (.slice (some ⟨W.heap.size, 0, none⟩) n n) (W.alloc (.cells (rep n z) e)) := by
  obtain ⟨i, hi0, hzz, hsize, hby⟩ := info_parts hi
  have hbb : (i.bytes : Int) * (n : Int) ≤ 281474976710656 := by
    rw [hby]
    have : bytes * n ≤ 1000 * 1000000 := Nat.mul_le_mul hb hn
    have h2 : ((bytes * n : Nat) : Int) ≤ 1000 * 1000000 := by omega
    rw [Int.natCast_mul] at h2
    omega
  rw [run_make (P := P) W t e i z ht hi0 hzz .i64 .i64 n n (by omega) (by omega) hbb (by omega), hsize, hz]
  have e1 : madeCells #[z] (n * 1) = rep n z := by
    unfold madeCells rep
    apply Array.ext
    · simp
    · intro j h1 h2
      simp [Nat.mod_one]
  rw [Int.toNat_natCast, e1]

/-- a list of n, the first k of which are told by g -/
def fillTo {α : Type} (g : Nat → α) (d : α) (n k : Nat) : List α := (List.range n).map fun i => if i < k then g i else d
section
variable {α : Type} (g : Nat → α) (d : α)
theorem fillTo_length (n k : Nat) : (fillTo g d n k).length = n := by simp [fillTo]
theorem fillTo_zero (n : Nat) : fillTo g d n 0 = List.replicate n d := by
  unfold fillTo
  apply List.ext_getElem
  · simp
  · intro i h1 h2
    simp
theorem fillTo_done (n : Nat) : fillTo g d n n = (List.range n).map g := by
  unfold fillTo
  apply List.map_congr_left
  intro i hi
  rw [List.mem_range] at hi
  rw [if_pos hi]
theorem fillTo_set (n k : Nat) : (fillTo g d n k).set k (g k) = fillTo g d n (k + 1) := by
  unfold fillTo
  apply List.ext_getElem
  · simp
  · intro i h1 h2
    rw [List.getElem_set]
    simp only [List.getElem_map, List.getElem_range]
    by_cases e : k = i
    · subst e
      simp
    · rw [if_neg e]
      by_cases h : i < k
      · rw [if_pos h, if_pos (by omega)]
      · rw [if_neg h, if_neg (by omega)]
theorem fillTo_at (n k i : Nat) (hi : i < n) : (fillTo g d n k)[i]? = some (if i < k then g i else d) := by
  unfold fillTo
  simp [hi]
end
theorem map_set {α : Type} (f : α → Value) (l : List α) (k : Nat) (a : α) : (l.map f).set k (f a) = (l.set k a).map f := by rw [List.map_set]
end Go.Proofs.Ytekpifobhgjepaa
