/- The sort at the end of concept.All: the closure's walk; what the sort says. -/
import Derived.Test.YtmdlfngdmlhpmaaNext3
import Derived.Test.YtmdlfngdmlhpmaaSortLaid
namespace Go.Proofs.Ytmdlfngdmlhpmaa
open Go Go.RowKit Go.Shelf Go.Lib Go.Sort
set_option linter.unusedVariables false

def cfC (x y : Cn) : Int := W x.2 - W y.2
set_option maxHeartbeats 1000000 in
theorem cmp_any (x y : Cn) (w : World) : Calls Try.prog 48 #[.agg #[.int .u32 (W x.1), .int .u32 (W x.2)], .agg #[.int .u32 (W y.1), .int .u32 (W y.2)]] w fun e w' => e = .returned (.int .i64 (cfC x y)) ∧ ∃ q os', w' = grow (w.drewN q) os' := by
  have h1 := W_lt x.2
  have h2 := W_lt y.2
  have h3 := W_nonneg x.2
  have h4 := W_nonneg y.2
  have HC := Lib.hid (show cfC x y = W x.2 - W y.2 from rfl)
  generalize cfC x y = r at HC ⊢
  generalize W x.1 = a at *
  generalize W x.2 = b at *
  generalize W y.1 = c at *
  generalize W y.2 = d at *
  go_enter Try.func48, Try.ntmps48
  go_wp2
  go_ret
  exact ⟨by rw [HC.out]; rfl, 0, _, by rw [alloc_eq_grow, alloc_eq_grow, grow_grow]; rfl⟩
theorem cmpC (blk off size : Nat) (w : World) : CmpLays Try.prog 48 #[] encC 2 cfC blk off size w :=
  fun _ _ _ _ x y => cmp_any x y _
theorem ltC (x y : Cn) : ltOf cfC x y = decide (x.2.toNat < y.2.toNat) := by
  unfold ltOf cfC W
  rw [decide_eq_decide]
  omega
theorem swoC : SWO (ltOf cfC) where
  irrefl x := by rw [ltC]; simp
  trans x y z h1 h2 := by rw [ltC] at *; simp at *; omega
  ntrans x y z h1 h2 := by rw [ltC] at *; simp at *; omega
theorem flat_at (d : Array Cn) (t : Nat) (h : t < d.size * 2) : (cnCells d.toList)[t]? = some ((flatK encC 2 d)[t]!) := by
  rw [get_flatK encC 2 d t h]
  have hk : t / 2 < d.size := by omega
  have e : d.toList[t / 2]? = some d[t / 2]! := by
    rw [getElem!_pos d (t / 2) hk, Array.getElem?_toList, Array.getElem?_eq_getElem hk]
  obtain ⟨a, b⟩ := cnCells_at d.toList (t / 2) _ e
  rcases Nat.mod_two_eq_zero_or_one t with hm | hm
  · rw [hm]
    have : t = t / 2 * 2 := by omega
    rw [this, a, Nat.mul_div_cancel _ (by omega)]
    rfl
  · rw [hm]
    have e2 : t = t / 2 * 2 + 1 := by omega
    have e3 : (t / 2 * 2 + 1) / 2 = t / 2 := by omega
    rw [e2, b, e3]
    rfl
theorem kept_sort {w0 w : World} {E : TypeId} {g n cap : Nat} {xs : List Value} (h : Own w0 w E 2 (.slice (some ⟨g, 0, none⟩) n cap) n xs) (q : Nat) (d' : Array Cn) (os : Array Obj) : Kept w0 (sortWorldK encC 2 w g 0 q d' os) := by
  have hlt := World.ownsRow.lt h.1 g rfl
  have hk := h.2
  have hsz : w.heap.size ≤ (sortWorldK encC 2 w g 0 q d' os).heap.size := size_sortWorldK_c encC 2 w g 0 q d' os
  refine ⟨hk.os, hk.tape, hk.output, Nat.le_trans hk.size hsz, fun k hkk => ?_⟩
  have h1 := hk.block k hkk
  have hkw : k < w.heap.size := Nat.lt_of_lt_of_le hkk hk.size
  rw [← h1]
  unfold sortWorldK grow putRowK putRow mapBlock Sort.ahead
  simp only
  rw [Array.getElem?_append_left (by simpa using hkw), Array.getElem?_modify, if_neg (by omega)]
theorem sortSays : SortSays := by
  intro w0 w v m xs hown hl h0 hm
  rcases hown.1.2 with ⟨_, h⟩ | ⟨g, cap, cur, rfl, hb, hg, _⟩
  · omega
  · have hlt := World.ownsRow.lt hown.1 g rfl
    have hsz : xs.toArray.size = m := by simpa using hl
    have hH : HoldsK encC 2 w g 0 xs.toArray := by
      intro j hj
      rw [size_flatK, hsz] at hj
      have e := World.ownsRow.cellAt hown.1 j hj
      rw [show (0 + j) = j by omega]
      refine ⟨?_, World.ownsRow.frozenAt hown.1 j⟩
      rw [e]
      have := flat_at xs.toArray j (by rw [hsz]; exact hj)
      exact this
    have eg : ∀ args w, (callFunc 48 args).run Try.prog w = .ok (.enter 48 args) w := enters_of Try.func48 (by kernel_rfl) rfl
    have hcon := AnyQ.slices_SortFunc sortLaid 2 Try.isAgg58 Try.sizeOf58 encC (fun _ => rfl) (fun x v hv => by simp [encC] at hv; rcases hv with rfl | rfl <;> rfl) cfC swoC 48 #[] g 0 cap xs.toArray w eg (cmpC g 0 xs.toArray.size w) hH hlt.2 (by rw [hsz]; omega)
    rw [hsz] at hcon
    refine Calls.mono (show Calls Try.prog 47 _ _ _ from hcon) ?_
    rintro e w' ⟨rfl, d', q, os, hp, hs, rfl⟩
    have hsd : d'.size = m := hp.1.trans hsz
    have hH' : HoldsK encC 2 (sortWorldK encC 2 w g 0 q d' os) g 0 d' := holdsK_sortWorldK_c encC 2 w g 0 xs.toArray d' q os hH hlt.2 hp.1
    refine ⟨rfl, d'.toList, some ⟨g, 0, none⟩, cap, rfl, ?_, ?_, ⟨by rw [cnCells_length]; simp [hsd], fun _ => ⟨g, 0, rfl, ?_, ?_⟩⟩, kept_sort hown q d' os⟩
    · have := hp.2.2
      rw [← hsz] at this
      have e1 : d'.extract 0 xs.toArray.size = d' := by rw [← hp.1, Array.extract_size]
      rw [e1, Array.extract_size] at this
      exact this
    · intro i j x y hij hx hy
      have hj : j < d'.size := by
        have := (List.getElem?_eq_some_iff.1 hy).1
        simpa using this
      have := hs i j (Nat.zero_le _) hij (by omega)
      rw [ltC] at this
      have ex : d'[i]! = x := by
        rw [getElem!_pos d' i (by omega)]
        rw [Array.getElem?_toList, Array.getElem?_eq_getElem (by omega)] at hx
        injection hx
      have ey : d'[j]! = y := by
        rw [getElem!_pos d' j (by omega)]
        rw [Array.getElem?_toList, Array.getElem?_eq_getElem (by omega)] at hy
        injection hy
      rw [ex, ey] at this
      simp at this
      exact this
    · have := size_sortWorldK_c encC 2 w g 0 q d' os
      omega
    · intro j u hu
      have hj : j < d'.size * 2 := by
        have := (List.getElem?_eq_some_iff.1 hu).1
        rw [cnCells_length] at this
        simpa using this
      have a := (hH' j (by rw [size_flatK]; exact hj)).1
      rw [flat_at d' j hj] at hu
      injection hu with hu
      rw [a, ← hu]
      rfl
end Go.Proofs.Ytmdlfngdmlhpmaa
