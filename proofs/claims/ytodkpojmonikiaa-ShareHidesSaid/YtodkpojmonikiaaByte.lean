/- Bytes in a walk: 'B8 x' is the number of the byte x; slices of bytes, read as lists. -/
import Derived.Test.YtodkpojmonikiaaShareP
import Derived.Test.YtodkpojmonikiaaOpen
import Derived.Test.YtodkpojmonikiaaHold
namespace Go.Proofs.Ytodkpojmonikiaa
open Go Go.RowKit Go.ChangeShapes Go.WideShapes Go.Deep
set_option linter.unusedVariables false

def B8 (x : By) : Int := (x.toNat : Int)
theorem B8_nonneg (x : By) : 0 ≤ B8 x := by unfold B8; omega
theorem B8_lt (x : By) : B8 x < 256 := by unfold B8; have := x.isLt; omega
theorem B8_inj {x y : By} : B8 x = B8 y ↔ x = y := by
  unfold B8
  rw [Int.natCast_inj, BitVec.toNat_inj]
theorem byOfInt (x : By) : BitVec.ofInt 8 (B8 x) = x := by
  unfold B8
  rw [BitVec.ofInt_natCast, BitVec.ofNat_toNat, BitVec.setWidth_eq]
theorem byOf_wf {n : Int} (h : (Lit.int .u8 n).wf = true) : ∃ x : By, n = B8 x := by
  simp [Lit.wf, IntKind.min, IntKind.max, IntKind.signed, IntKind.bits] at h
  refine ⟨BitVec.ofInt 8 n, ?_⟩
  unfold B8
  rw [BitVec.toNat_ofInt]
  omega
theorem wf_B8 (x : By) : (Lit.int .u8 (B8 x)).wf = true := by
  have h0 := B8_nonneg x
  have h1 := B8_lt x
  simp [Lit.wf, IntKind.min, IntKind.max, IntKind.signed, IntKind.bits]
  omega
@[go_sem] theorem bits_xor_B8 (x y : By) : bits .xor .u8 (B8 x) (B8 y) = B8 (x ^^^ y) := by
  show IntKind.u8.wrap ((BitVec.ofInt 8 (B8 x) ^^^ BitVec.ofInt 8 (B8 y)).toNat : Int) = _
  rw [byOfInt, byOfInt]
  unfold B8
  have := (x ^^^ y).isLt
  rw [IntKind.wrap_u8]
  omega
@[go_sem] theorem bits_xor_B8i (x y : By) : bits .xor .i64 (B8 x) (B8 y) = B8 (x ^^^ y) := by
  unfold B8
  rw [i64_xor _ _ (by have := x.isLt; omega) (by have := y.isLt; omega), BitVec.toNat_xor]
@[go_sem] theorem i64_wrap_B8 (x : By) : IntKind.i64.wrap (B8 x) = B8 x := by
  have h0 := B8_nonneg x
  have h1 := B8_lt x
  rw [IntKind.wrap_i64]
  omega
@[go_sem] theorem wrap64_B8 (x : By) : wrap64 (B8 x) = B8 x := by
  have h0 := B8_nonneg x
  have h1 := B8_lt x
  exact IntWalk.wrap64_in _ ⟨by omega, by omega⟩
@[go_sem] theorem B8_neg (x : By) : (B8 x < 0) = False := eq_false (by have := B8_nonneg x; omega)
@[go_sem] theorem B8_neg1 (x : By) : (B8 x < -1) = False := eq_false (by have := B8_nonneg x; omega)
@[go_sem] theorem B8_big (x : By) : (255 < B8 x) = False := eq_false (by have := B8_lt x; omega)
@[go_sem] theorem B8_beq (x y : By) : (B8 x == B8 y) = (x == y) := by
  rw [Bool.eq_iff_iff, beq_iff_eq, beq_iff_eq, B8_inj]

def yv (x : By) : Value := .int .u8 (B8 x)
/-- a slice of bytes -/
def SlY (w : World) (A : Option Addr) (n : Nat) (xs : List By) : Prop := Sl w 1 A n (xs.map yv) ∧ xs.length = n
section
variable {w w' : World} {A : Option Addr} {n : Nat}
theorem SlY.kept {rs} (h : SlY w A n rs) (k : Kept w w') : SlY w' A n rs := ⟨h.1.kept k, h.2⟩
theorem SlY.getN {xs} (h : SlY w A n xs) (k : Nat) (hk : k < n) : ∃ b off, A = some ⟨b, off, none⟩ ∧ b < w.heap.size ∧
    w.cell? ⟨b, off + k, none⟩ = some (.int .u8 (B8 (bth xs k))) := by
  have hl : k < xs.length := by rw [h.2]; exact hk
  obtain ⟨b, off, e, hb, hc⟩ := h.1.2 (by omega)
  exact ⟨b, off, e, hb, hc k _ (by rw [List.getElem?_map, List.getElem?_eq_getElem hl, bth_eq _ _ hl]; rfl)⟩
end
theorem one_y (x : Int) : ∀ u ∈ (#[Value.int .u8 x] : Array Value).toList, u.oneCell' = true := fun u hu => by simp at hu; subst hu; rfl
theorem one_ys (xs : List By) : ∀ u ∈ xs.map yv, u.oneCell' = true := fun u hu => by
  obtain ⟨x, _, rfl⟩ := List.mem_map.1 hu
  rfl
section
variable {H : Type} {enc : TypeId × Value → H} {P : Program} {w : World} {base : Nat} {spare : Nat → Bool} {held : Bool}
theorem open_bytes {t e : TypeId} {fuel : Nat} {A : Option Addr} {n c : Nat} {x : DataW H × List MemPlace} (ht : P.underlying t = some (.slice e)) (he : P.underlying e = some (.int .u8)) (hc : P.cellsOf e = 1)
    (h : DataW.trod enc P w base spare held fuel t [.slice A n c] = some x) : n ≤ maxLen ∧ ∃ xs, SlY w A n xs := by
  obtain ⟨els, h1, h2, h3, h4⟩ := open_sl ht (by omega) h
  obtain ⟨rs, rfl⟩ := els_of (fun x : By => [yv x]) els (by
    intro cs hcs
    obtain ⟨_, m, y, hy⟩ := h4 cs hcs
    obtain ⟨z, rfl, _, hz⟩ := DataW.trod_int he hy
    obtain ⟨b, rfl⟩ := byOf_wf hz
    exact ⟨b, rfl⟩)
  refine ⟨h2, rs, ?_, by simpa using h1⟩
  rw [hc] at h3
  rw [flatten_single] at h3
  exact h3
end
theorem Own.baseO {w w1 w2 : World} {E : TypeId} {s n : Nat} {v : Value} {xs : List Value} (h : Own w1 w2 E s v n xs) (k : Kept w w1) : Own w w2 E s v n xs := by
  refine ⟨⟨h.1.1, ?_⟩, k.trans h.2⟩
  rcases h.1.2 with hn | ⟨g, cap, cur, e, hb, rest⟩
  · exact .inl hn
  · exact .inr ⟨g, cap, cur, e, Nat.le_trans k.size hb, rest⟩
end Go.Proofs.Ytodkpojmonikiaa
