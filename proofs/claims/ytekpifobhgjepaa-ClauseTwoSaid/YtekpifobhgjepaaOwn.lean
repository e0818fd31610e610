/- Slices that the call itself makes by append: one law for 'l = append(l, x)', over any program. -/
import Derived.Test.YtekpifobhgjepaaSl
import Derived.OwnWalk
import Derived.Maps.AppendAt
import Derived.Lib.SmallJoins
namespace Go.Proofs.Ytekpifobhgjepaa
open Go Go.RowKit

/-- The slice value v (n elements of s cells) is the call's own, made since w0, and reads as xs; what was there at w0 is as it was. -/
def Own (w0 w : World) (E : TypeId) (s : Nat) (v : Value) (n : Nat) (xs : List Value) : Prop := w.ownsRow w0.heap.size E s v n xs ∧ Kept w0 w
section
variable {w0 w w' : World} {E : TypeId} {s n : Nat} {v : Value} {xs : List Value}
theorem Own.kept0 (h : Own w0 w E s v n xs) : Kept w0 w := h.2
theorem Own.start (h : Kept w0 w) : Own w0 w E s (.slice none 0 0) 0 [] := ⟨⟨by simp, .inl ⟨rfl, rfl⟩⟩, h⟩
theorem Own.alloc (h : Own w0 w E s v n xs) (o : Obj) : Own w0 (w.alloc o) E s v n xs := ⟨World.ownsRow.alloc h.1 o, h.2.alloc o⟩
theorem Own.kept (h : Own w0 w E s v n xs) (hk : Kept w w') : Own w0 w' E s v n xs := by
  refine ⟨⟨h.1.1, ?_⟩, h.2.trans hk⟩
  rcases h.1.2 with hn | ⟨g, cap, cur, rfl, hb, hgg, rest⟩
  · exact .inl hn
  · have hlt : g < w.heap.size := (World.ownsRow.lt h.1 g rfl).2
    exact .inr ⟨g, cap, cur, rfl, hb, (hk.block g hlt).trans hgg, rest⟩
theorem Own.drew (h : Own w0 w E s v n xs) : Own w0 w.drew E s v n xs := h.kept (Kept.refl _).drew
/-- the value, written out -/
theorem Own.form (h : Own w0 w E s v n xs) : ∃ A c, v = .slice A n c ∧ Sl w s A n xs ∧ n ≤ c := by
  rcases h.1.2 with ⟨rfl, hn⟩ | ⟨g, cap, cur, rfl, _⟩
  · subst hn
    have : xs = [] := List.eq_nil_of_length_eq_zero (by simpa using h.1.1)
    subst this
    exact ⟨none, 0, rfl, Sl.nil_ _ _ _, Nat.le_refl _⟩
  · rename_i hr
    exact ⟨_, cap, rfl, Sl.of_own h.1, hr.2.2.1⟩
end

section
variable {P : Program}
/-- 'l = append(l, x)': the new element lies in the block that was just made. -/
theorem wpList_push {ops : Array Oper} {rest : List Oper} {o : Oper} {a : Act} {Q : Exit → Act → World → Prop} {w0 : World} (hgd : o.guard = none) (s x : Operand) (t : TypeId)
    (ho : o.op = .call { callee := .builtin .append, args := #[s, x], argTypes := #[t, t] })
    (e : TypeId) {z : Value} {size bytes : Nat} (ht : P.underlying t = some (.slice e)) (hi : (P.info? e).map (fun i => (i.zero, i.size, i.bytes)) = some (some z, size, bytes))
    (hzs : z.cells.size = size) (hsz : 0 < size) (hb1 : bytes ≤ 1000)
    (wr : World) (v : Value) (n : Nat) (xs : List Value) (hown : Own w0 wr e size v n xs) (cs : Array Value) (t' : TypeId) (B m c : Nat)
    (hs : a.eval s = v) (hx : a.eval x = .slice (some ⟨B, 0, none⟩) m c) (hB : wr.heap.size = B) (hl : cs.size = m * size) (h1 : ∀ u ∈ cs.toList, u.oneCell' = true) (hn : n + m ≤ 1000000)
    (h : ∀ v' w', Own w0 w' e size v' (n + m) (xs ++ cs.toList) → (wr.alloc (.cells cs t')).grownBy w' v.ownBlock → wpList P ops Q rest (a.put o.dst v') w') : wpList P ops Q (o :: rest) a (wr.alloc (.cells cs t')) := by
  obtain ⟨i, hi0, hz, hsize, hby⟩ := info_parts hi
  subst hB
  refine wpList_append_own _ hgd s x t ho w0.heap.size e i z size bytes ht hi0 hz hsize hby hzs hsz v n xs hs (World.ownsRow.alloc hown.1 _) ⟨wr.heap.size, 0, none⟩ m c cs.toList hx (by simpa using hl) ?_ h1
    (by unfold maxLen; omega) ?_ (Nat.le_trans hown.2.size (by simp)) ?_
  · intro j u hu
    have hc := (Sl.new wr cs t' size m hl).2
    have hadd : (⟨wr.heap.size, 0, none⟩ : Addr).add j = ⟨wr.heap.size, j, none⟩ := by
      unfold Addr.add
      split
      · rename_i h0; subst h0; rfl
      · simp
    rw [hadd, cell_of_row _ _ _ cs t' (0, 0) (heap_alloc_new wr _)]
    simpa using hu
  · calc (n + m) * bytes ≤ 1000000 * 1000 := Nat.mul_le_mul hn hb1
      _ ≤ 140737488355328 := by omega
  · intro v' w' hown' hg _
    refine h v' w' ⟨hown', Below.grown (hown.2.alloc _) hg (Nat.le_trans hown.2.size (by simp)) fun k hk => (World.ownsRow.lt hown.1 k hk).1⟩ hg
/-- 'l = append(l, x)' at a step of a region that draws its order -/
theorem step_push {ops : Array Oper} {o : Oper} {a : Act} {K : Act → World → Prop} {Q : Exit → Act → World → Prop} {F : Prop} {w0 : World} (hgd : o.guard = none) (s x : Operand) (t : TypeId)
    (ho : o.op = .call { callee := .builtin .append, args := #[s, x], argTypes := #[t, t] })
    (e : TypeId) {z : Value} {size bytes : Nat} (ht : P.underlying t = some (.slice e)) (hi : (P.info? e).map (fun i => (i.zero, i.size, i.bytes)) = some (some z, size, bytes))
    (hzs : z.cells.size = size) (hsz : 0 < size) (hb1 : bytes ≤ 1000)
    (W : World) (v : Value) (n : Nat) (xs : List Value) (hown : Own w0 W e size v n xs) (cs : Array Value) (t' : TypeId) (fr : Nat × Nat) (B m c : Nat) (hh : W.heap[B]? = some (.cells cs t' fr))
    (hs : a.eval s = v) (hx : a.eval x = .slice (some ⟨B, 0, none⟩) m c) (hl : cs.size = m * size) (h1 : ∀ u ∈ cs.toList, u.oneCell' = true) (hn : n + m ≤ 1000000)
    (h : ∀ v' w', Own w0 w' e size v' (n + m) (xs ++ cs.toList) → W.grownBy w' v.ownBlock → K (a.put o.dst v') w') :
    if Region.wanted o (yielded ops a.tmps) = true then Oper.wp P o a W K Q else F := by
  have hw : Region.wanted o (yielded ops a.tmps) = true := by simp [Region.wanted, hgd]
  rw [if_pos hw]
  obtain ⟨i, hi0, hz, hsize, hby⟩ := info_parts hi
  have hbytes : (n + m) * bytes ≤ 140737488355328 := by
    calc (n + m) * bytes ≤ 1000000 * 1000 := Nat.mul_le_mul hn hb1
      _ ≤ 140737488355328 := by omega
  refine wp_append_own W s x t ho w0.heap.size e i z size bytes ht hi0 hz hsize hby hzs hsz v n xs hs hown.1 ⟨B, 0, none⟩ m c cs.toList hx (by simpa using hl)
    (World.news_of_block hh) h1 (by unfold maxLen; omega) hbytes hown.2.size ?_
  intro v' w' hown' hg _
  exact h v' w' ⟨hown', Below.grown hown.2 hg hown.2.size fun k hk => (World.ownsRow.lt hown.1 k hk).1⟩ hg
/-- nothing is appended -/
theorem run_append_of_nil (w : World) (base : Nat) (t ty e : TypeId) (i : TypeInfo) (size : Nat) (ht : P.underlying t = some (.slice e)) (hi : P.info? e = some i)
    (v : Value) (n : Nat) (xs : List Value) (hown : w.ownsRow base e size v n xs) (c : Nat) : (Builtin.append_ #[t, t] ty #[v, .slice none 0 c]).run P w = .ok v w := by
  rcases hown.2 with ⟨rfl, rfl⟩ | ⟨g, cap, cur, rfl, _, _, hnc, _⟩
  · simp [Builtin.append_, run_underlying ht, sizeOf, typeInfo, hi, Builtin.lenOf, Builtin.firstCells]
  · simp [Builtin.append_, run_underlying ht, sizeOf, typeInfo, hi, Builtin.lenOf, Builtin.firstCells, hnc, storeCells]
/-- 'l = append(l, xs...)': xs any slice that reads as a list -/
theorem wpList_pushAll {ops : Array Oper} {rest : List Oper} {o : Oper} {a : Act} {Q : Exit → Act → World → Prop} {w0 : World} (hgd : o.guard = none) (s x : Operand) (t : TypeId)
    (ho : o.op = .call { callee := .builtin .append, args := #[s, x], argTypes := #[t, t] })
    (e : TypeId) {z : Value} {size bytes : Nat} (ht : P.underlying t = some (.slice e)) (hi : (P.info? e).map (fun i => (i.zero, i.size, i.bytes)) = some (some z, size, bytes))
    (hzs : z.cells.size = size) (hsz : 0 < size) (hb1 : bytes ≤ 1000)
    (wr : World) (v : Value) (n : Nat) (xs : List Value) (hown : Own w0 wr e size v n xs) (A : Option Addr) (m c : Nat) (news : List Value) (hsl : Sl wr size A m news)
    (hs : a.eval s = v) (hx : a.eval x = .slice A m c) (h1 : ∀ u ∈ news, u.oneCell' = true) (L : Nat) (hL : n + m = L) (hn : L ≤ 1000000)
    (h : ∀ v' w', Own w0 w' e size v' L (xs ++ news) → wpList P ops Q rest (a.put o.dst v') w') : wpList P ops Q (o :: rest) a wr := by
  obtain ⟨i, hi0, hz, hsize, hby⟩ := info_parts hi
  subst hL
  by_cases hm : m = 0
  · subst hm
    have hnews : news = [] := List.eq_nil_of_length_eq_zero (by simpa using hsl.1)
    subst hnews
    rcases A with _ | ad
    · refine wpList_plain hgd fun K hK => ?_
      have hrun := run_append_of_nil (P := P) wr w0.heap.size t o.type e i size ht hi0 v n xs hown.1 c
      unfold Oper.wp
      simp [execOp, ho, resolve, invoke, builtin, hs, hx, hrun, Result.andThen]
      exact hK _ _ (h v wr (by simpa using hown))
    · refine wpList_append_own _ hgd s x t ho w0.heap.size e i z size bytes ht hi0 hz hsize hby hzs hsz v n xs hs hown.1 ad 0 c [] hx (by simp) (by simp) (by simp)
        (by unfold maxLen; omega) ?_ hown.2.size ?_
      · calc (n + 0) * bytes ≤ 1000000 * 1000 := Nat.mul_le_mul hn hb1
          _ ≤ 140737488355328 := by omega
      · intro v' w' hown' hg _
        exact h v' w' ⟨hown', Below.grown hown.2 hg hown.2.size fun k hk => (World.ownsRow.lt hown.1 k hk).1⟩
  · obtain ⟨b, off, rfl, hb, hc⟩ := hsl.2 (by omega)
    refine wpList_append_own _ hgd s x t ho w0.heap.size e i z size bytes ht hi0 hz hsize hby hzs hsz v n xs hs hown.1 ⟨b, off, none⟩ m c news hx hsl.1 ?_ h1
      (by unfold maxLen; omega) ?_ hown.2.size ?_
    · intro j u hu
      have := hc j u hu
      unfold Addr.add
      split
      · rename_i h0; subst h0; simpa using this
      · simpa using this
    · calc (n + m) * bytes ≤ 1000000 * 1000 := Nat.mul_le_mul hn hb1
        _ ≤ 140737488355328 := by omega
    · intro v' w' hown' hg _
      exact h v' w' ⟨hown', Below.grown hown.2 hg hown.2.size fun k hk => (World.ownsRow.lt hown.1 k hk).1⟩
/-- an empty row that was just made -/
theorem Own.empty {w0 w : World} (h : Kept w0 w) (e : TypeId) (s B : Nat) (hB : w.heap.size = B) : Own w0 (w.alloc (.cells #[] e)) e s (.slice (some ⟨B, 0, none⟩) 0 0) 0 [] := by
  subst hB
  refine ⟨⟨by simp, .inr ⟨w.heap.size, 0, #[], rfl, h.size, heap_alloc_new w _, Nat.le_refl _, Nat.zero_le _, by simp, by simp⟩⟩, h.alloc _⟩
/-- a row that was just made -/
theorem Own.made {w0 w : World} (h : Kept w0 w) (e : TypeId) (cs : Array Value) (s n B : Nat) (hB : w.heap.size = B) (hl : cs.size = n * s) (hm : n ≤ maxLen) : Own w0 (w.alloc (.cells cs e)) e s (.slice (some ⟨B, 0, none⟩) n n) n cs.toList := by
  subst hB
  refine ⟨⟨by simpa using hl, .inr ⟨w.heap.size, n, cs, rfl, h.size, heap_alloc_new w _, Nat.le_refl _, hm, hl, List.take_of_length_le (by simpa using Nat.le_of_eq hl)⟩⟩, h.alloc _⟩
theorem one_words (xs : List (BitVec 32)) : ∀ u ∈ xs.map wv, u.oneCell' = true := fun u hu => by
  obtain ⟨x, _, rfl⟩ := List.mem_map.1 hu
  rfl
theorem one_bools (xs : List Bool) : ∀ u ∈ xs.map bv, u.oneCell' = true := fun u hu => by
  obtain ⟨x, _, rfl⟩ := List.mem_map.1 hu
  rfl
theorem one_ints (xs : List Int) : ∀ u ∈ xs.map iv, u.oneCell' = true := fun u hu => by
  obtain ⟨x, _, rfl⟩ := List.mem_map.1 hu
  rfl
end

/-! ### the words of n things, one by one -/
def words (n : Nat) : List (BitVec 32) := (List.range (2 ^ n)).map (BitVec.ofNat 32)
theorem words_length (n : Nat) : (words n).length = 2 ^ n := by simp [words]
theorem pow_le (n : Nat) (h : n ≤ 6) : 2 ^ n ≤ 64 := Nat.le_trans (Nat.pow_le_pow_right (by omega) h) (by omega)
theorem pow_lt32 (n : Nat) (h : n < 32) : 2 ^ n < 4294967296 := Nat.pow_lt_pow_right (by omega) h
theorem pow_le8 (n : Nat) (h : n ≤ 8) : 2 ^ n ≤ 256 := Nat.le_trans (Nat.pow_le_pow_right (by omega) h) (by omega)
theorem ofNat_toNat (k n : Nat) (hn : n < 32) (hk : k ≤ 2 ^ n) : (BitVec.ofNat 32 k).toNat = k := by
  rw [BitVec.toNat_ofNat]
  have := pow_lt32 n hn
  exact Nat.mod_eq_of_lt (by omega)
theorem one_shl_toNat (n : Nat) (hn : n < 32) : (1#32 <<< n).toNat = 2 ^ n := by
  rw [BitVec.toNat_shiftLeft, Nat.shiftLeft_eq, show (1#32).toNat = 1 from rfl, Nat.one_mul]
  exact Nat.mod_eq_of_lt (pow_lt32 n hn)
/-- the test of 'for s := range uint32(1) << n', at s = k -/
theorem word_lt {k n : Nat} (hn : n < 32) (hk : k ≤ 2 ^ n) : (BitVec.ofNat 32 k < 1#32 <<< n) = (k < 2 ^ n) := by
  rw [BitVec.lt_def, ofNat_toNat k n hn hk, one_shl_toNat n hn]
theorem word_yes {k n : Nat} (hn : n < 32) (hk : k < 2 ^ n) : decide (BitVec.ofNat 32 k < 1#32 <<< n) = true := by
  rw [decide_eq_true_eq, word_lt hn (by omega)]
  exact hk
theorem word_no {k n : Nat} (hn : n < 32) (hk : k = 2 ^ n) : decide (BitVec.ofNat 32 k < 1#32 <<< n) = false := by
  rw [decide_eq_false_iff_not, word_lt hn (by omega)]
  omega
theorem word_succ (k : Nat) : BitVec.ofNat 32 k + 1#32 = BitVec.ofNat 32 (k + 1) := by
  apply BitVec.eq_of_toNat_eq
  simp
theorem word_meas {k n : Nat} (hn : n < 32) (hk : k < 2 ^ n) : 2 ^ n - (W (BitVec.ofNat 32 (k + 1))).toNat < 2 ^ n - (W (BitVec.ofNat 32 k)).toNat := by
  unfold W
  rw [Int.toNat_natCast, Int.toNat_natCast, ofNat_toNat k n hn (by omega), ofNat_toNat (k + 1) n hn (by omega)]
  omega
theorem one_u32 (x : Int) : ∀ u ∈ (#[Value.int .u32 x] : Array Value).toList, u.oneCell' = true := fun u hu => by simp at hu; subst hu; rfl
theorem one_i64 (x : Int) : ∀ u ∈ (#[Value.int .i64 x] : Array Value).toList, u.oneCell' = true := fun u hu => by simp at hu; subst hu; rfl
theorem one_bool (x : Bool) : ∀ u ∈ (#[Value.bool x] : Array Value).toList, u.oneCell' = true := fun u hu => by simp at hu; subst hu; rfl
theorem words_at {n k : Nat} (h : k < (words n).length) : (words n)[k] = BitVec.ofNat 32 k := by simp [words]
theorem mem_words {n : Nat} (hn : n < 32) (s : BitVec 32) : s ∈ words n ↔ fitB n s = true := by
  rw [fitB_lt hn, decide_eq_true_eq, BitVec.lt_def, one_shl_toNat n hn]
  unfold words
  rw [List.mem_map]
  constructor
  · rintro ⟨k, hk, rfl⟩
    rw [List.mem_range] at hk
    rw [ofNat_toNat k n hn (by omega)]
    exact hk
  · intro h
    exact ⟨s.toNat, by simpa using h, by simp⟩
theorem filter_snoc {α : Type} (p : α → Bool) (l : List α) (k : Nat) (h : k < l.length) : (l.take (k + 1)).filter p = (l.take k).filter p ++ (if p l[k] then [l[k]] else []) := by
  rw [take_snoc l k h, List.filter_append]
  congr 1
  rw [List.filter_cons, List.filter_nil]
theorem len_filter_le {α : Type} (p : α → Bool) (l : List α) (k : Nat) : ((l.take k).filter p).length ≤ k :=
  Nat.le_trans (List.length_filter_le _ _) (by rw [List.length_take]; omega)

/-- the post of a call that hands back a new slice of words, and a second value -/
def RetWords (w : World) (xs : List (BitVec 32)) (e : Ending) (w' : World) : Prop :=
  ∃ A c, e = .returned (.tuple #[.slice A xs.length c, .int .i64 0]) ∧ SlW w' A xs.length xs ∧ xs.length ≤ c ∧ Kept w w'
theorem RetWords.mk {w w' : World} {E : TypeId} {v : Value} {n : Nat} {xs : List (BitVec 32)} (h : Own w w' E 1 v n (xs.map wv)) : RetWords w xs (.returned (.tuple #[v, .int .i64 0])) w' := by
  have hn : n = xs.length := by have := h.1.1; simpa using this.symm
  obtain ⟨A, c, rfl, hs, hc⟩ := h.form
  subst hn
  exact ⟨A, c, rfl, ⟨hs, rfl⟩, hc, h.2⟩
end Go.Proofs.Ytekpifobhgjepaa
