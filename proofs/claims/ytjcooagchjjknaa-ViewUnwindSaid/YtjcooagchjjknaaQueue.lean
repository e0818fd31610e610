/- A slice of the call's own that is taken from at the front and appended to: a queue. Over any program. -/
import Derived.Test.YtjcooagchjjknaaHold
import Derived.Test.YtjcooagchjjknaaCopy
import Derived.Maps.AppendAt
namespace Go.Proofs.Ytjcooagchjjknaa
open Go Go.RowKit
set_option linter.unusedVariables false

/-! ### a block behind stores one behind the other -/
theorem heapQ_setCells {g : Nat} {e : TypeId} : ∀ (vs : List Value) (o : Nat) (w : World) (cur : Array Value), w.heap[g]? = some (.cells cur e (0, 0)) →
    ∃ cur2 : Array Value, (w.setCells g o vs).heap[g]? = some (.cells cur2 e (0, 0)) ∧ cur2.size = cur.size ∧ ∀ j, cur2[j]? = if o ≤ j ∧ j < o + vs.length ∧ j < cur.size then vs[j - o]? else cur[j]?
  | [], o, w, cur, h => ⟨cur, h, rfl, fun j => by rw [if_neg (by simp; omega)]⟩
  | v :: r, o, w, cur, h => by
    have h2 : (w.setCell ⟨g, o, none⟩ v).heap[g]? = some (.cells (cur.setIfInBounds o v) e (0, 0)) := by simp [World.setCell, Array.getElem?_modify, h]
    obtain ⟨cur2, a1, a2, a3⟩ := heapQ_setCells r (o + 1) _ _ h2
    refine ⟨cur2, a1, by rw [a2]; simp, fun j => ?_⟩
    rw [a3 j, List.length_cons, Array.size_setIfInBounds]
    by_cases hj : j = o
    · subst hj
      rw [if_neg (by omega)]
      by_cases hlt : j < cur.size
      · rw [if_pos (by omega)]; simp [hlt]
      · rw [if_neg (by omega)]; simp [hlt]
    · have h3 : (cur.setIfInBounds o v)[j]? = cur[j]? := by rw [Array.getElem?_setIfInBounds, if_neg (fun h => hj h.symm)]
      rw [h3]
      by_cases hin : o + 1 ≤ j ∧ j < o + 1 + r.length ∧ j < cur.size
      · rw [if_pos hin, if_pos (by omega)]
        obtain ⟨d, rfl⟩ : ∃ d, j = o + 1 + d := ⟨j - (o + 1), by omega⟩
        rw [show o + 1 + d - (o + 1) = d by omega, show o + 1 + d - o = d + 1 by omega]
        rfl
      · rw [if_neg hin, if_neg (by omega)]
theorem grown_setCells {g : Nat} : ∀ (vs : List Value) (o : Nat) (w : World), w.grownBy (w.setCells g o vs) (some g)
  | [], _, w => World.grownBy.refl w _
  | v :: r, o, w => (grown_set w ⟨g, o, none⟩ v).trans (grown_setCells r (o + 1) _)

/-- The slice value v (n elements of s cells) lies in a block of the call's own, made since w0, wherever it begins there, and reads as xs. -/
def Que (w0 w : World) (E : TypeId) (s : Nat) (v : Value) (n : Nat) (xs : List Value) : Prop :=
  Kept w0 w ∧ xs.length = n * s ∧ ∃ (g o c : Nat) (cur : Array Value), v = .slice (some ⟨g, o, none⟩) n c ∧ w0.heap.size ≤ g ∧ w.heap[g]? = some (.cells cur E (0, 0)) ∧ n ≤ c ∧ o + c * s ≤ cur.size ∧ c ≤ maxLen ∧ ∀ j, j < n * s → cur[o + j]? = xs[j]?
section
variable {w0 w w' : World} {E : TypeId} {s n : Nat} {v : Value} {xs : List Value}
theorem Que.kept0 (h : Que w0 w E s v n xs) : Kept w0 w := h.1
theorem Que.of_own {A : Option Addr} {c : Nat} (h : Own w0 w E s (.slice A n c) n xs) (hn : 0 < n) : Que w0 w E s (.slice A n c) n xs := by
  refine ⟨h.2, h.1.1, ?_⟩
  rcases h.1.2 with ⟨_, h0⟩ | ⟨g, cap, cur, hv, hb, hg, hnc, hcm, hcs, ht⟩
  · omega
  · injection hv with hA _ hc
    subst hA hc
    refine ⟨g, 0, c, cur, rfl, hb, hg, hnc, by omega, hcm, fun j hj => ?_⟩
    rw [Nat.zero_add, ← ht, List.getElem?_take, if_pos hj]
    simp
theorem Que.kept (h : Que w0 w E s v n xs) (k : Kept w w') : Que w0 w' E s v n xs := by
  obtain ⟨h1, h2, g, o, c, cur, e, hb, hg, rest⟩ := h
  have hlt : g < w.heap.size := (Array.getElem?_eq_some_iff.1 hg).1
  exact ⟨h1.trans k, h2, g, o, c, cur, e, hb, (k.block g hlt).trans hg, rest⟩
theorem Que.drew (h : Que w0 w E s v n xs) : Que w0 w.drew E s v n xs := h.kept (Kept.refl _).drew
theorem Que.block (h : Que w0 w E s v n xs) : ∃ g o c, v = .slice (some ⟨g, o, none⟩) n c ∧ w0.heap.size ≤ g ∧ g < w.heap.size := by
  obtain ⟨_, _, g, o, c, cur, e, hb, hg, _⟩ := h
  exact ⟨g, o, c, e, hb, (Array.getElem?_eq_some_iff.1 hg).1⟩
theorem Que.grown {row : Option Nat} {g o c : Nat} (h : Que w0 w E s (.slice (some ⟨g, o, none⟩) n c) n xs) (hg : w.grownBy w' row) (hne : some g ≠ row) (hrow : ∀ k, row = some k → w0.heap.size ≤ k) : Que w0 w' E s (.slice (some ⟨g, o, none⟩) n c) n xs := by
  obtain ⟨h1, h2, g', o', c', cur, e, hb, hgg, rest⟩ := h
  injection e with e1 _ e2
  injection e1 with e1
  injection e1 with e1 e3
  subst e1 e2 e3
  have hlt : g < w.heap.size := (Array.getElem?_eq_some_iff.1 hgg).1
  exact ⟨h1.grown hg hrow, h2, g, o, c, cur, rfl, hb, (hg.block g hlt hne).trans hgg, rest⟩
theorem Que.cell {g o c : Nat} (h : Que w0 w E s (.slice (some ⟨g, o, none⟩) n c) n xs) (j : Nat) {u : Value} (hu : xs[j]? = some u) : w.cell? ⟨g, o + j, none⟩ = some u := by
  obtain ⟨h1, h2, g', o', c', cur, e, hb, hgg, _, _, _, hc⟩ := h
  injection e with e1 _ e2
  injection e1 with e1
  injection e1 with e1 e3
  subst e1 e2 e3
  have hj : j < n * s := by
    rcases Nat.lt_or_ge j xs.length with hlt | hge
    · omega
    · rw [List.getElem?_eq_none hge] at hu; cases hu
  rw [cell_of_row w g (o + j) cur _ (0, 0) hgg, hc j hj]
  exact hu
/-- blocks of two types are two blocks -/
theorem Que.far {B o c : Nat} {e : TypeId} {ys : List Value} {g : Nat} (h : Que w0 w E s (.slice (some ⟨g, o, none⟩) n c) n xs) (k : Row w0 w B e ys) (hne : E ≠ e) : g ≠ B := by
  obtain ⟨h1, h2, g', o', c', cur, ee, hb, hgg, _⟩ := h
  injection ee with e1 _ e2
  injection e1 with e1
  injection e1 with e1 e3
  subst e1 e2 e3
  intro he
  subst he
  obtain ⟨cur2, h1, _⟩ := k.1
  rw [hgg] at h1
  injection h1 with h1
  injection h1 with _ h1
  exact hne h1
theorem Que.bound {g o c : Nat} (h : Que w0 w E s (.slice (some ⟨g, o, none⟩) n c) n xs) : n ≤ c ∧ c ≤ maxLen := by
  obtain ⟨h1, h2, g', o', c', cur, ee, hb, hgg, h3, _, h4, _⟩ := h
  injection ee with e1 _ e2
  subst e2
  exact ⟨h3, h4⟩
/-- behind 'q = q[1:]' -/
theorem Que.tail {g o c : Nat} (h : Que w0 w E s (.slice (some ⟨g, o, none⟩) (n + 1) c) (n + 1) xs) (hc : c ≠ 1) : Que w0 w E s (.slice (some ⟨g, o + s, none⟩) n (c - 1)) n (xs.drop s) := by
  obtain ⟨h1, h2, g', o', c', cur, e, hb, hgg, hnc, hsz, hcm, hx⟩ := h
  injection e with e1 _ e2
  injection e1 with e1
  injection e1 with e1 e3
  subst e1 e2 e3
  have hcs : (c - 1) * s + s = c * s := by
    obtain ⟨d, rfl⟩ : ∃ d, c = d + 1 := ⟨c - 1, by omega⟩
    simp [Nat.add_mul]
  refine ⟨h1, by rw [List.length_drop, h2, Nat.add_mul]; omega, g, o + s, c - 1, cur, rfl, hb, hgg, by omega, by omega, by omega, fun j hj => ?_⟩
  rw [List.getElem?_drop, Nat.add_assoc, hx (s + j) (by rw [Nat.add_mul]; omega)]
theorem Que.tail1 {g o : Nat} (h : Que w0 w E s (.slice (some ⟨g, o, none⟩) (n + 1) 1) (n + 1) xs) : Que w0 w E s (.slice (some ⟨g, o, none⟩) n 0) n (xs.drop s) := by
  obtain ⟨h1, h2, g', o', c', cur, e, hb, hgg, hnc, hsz, hcm, hx⟩ := h
  injection e with e1 _ e2
  injection e1 with e1
  injection e1 with e1 e3
  subst e1 e2 e3
  obtain rfl : n = 0 := by omega
  refine ⟨h1, by rw [List.length_drop, h2]; omega, g, o, 0, cur, rfl, hb, hgg, by omega, by omega, by unfold maxLen; omega, fun j hj => by omega⟩
end
/-- the block of a slice -/
def blkQ : Value → Option Nat
  | .slice (some a) _ _ => some a.block
  | _ => none
section
variable {P : Program}
theorem run_pushQ {w0 w : World} (t ty : TypeId) (e : TypeId) {z : Value} {size bytes : Nat} (ht : P.underlying t = some (.slice e)) (hi : (P.info? e).map (fun i => (i.zero, i.size, i.bytes)) = some (some z, size, bytes))
    (hzs : z.cells.size = size) (hsz : 0 < size) (hb1 : bytes ≤ 1000) (g o n c : Nat) (xs : List Value) (h : Que w0 w e size (.slice (some ⟨g, o, none⟩) n c) n xs)
    (ad : Addr) (cc : Nat) (news : List Value) (hl : news.length = size) (hnews : ∀ j u, news[j]? = some u → w.cell? (ad.add j) = some u) (h1 : ∀ u ∈ news, u.oneCell' = true) (hn : n + 1 ≤ 1000000) :
    ∃ v' w', (Builtin.append_ #[t, t] ty #[.slice (some ⟨g, o, none⟩) n c, .slice (some ad) 1 cc]).run P w = .ok v' w' ∧ Que w0 w' e size v' (n + 1) (xs ++ news) ∧ w.grownBy w' (some g) ∧ (blkQ v' = some g ∨ blkQ v' = some w.heap.size) := by
  obtain ⟨i, hi0, hz, hsize, hby⟩ := info_parts hi
  obtain ⟨hk, hxl, g', o', c', cur, ev, hb, hgg, hnc, hcs, hcm, hx⟩ := h
  injection ev with e1 _ e2
  injection e1 with e1
  injection e1 with e1 e3
  subst e1 e2 e3
  subst hsize
  have hbytes : (n + 1) * i.bytes ≤ 140737488355328 := by
    rw [hby]
    calc (n + 1) * bytes ≤ 1000000 * 1000 := Nat.mul_le_mul hn hb1
      _ ≤ 140737488355328 := by omega
  have hlen : (xs ++ news).length = (n + 1) * i.size := by rw [List.length_append, hxl, hl, Nat.add_mul, Nat.one_mul]
  have hcell : ∀ j, w.cell? ⟨g, j, none⟩ = cur[j]? := fun j => cell_of_row w g j cur _ (0, 0) hgg
  have hfz : ∀ j, w.frozen? ⟨g, j, none⟩ = false := fun j => by unfold World.frozen?; simp only [hgg]; simp
  by_cases hr : n + 1 ≤ c
  · have hfit : (n + 1) * i.size ≤ c * i.size := Nat.mul_le_mul_right _ hr
    have e4 : (n + 1) * i.size = n * i.size + i.size := by rw [Nat.add_mul, Nat.one_mul]
    have hrun := run_append_room_cells (P := P) w t ty e i ht hi0 g o n c ad 1 cc news (by rw [hl, Nat.one_mul]) hnews h1 hr
      (fun j hj => by rw [hcell, Array.getElem?_eq_getElem (by omega)]; rfl) (fun j hj => hfz _)
    obtain ⟨cur2, a1, a2, a3⟩ := heapQ_setCells news (o + n * i.size) w cur hgg
    have hgr := grown_setCells (g := g) news (o + n * i.size) w
    refine ⟨_, _, hrun, ⟨hk.grown hgr (fun k hk2 => by injection hk2 with hk2; omega), hlen, g, o, c, cur2, rfl, hb, a1, hr, by omega, hcm, fun j hj => ?_⟩, hgr, .inl rfl⟩
    rw [a3]
    by_cases hj2 : j < n * i.size
    · rw [if_neg (by omega), List.getElem?_append_left (by omega), hx j hj2]
    · rw [if_pos (by omega), List.getElem?_append_right (by omega), hxl]
      congr 1
      omega
  · have holds : ∀ j u, xs[j]? = some u → w.cell? ((⟨g, o, none⟩ : Addr).add j) = some u := fun j u hu => by
      have hj : j < n * i.size := by
        rcases Nat.lt_or_ge j xs.length with hlt | hge
        · omega
        · rw [List.getElem?_eq_none hge] at hu; cases hu
      rw [Addr.add_lit, hcell, hx j hj]
      exact hu
    have hrun := run_append_grow (P := P) w t ty e i z ht hi0 hz ⟨g, o, none⟩ n c xs hxl holds ad 1 cc news (by rw [hl, Nat.one_mul]) hnews (by omega) (by omega) (growslice_fits (by omega) hbytes)
    have hge := grownCap_ge w (n + 1) c e
    have hcm2 : grownCap w (n + 1) c e ≤ maxLen := grownCap_le_maxLen w (n + 1) c e (by unfold maxLen; omega)
    refine ⟨_, _, hrun, ⟨(hk.drew).alloc _, hlen, w.heap.size, 0, _, _, rfl, hk.size, heap_alloc_new w.drew _, hge, ?_, hcm2, fun j hj => ?_⟩, ⟨rfl, rfl, rfl, by simp, fun k hk _ => Go.heap_alloc_old w.drew _ hk⟩, .inr rfl⟩
    · simp only [Array.size_append, List.size_toArray, size_zeroCells, hzs, hxl, hl]
      have : grownCap w (n + 1) c e * i.size = (n + 1) * i.size + (grownCap w (n + 1) c e - (n + 1)) * i.size := by
        rw [← Nat.add_mul]; congr 1; omega
      rw [this, Nat.add_mul, Nat.one_mul]
      omega
    · rw [Nat.zero_add, Array.getElem?_append_left (by simp [hxl, hl]; rw [Nat.add_mul] at hj; omega)]
      simp
/-- 'q = append(q, x)' -/
theorem wpList_pushQ {ops : Array Oper} {rest : List Oper} {o : Oper} {a : Act} {Q : Exit → Act → World → Prop} {w0 w : World} (hgd : o.guard = none) (s x : Operand) (t : TypeId)
    (ho : o.op = .call { callee := .builtin .append, args := #[s, x], argTypes := #[t, t] })
    (e : TypeId) {z : Value} {size bytes : Nat} (ht : P.underlying t = some (.slice e)) (hi : (P.info? e).map (fun i => (i.zero, i.size, i.bytes)) = some (some z, size, bytes))
    (hzs : z.cells.size = size) (hsz : 0 < size) (hb1 : bytes ≤ 1000) (g og n c : Nat) (xs : List Value) (h : Que w0 w e size (.slice (some ⟨g, og, none⟩) n c) n xs)
    (hs : a.eval s = .slice (some ⟨g, og, none⟩) n c) (cs : Array Value) (t' : TypeId) (B cc : Nat) (hx : a.eval x = .slice (some ⟨B, 0, none⟩) 1 cc) (hB : w.heap.size = B) (hl : cs.size = size) (h1 : ∀ u ∈ cs.toList, u.oneCell' = true) (hn : n + 1 ≤ 1000000)
    (hK : ∀ v' w', Que w0 w' e size v' (n + 1) (xs ++ cs.toList) → (w.alloc (.cells cs t')).grownBy w' (some g) → (blkQ v' = some g ∨ blkQ v' = some (w.heap.size + 1)) → wpList P ops Q rest (a.put o.dst v') w') : wpList P ops Q (o :: rest) a (w.alloc (.cells cs t')) := by
  subst hB
  refine wpList_plain hgd fun K hK' => ?_
  obtain ⟨v', w', hrun, r1, r2, r3⟩ := run_pushQ (P := P) (w := w.alloc (.cells cs t')) t o.type e ht hi hzs hsz hb1 g og n c xs (h.kept ((Kept.refl _).alloc _)) ⟨w.heap.size, 0, none⟩ cc cs.toList (by simpa using hl)
    (fun j u hu => by
      rw [Addr.add_lit, Nat.zero_add, cell_of_row _ _ _ cs t' (0, 0) (heap_alloc_new w _)]
      simpa using hu) h1 hn
  unfold Oper.wp
  simp [execOp, ho, resolve, invoke, builtin, hs, hx, hrun, Result.andThen]
  exact hK' _ _ (hK v' w' r1 r2 (by simpa using r3))
end
end Go.Proofs.Ytjcooagchjjknaa
