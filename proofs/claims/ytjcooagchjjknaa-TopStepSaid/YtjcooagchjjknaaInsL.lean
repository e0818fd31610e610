/- slices.Insert at leaves: one leaf, at any place; slices.Clone at leaves. -/
import Derived.Test.YtjcooagchjjknaaPlace
import Derived.Test.YtjcooagchjjknaaHold
import Derived.Test.YtjcooagchjjknaaPushAll
import Derived.Lib.Overlaps
import Derived.Lib.AppendZerosOnto
import Derived.Lib.SliceRun
import Derived.Lib.JoinLaws
import Derived.Laws.Externs
import Derived.Laws.IdiomCopy
import Derived.Laws.NewBlocks
import Derived.Deep.RegionLaw
namespace Go.Proofs.Ytjcooagchjjknaa
open Go Go.RowKit Go.Lib
set_option linter.unusedVariables false

section
variable {P : Program}
theorem wpL_copy_run (w : World) {ops : Array Oper} {rest : List Oper} {o : Oper} {a : Act} {Q : Exit → Act → World → Prop} (hgd : o.guard = none) (d s : Operand) (t t' : TypeId)
    (ho : o.op = .call { callee := .builtin .copy, args := #[d, s], argTypes := #[t, t'] }) (v u : Value) (hd : a.eval d = v) (hs : a.eval s = u) {v' : Value} {w' : World}
    (hr : (Builtin.copy_ #[t, t'] o.type #[v, u]).run P w = .ok v' w') (h : wpList P ops Q rest (a.put o.dst v') w') : wpList P ops Q (o :: rest) a w :=
  wpList_plain hgd fun _ hK => by
    unfold Oper.wp execOp
    simp only [ho, resolve, invoke, builtin, Sem.run_bind, Sem.run_pure, Result.andThen_ok, List.map_toArray, List.map_cons, List.map_nil, hd, hs, hr]
    exact hK _ _ h
theorem stepL_copy_run {ops : Array Oper} {o : Oper} {a : Act} {w : World} {K : Act → World → Prop} {Q : Exit → Act → World → Prop} {E : Prop}
    (hg : o.guard = none) (d x : Operand) (dT sT : TypeId) (hop : o.op = Op.call { callee := Callee.builtin Builtin.copy, args := #[d, x], argTypes := #[dT, sT] })
    (v u : Value) (hd : a.eval d = v) (hx : a.eval x = u) {v' : Value} {w' : World} (hr : (Builtin.copy_ #[dT, sT] o.type #[v, u]).run P w = .ok v' w') (hK : K (a.put o.dst v') w') :
    if Region.wanted o (yielded ops a.tmps) = true then Oper.wp P o a w K Q else E := by
  have hw : Region.wanted o (yielded ops a.tmps) = true := by simp [Region.wanted, hg]
  rw [if_pos hw]
  unfold Oper.wp
  simp [execOp, hop, resolve, invoke, builtin, hd, hx, hr, Result.andThen]
  exact hK
/-- 'copy' at elements of k cells each -/
theorem run_copyK (w : World) (dT sT ty elem : TypeId) (b o dLen dCap : Nat) (a : Addr) (sLen sCap k : Nat) (cs : List Value)
    (hu : P.underlying dT = some (.slice elem)) (hs : (P.info? elem).map (·.size) = some k) (hn : cs.length = Nat.min sLen dLen * k)
    (hsrc : ∀ j v, cs[j]? = some v → w.cell? (a.add j) = some v) (hc : ∀ j, j < cs.length → (w.cell? ⟨b, o + j, none⟩).isSome = true) (hf : ∀ j, j < cs.length → w.frozen? ⟨b, o + j, none⟩ = false) (h1 : ∀ v ∈ cs, v.oneCell' = true) :
    (Builtin.copy_ #[dT, sT] ty #[.slice (some ⟨b, o, none⟩) dLen dCap, .slice (some a) sLen sCap]).run P w = .ok (goInt (Nat.min sLen dLen)) (w.setCells b o cs) := by
  have hl := run_loadCells_list (P := P) w a cs hsrc
  have hst := run_storeCells_cells (P := P) b o cs 0 w (by simpa using hc) (by simpa using hf) h1
  cases hq : P.info? elem with
  | none => simp [hq] at hs
  | some i =>
    have hi : i.size = k := by simpa [hq] using hs
    simp [Builtin.copy_, run_underlying hu, Builtin.lenOf, Builtin.firstCells, sizeOf, typeInfo, hq, hi, ← hn, hl, hst]
end
/-! ### a block behind stores one behind the other -/
theorem heap_setCells {g : Nat} {e : TypeId} : ∀ (vs : List Value) (o : Nat) (w : World) (cur : Array Value), w.heap[g]? = some (.cells cur e (0, 0)) →
    ∃ cur2 : Array Value, (w.setCells g o vs).heap[g]? = some (.cells cur2 e (0, 0)) ∧ cur2.size = cur.size ∧ ∀ j, cur2[j]? = if o ≤ j ∧ j < o + vs.length ∧ j < cur.size then vs[j - o]? else cur[j]?
  | [], o, w, cur, h => ⟨cur, h, rfl, fun j => by rw [if_neg (by simp; omega)]⟩
  | v :: r, o, w, cur, h => by
    have h2 : (w.setCell ⟨g, o, none⟩ v).heap[g]? = some (.cells (cur.setIfInBounds o v) e (0, 0)) := by simp [World.setCell, Array.getElem?_modify, h]
    obtain ⟨cur2, a1, a2, a3⟩ := heap_setCells r (o + 1) _ _ h2
    refine ⟨cur2, a1, by rw [a2]; simp, fun j => ?_⟩
    rw [a3 j, List.length_cons, Array.size_setIfInBounds]
    by_cases hj : j = o
    · subst hj
      rw [if_neg (by omega)]
      by_cases hlt : j < cur.size
      · rw [if_pos (by omega)]; simp [hlt]
      · rw [if_neg (by omega)]; simp [hlt]
    · have h3 : (cur.setIfInBounds o v)[j]? = cur[j]? := by rw [Array.getElem?_setIfInBounds, if_neg (fun h => hj h.symm)]
      rw [h3]
      by_cases hin : o + 1 ≤ j ∧ j < o + 1 + r.length ∧ j < cur.size
      · rw [if_pos hin, if_pos (by omega)]
        obtain ⟨d, rfl⟩ : ∃ d, j = o + 1 + d := ⟨j - (o + 1), by omega⟩
        rw [show o + 1 + d - (o + 1) = d by omega, show o + 1 + d - o = d + 1 by omega]
        rfl
      · rw [if_neg hin, if_neg (by omega)]
theorem heap_setCells_other {g k : Nat} (hne : k ≠ g) : ∀ (vs : List Value) (o : Nat) (w : World), (w.setCells g o vs).heap[k]? = w.heap[k]?
  | [], _, _ => rfl
  | v :: r, o, w => by
    show ((w.setCell ⟨g, o, none⟩ v).setCells g (o + 1) r).heap[k]? = _
    rw [heap_setCells_other hne r]
    exact heap_setCell_other w _ k v hne
/-- what stands where in the end -/
theorem ins_at {cs vs : List Value} {cur : Array Value} {n i : Nat} (hcl : cs.length = n * 4) (hvl : vs.length = 4) (hi : i ≤ n) (hc : (n + 1) * 4 ≤ cur.size) (hcur : ∀ j, j < n * 4 → cur[j]? = cs[j]?) (j : Nat) (hj : j < (n + 1) * 4) :
    (if i * 4 ≤ j ∧ j < i * 4 + vs.length ∧ j < cur.size then vs[j - i * 4]? else if (i + 1) * 4 ≤ j ∧ j < (i + 1) * 4 + (cs.drop (i * 4)).length ∧ j < cur.size then (cs.drop (i * 4))[j - (i + 1) * 4]? else cur[j]?) = (cs.take (i * 4) ++ vs ++ cs.drop (i * 4))[j]? := by
  have hdl : (cs.drop (i * 4)).length = (n - i) * 4 := by rw [List.length_drop, hcl]; omega
  have htl : (cs.take (i * 4)).length = i * 4 := by rw [List.length_take, hcl]; omega
  rw [hvl, hdl]
  by_cases h1 : j < i * 4
  · rw [if_neg (by omega), if_neg (by omega), hcur j (by omega), List.append_assoc, List.getElem?_append_left (by omega), List.getElem?_take, if_pos h1]
  · by_cases h2 : j < (i + 1) * 4
    · rw [if_pos (by omega), List.getElem?_append_left (by rw [List.length_append, htl, hvl]; omega), List.getElem?_append_right (by omega), htl]
    · rw [if_neg (by omega), if_pos (by omega), List.getElem?_append_right (by rw [List.length_append, htl, hvl]; omega), List.length_append, htl, hvl]
      congr 1
      omega
theorem ins_at2 {cs vs : List Value} {cur : Array Value} {n i : Nat} (hcl : cs.length = n * 4) (hvl : vs.length = 4) (hi : i ≤ n) (hc : (n + 1) * 4 ≤ cur.size) (hcur : ∀ j, j < i * 4 → cur[j]? = cs[j]?) (j : Nat) (hj : j < (n + 1) * 4) :
    (if (i + 1) * 4 ≤ j ∧ j < (i + 1) * 4 + (cs.drop (i * 4)).length ∧ j < cur.size then (cs.drop (i * 4))[j - (i + 1) * 4]? else if i * 4 ≤ j ∧ j < i * 4 + vs.length ∧ j < cur.size then vs[j - i * 4]? else cur[j]?) = (cs.take (i * 4) ++ vs ++ cs.drop (i * 4))[j]? := by
  have hdl : (cs.drop (i * 4)).length = (n - i) * 4 := by rw [List.length_drop, hcl]; omega
  have htl : (cs.take (i * 4)).length = i * 4 := by rw [List.length_take, hcl]; omega
  rw [hvl, hdl]
  by_cases h1 : j < i * 4
  · rw [if_neg (by omega), if_neg (by omega), hcur j h1, List.append_assoc, List.getElem?_append_left (by omega), List.getElem?_take, if_pos h1]
  · by_cases h2 : j < (i + 1) * 4
    · rw [if_neg (by omega), if_pos (by omega), List.getElem?_append_left (by rw [List.length_append, htl, hvl]; omega), List.getElem?_append_right (by omega), htl]
    · rw [if_pos (by omega), List.getElem?_append_right (by rw [List.length_append, htl, hvl]; omega), List.length_append, htl, hvl]
      congr 1
      omega
theorem zeroCells_size (z : Array Value) (n : Nat) : (Builtin.zeroCells z n).size = n * z.size := by simp [Builtin.zeroCells]
theorem kept_setCells {w0 : World} {g : Nat} (hg : w0.heap.size ≤ g) : ∀ (vs : List Value) (o : Nat) (w : World), Kept w0 w → Kept w0 (w.setCells g o vs)
  | [], _, _, h => h
  | v :: r, o, w, h => kept_setCells hg r (o + 1) _ (h.setCell (p := ⟨g, o, none⟩) hg v)
theorem Own.ofBlock {w0 w : World} {e : TypeId} {s g cap n : Nat} {cur : Array Value} {xs : List Value} (hk : Kept w0 w) (hg : w0.heap.size ≤ g) (hb : w.heap[g]? = some (.cells cur e (0, 0))) (hn : n ≤ cap) (hcap : cap ≤ maxLen) (hsz : cur.size = cap * s) (hl : xs.length = n * s)
    (hx : ∀ j, j < n * s → cur[j]? = xs[j]?) : Own w0 w e s (.slice (some ⟨g, 0, none⟩) n cap) n xs := by
  refine ⟨⟨hl, .inr ⟨g, cap, cur, rfl, hg, hb, hn, hcap, hsz, ?_⟩⟩, hk⟩
  apply List.ext_getElem?
  intro j
  rw [List.getElem?_take]
  by_cases hj : j < n * s
  · rw [if_pos hj, ← hx j hj]
    simp
  · rw [if_neg hj, List.getElem?_eq_none (by omega)]
/-! ### Clone -/
theorem lfCells_one (ls : List Lf) : ∀ u ∈ lfCells ls, u.oneCell' = true := by
  intro u hu
  unfold lfCells at hu
  obtain ⟨x, _, hx⟩ := List.mem_flatMap.1 hu
  unfold lfv at hx
  simp at hx
  rcases hx with rfl | rfl | rfl | rfl <;> rfl
theorem cloneLf_any (A : Option Addr) (n c : Nat) (ls : List Lf) (w : World) (hs : SlL w A n ls) (hn : n ≤ 1000) :
    Calls Try.prog 45 #[.slice A n c] w fun e w' => ∃ v, e = .returned v ∧ Own w w' 38 4 v n (lfCells ls) := by
  have hnil := fun W => Lib.run_eql_slice_nil (P := Try.prog) W 22 38 A n c 0 0 Try.underlying22
  rcases A with _ | ad
  · have h0 : n = 0 := by
      rcases Nat.eq_zero_or_pos n with h | h
      · exact h
      · obtain ⟨b, off, e, _⟩ := hs.1.2 (by omega)
        cases e
    subst h0
    have hx : ls = [] := List.eq_nil_of_length_eq_zero hs.2
    subst hx
    go_enter Try.func45, Try.ntmps45
    go_wp2_with fail
    go_ret
    exact ⟨_, rfl, Own.start (Kept.refl _)⟩
  · have hl := hs.2
    go_enter Try.func45, Try.ntmps45
    go_wp2_with (at_builtin; refine wpList_pushAll rfl _ _ 22 rfl 38 Try.underlying22 info_leaf rfl (by decide) (by decide) _ _ _ _ (Own.empty (Kept.refl w) 38 4 _ rfl) _ _ _ _ (hs.kept ((Kept.refl w).alloc _)).1 rfl rfl (lfCells_one _) n (by omega) (by omega) ?_; intro v' w3 hown3)
    go_ret
    refine ⟨_, rfl, ?_⟩
    simpa using hown3
/-! ### Insert -/
theorem insEnd_any {w0 : World} (v : Value) (n : Nat) (cs vs : List Value) (vb vc : Nat) (w : World) (ho : Own w0 w 38 4 v n cs) (hv : Sl w 4 (some ⟨vb, 0, none⟩) 1 vs) (h1 : ∀ u ∈ vs, u.oneCell' = true) (hn : n ≤ 1000) :
    Calls Try.prog 50 #[v, .int .i64 n, .slice (some ⟨vb, 0, none⟩) 1 vc] w fun e w' => ∃ v', e = .returned v' ∧ Own w0 w' 38 4 v' (n + 1) (cs ++ vs) := by
  have HO := Lib.hid ho
  rcases ho.1.2 with ⟨rfl, rfl⟩ | ⟨g, cap, cur, rfl, hg, hb, hnc, hcap, hsz, ht⟩
  · clear ho
    go_enter Try.func50, Try.ntmps50
    go_wp2_with (at_builtin; refine wpList_pushAll rfl _ _ 22 rfl 38 Try.underlying22 info_leaf rfl (by decide) (by decide) _ _ _ _ HO.out _ _ _ _ hv rfl rfl h1 1 (by omega) (by omega) ?_; intro v' w3 hown3)
    go_ret
    exact ⟨_, rfl, hown3⟩
  · unfold maxLen at hcap
    have i1 : (0 : Int) ≤ (n : Int) := by omega
    have i2 : (n : Int) ≤ (cap : Int) := by omega
    clear ho ht hb
    by_cases hcn : cap = n
    · subst hcn
      go_enter Try.func50, Try.ntmps50
      go_wp2_with (at_builtin; refine wpList_pushAll rfl _ _ 22 rfl 38 Try.underlying22 info_leaf rfl (by decide) (by decide) _ _ _ _ HO.out _ _ _ _ hv rfl rfl h1 (cap + 1) (by omega) (by omega) ?_; intro v' w3 hown3)
      go_ret
      exact ⟨_, rfl, hown3⟩
    · go_enter Try.func50, Try.ntmps50
      go_wp2_with (at_builtin; refine wpList_pushAll rfl _ _ 22 rfl 38 Try.underlying22 info_leaf rfl (by decide) (by decide) _ _ _ _ HO.out _ _ _ _ hv rfl rfl h1 (n + 1) (by omega) (by omega) ?_; intro v' w3 hown3)
      go_ret
      exact ⟨_, rfl, hown3⟩
set_option maxRecDepth 100000 in
set_option maxHeartbeats 8000000 in
theorem insMid_any {w0 : World} (v : Value) (n i : Nat) (cs vs : List Value) (vb vc : Nat) (w : World) (ho : Own w0 w 38 4 v n cs) (hv : Row w0 w vb 38 vs) (hvl : vs.length = 4) (hne : v.ownBlock ≠ some vb) (h1c : ∀ u ∈ cs, u.oneCell' = true) (h1 : ∀ u ∈ vs, u.oneCell' = true) (hi : i < n) (hn : n ≤ 1000) :
    Calls Try.prog 50 #[v, .int .i64 i, .slice (some ⟨vb, 0, none⟩) 1 vc] w fun e w' => ∃ v', e = .returned v' ∧ Own w0 w' 38 4 v' (n + 1) (cs.take (i * 4) ++ vs ++ cs.drop (i * 4)) := by
  rcases ho.1.2 with ⟨rfl, rfl⟩ | ⟨g, cap, cur, rfl, hg, hb, hnc, hcap, hsz, ht⟩
  · omega
  · have hcl := ho.1.1
    have hgv : vb ≠ g := fun e => hne (by rw [e]; rfl)
    obtain ⟨⟨vcur, hvb, hvt⟩, hvg, hk0⟩ := hv
    have hz2 : ¬ ((i : Int) = (n : Int)) := by omega
    have i0 : (0 : Int) ≤ (i : Int) := by omega
    have i2 : (i : Int) ≤ (n : Int) := by omega
    have hin : i ≤ n := by omega
    have hsz4 : (Try.prog.info? 38).map (·.size) = some 4 := by kernel_rfl
    by_cases hroom : n + 1 ≤ cap
    · have hov : ∀ lb cb, (callFunc 52 #[.slice (some ⟨vb, 0, none⟩) 1 vc, .slice (some ⟨g, (i + 1) * 4, none⟩) lb cb]).run Try.prog w = .ok (.value (.bool false)) w := by
        intro lb cb
        rw [run_callFunc_extern Try.func52 (by kernel_rfl) (by kernel_rfl) (by kernel_rfl) (e := Extern.SlicesOverlaps.overlaps #[22, 22] #[4]) (by kernel_rfl),
          Lib.run_overlaps_apart w 22 4 38 Try.underlying22 4 (fun _ => by kernel_rfl) ⟨vb, 0, none⟩ ⟨g, (i + 1) * 4, none⟩ 1 vc lb cb hgv 38 38 vcur.size cur.size (by unfold World.shape?; rw [hvb]) (by unfold World.shape?; rw [hb]) (by omega)
            (by unfold World.frozen?; simp only [hvb]; simp) (by unfold World.frozen?; simp only [hvb]; simp)]
        rfl
      have hcell : ∀ j, w.cell? ⟨g, j, none⟩ = cur[j]? := fun j => cell_of_row w g j cur _ (0, 0) hb
      have hcs : ∀ j u, cs[j]? = some u → cur[j]? = some u := fun j u hj => by
        rw [← ht, List.getElem?_take] at hj
        split at hj
        · simpa using hj
        · cases hj
      have hvs : ∀ j u, vs[j]? = some u → vcur[j]? = some u := fun j u hj => by
        rw [← hvt, List.getElem?_take] at hj
        split at hj
        · simpa using hj
        · cases hj
      have hfz : ∀ j, w.frozen? ⟨g, j, none⟩ = false := fun j => by unfold World.frozen?; simp only [hb]; simp
      have hdl : (cs.drop (i * 4)).length = (n - i) * 4 := by rw [List.length_drop, hcl]; omega
      have hmin : Nat.min (n + 1 - i) (n - i) = n - i := by simp only [Nat.min_def]; split <;> omega
      have hcp1 : ∀ ty dc sc, (Builtin.copy_ #[22, 22] ty #[.slice (some ⟨g, (i + 1) * 4, none⟩) (n - i) dc, .slice (some ⟨g, i * 4, none⟩) (n + 1 - i) sc]).run Try.prog w.drew = .ok (goInt (Nat.min (n + 1 - i) (n - i))) (w.drew.setCells g ((i + 1) * 4) (cs.drop (i * 4))) := fun ty dc sc =>
        run_copyK w.drew _ _ ty 38 g ((i + 1) * 4) (n - i) dc ⟨g, i * 4, none⟩ (n + 1 - i) sc 4 (cs.drop (i * 4)) Try.underlying22 hsz4 (by rw [hdl, hmin])
          (fun j v hj => by rw [Addr.add_lit]; exact (hcell (i * 4 + j)).trans (hcs (i * 4 + j) v (by rwa [List.getElem?_drop] at hj)))
          (fun j hj => by show (w.cell? _).isSome = true; rw [hcell, Array.getElem?_eq_getElem (by omega)]; rfl) (fun j hj => hfz _) (fun v hv => h1c v (List.mem_of_mem_drop hv))
      have hb0 : w.drew.heap[g]? = some (.cells cur 38 (0, 0)) := hb
      obtain ⟨cur1, hb1, hs1, hat1⟩ := heap_setCells (cs.drop (i * 4)) ((i + 1) * 4) w.drew cur hb0
      obtain ⟨W1, hW1⟩ : ∃ W1, W1 = w.drew.setCells g ((i + 1) * 4) (cs.drop (i * 4)) := ⟨_, rfl⟩
      rw [← hW1] at hcp1 hb1
      have hK1 : Kept w0 W1 := by rw [hW1]; exact kept_setCells hg _ _ _ hk0.drew
      have hvW : W1.heap[vb]? = some (.cells vcur 38 (0, 0)) := by rw [hW1, heap_setCells_other hgv]; exact hvb
      have hcell1 : ∀ j, W1.cell? ⟨g, j, none⟩ = cur1[j]? := fun j => cell_of_row W1 g j cur1 _ (0, 0) hb1
      have hfz1 : ∀ j, W1.frozen? ⟨g, j, none⟩ = false := fun j => by unfold World.frozen?; simp only [hb1]; simp
      have hmin2 : Nat.min 1 (n + 1 - i) = 1 := by simp only [Nat.min_def]; split <;> omega
      have hcp2 : ∀ ty dc, (Builtin.copy_ #[22, 22] ty #[.slice (some ⟨g, i * 4, none⟩) (n + 1 - i) dc, .slice (some ⟨vb, 0, none⟩) 1 vc]).run Try.prog W1 = .ok (goInt (Nat.min 1 (n + 1 - i))) (W1.setCells g (i * 4) vs) := fun ty dc =>
        run_copyK W1 _ _ ty 38 g (i * 4) (n + 1 - i) dc ⟨vb, 0, none⟩ 1 vc 4 vs Try.underlying22 hsz4 (by rw [hvl, hmin2])
          (fun j v hj => by rw [Addr.add_lit, Nat.zero_add]; exact (cell_of_row W1 vb j vcur _ (0, 0) hvW).trans (hvs j v hj))
          (fun j hj => by rw [hcell1, Array.getElem?_eq_getElem (by omega)]; rfl) (fun j hj => hfz1 _) h1
      obtain ⟨cur2, hb2, hs2, hat2⟩ := heap_setCells vs (i * 4) W1 cur1 hb1
      have HFIN := Lib.hid (show Own w0 (W1.setCells g (i * 4) vs) 38 4 (.slice (some ⟨g, 0, none⟩) (n + 1) cap) (n + 1) (cs.take (i * 4) ++ vs ++ cs.drop (i * 4)) by
        refine Own.ofBlock (kept_setCells hg _ _ _ hK1) hg hb2 hroom hcap (by rw [hs2, hs1, hsz]) (by simp [hvl, hcl]; omega) fun j hj => ?_
        rw [hat2, hat1, hs1]
        exact ins_at hcl hvl hin (by omega) (fun j hj => by rw [← ht, List.getElem?_take, if_pos hj]; simp) j hj)
      have hb3 : (i : Int) ≤ (n : Int) + 1 := by omega
      have hb5 : (i : Int) + 1 ≤ (n : Int) + 1 := by omega
      have hw1 : IntKind.i64.wrap ((i : Int) + 1) = (i : Int) + 1 := by rw [IntKind.wrap_i64]; omega
      have hb1' : (0 : Int) ≤ (i : Int) + 1 := by omega
      have htn : ((i : Int) + 1).toNat = i + 1 := by omega
      have hq1 : ¬ (cap = i + 1) := by omega
      have hq2 : ¬ (cap = i) := by omega
      clear hat2 hat1 hs2 hs1 hb2 hb1 hb0 hcell hcs hfz hdl hmin hcell1 hfz1 hmin2 hvW hW1 hK1
      go_enter Try.func50, Try.ntmps50
      go_wp2_with (simp only [hov])
      go_region_law ((refine stepL_copy_run rfl _ _ 22 22 rfl _ _ (by simp [Act.eval, Act.put]) (by simp [Act.eval, Act.put]) (hcp1 _ _ _) ?_))
      go_wp2_with (at_builtin; refine wpL_copy_run _ rfl _ _ 22 22 rfl _ _ rfl rfl (hcp2 _ _) ?_)
      go_ret
      exact ⟨_, rfl, HFIN.out⟩
    · have hroom' : cap < n + 1 := by omega
      obtain rfl : cap = n := by omega
      obtain ⟨i0', hi0, hz0, hzs, hzb⟩ := info_parts info_leaf
      have hcell : ∀ j, w.cell? ⟨g, j, none⟩ = cur[j]? := fun j => cell_of_row w g j cur _ (0, 0) hb
      have hcs : ∀ j u, cs[j]? = some u → cur[j]? = some u := fun j u hj => by
        rw [← ht, List.getElem?_take] at hj
        split at hj
        · simpa using hj
        · cases hj
      have hvs : ∀ j u, vs[j]? = some u → vcur[j]? = some u := fun j u hj => by
        rw [← hvt, List.getElem?_take] at hj
        split at hj
        · simpa using hj
        · cases hj
      have hgl : g < w.heap.size := by
        rcases Nat.lt_or_ge g w.heap.size with h | h
        · exact h
        · rw [Array.getElem?_eq_none h] at hb; cases hb
      have hvl2 : vb < w.heap.size := by
        rcases Nat.lt_or_ge vb w.heap.size with h | h
        · exact h
        · rw [Array.getElem?_eq_none h] at hvb; cases hvb
      have hold : (Builtin.firstCells i0'.size i (.slice (some ⟨g, 0, none⟩) i cap)).run Try.prog w.drew = .ok (cs.take (i * 4)).toArray w.drew := by
        rw [hzs]
        exact run_firstCells_some w.drew 4 i ⟨g, 0, none⟩ i cap (cs.take (i * 4)) (by rw [List.length_take, hcl]; omega) (fun j v hj => by
          rw [Addr.add_lit, Nat.zero_add]
          rw [List.getElem?_take] at hj
          split at hj
          · exact (hcell j).trans (hcs j v hj)
          · cases hj)
      have hik : i + (cap + 1 - i) = cap + 1 := by omega
      have hkk : (cap : Int) + 1 - (i : Int) = ((cap + 1 - i : Nat) : Int) := by omega
      obtain ⟨ZC, hZC⟩ : ∃ ZC : Array Value, (Value.agg #[.int .i64 0, .int .i64 0, .int .i64 0, .int .u32 0]).cells = ZC := ⟨_, rfl⟩
      have hZS : ZC.size = 4 := by rw [← hZC]; rfl
      have hrz : ∀ ty, (Builtin.append_ #[22, 3] ty #[.slice (some ⟨g, 0, none⟩) i cap, .int .i64 ((cap : Int) + 1 - (i : Int))]).run Try.prog w =
          .ok (.slice (some ⟨w.heap.size, 0, none⟩) (cap + 1) (grownCap w (cap + 1) cap 38)) (w.drew.alloc (.cells ((cs.take (i * 4)).toArray ++ Builtin.zeroCells ZC (cap + 1 - i) ++ Builtin.zeroCells ZC (grownCap w (cap + 1) cap 38 - (cap + 1))) 38)) := fun ty => by
        have h := Lib.run_append_grow_zeros w 22 3 ty 38 i0' _ .i64 .i64 Try.underlying22 Try.underlying3 hi0 hz0 (some ⟨g, 0, none⟩) i cap (cs.take (i * 4)) hold (cap + 1 - i) (by omega) (by omega) (by omega) (by omega) (by rw [hzb]; omega) (by rw [hzb, hik]; exact growslice_fits hroom' (by omega))
        rw [hik, hZC] at h
        rw [hkk]
        exact h
      obtain ⟨G, hG⟩ : ∃ G, G = grownCap w (cap + 1) cap 38 := ⟨_, rfl⟩
      obtain ⟨ROW, hROW⟩ : ∃ ROW : Array Value, ROW = (cs.take (i * 4)).toArray ++ Builtin.zeroCells ZC (cap + 1 - i) ++ Builtin.zeroCells ZC (G - (cap + 1)) := ⟨_, rfl⟩
      rw [← hG, ← hROW] at hrz
      have hGn : cap + 1 ≤ G := by rw [hG]; exact grownCap_ge w _ _ _
      have hGm : G ≤ maxLen := by rw [hG]; exact grownCap_le_maxLen w _ cap _ (by unfold maxLen; omega)
      have htl : (cs.take (i * 4)).length = i * 4 := by rw [List.length_take, hcl]; omega
      have hRl : ROW.size = G * 4 := by
        rw [hROW, Array.size_append, Array.size_append, zeroCells_size, zeroCells_size, hZS, List.size_toArray, htl]
        omega
      have hRat : ∀ j, j < i * 4 → ROW[j]? = cs[j]? := fun j hj => by
        rw [hROW, Array.append_assoc, Array.getElem?_append_left (by rw [List.size_toArray, htl]; exact hj), List.getElem?_toArray, List.getElem?_take, if_pos hj]
      obtain ⟨W1, hW1⟩ : ∃ W1, w.drew.alloc (.cells ROW 38) = W1 := ⟨_, rfl⟩
      rw [hW1] at hrz
      have k1 : Kept w W1 := by rw [← hW1]; exact (Kept.refl w).drew.alloc _
      have hK1 : Kept w0 W1 := hk0.trans k1
      obtain ⟨H, hH⟩ : ∃ H, w.heap.size = H := ⟨_, rfl⟩
      have hH0 : w0.heap.size ≤ H := by rw [← hH]; exact hk0.size
      have hb1 : W1.heap[H]? = some (.cells ROW 38 (0, 0)) := by rw [← hW1, ← hH]; exact heap_alloc_new w.drew _
      have hg1 : W1.heap[g]? = some (.cells cur 38 (0, 0)) := (k1.block g hgl).trans hb
      have hv1 : W1.heap[vb]? = some (.cells vcur 38 (0, 0)) := (k1.block vb hvl2).trans hvb
      have hgH : g ≠ H := by omega
      rw [hH] at hrz
      have hcellH : ∀ j, W1.cell? ⟨H, j, none⟩ = ROW[j]? := fun j => cell_of_row W1 H j ROW _ (0, 0) hb1
      have hfzH : ∀ j, W1.frozen? ⟨H, j, none⟩ = false := fun j => by unfold World.frozen?; simp only [hb1]; simp
      have hmin2 : Nat.min 1 (cap + 1 - i) = 1 := by simp only [Nat.min_def]; split <;> omega
      have hcpA : ∀ ty dc, (Builtin.copy_ #[22, 22] ty #[.slice (some ⟨H, i * 4, none⟩) (cap + 1 - i) dc, .slice (some ⟨vb, 0, none⟩) 1 vc]).run Try.prog W1 = .ok (goInt (Nat.min 1 (cap + 1 - i))) (W1.setCells H (i * 4) vs) := fun ty dc =>
        run_copyK W1 _ _ ty 38 H (i * 4) (cap + 1 - i) dc ⟨vb, 0, none⟩ 1 vc 4 vs Try.underlying22 hsz4 (by rw [hvl, hmin2])
          (fun j v hj => by rw [Addr.add_lit, Nat.zero_add]; exact (cell_of_row W1 vb j vcur _ (0, 0) hv1).trans (hvs j v hj))
          (fun j hj => by rw [hcellH, Array.getElem?_eq_getElem (by omega)]; rfl) (fun j hj => hfzH _) h1
      obtain ⟨cur2, hb2, hs2, hat2⟩ := heap_setCells vs (i * 4) W1 ROW hb1
      obtain ⟨W2, hW2⟩ : ∃ W2, W1.setCells H (i * 4) vs = W2 := ⟨_, rfl⟩
      have hg2 : W2.heap[g]? = some (.cells cur 38 (0, 0)) := by rw [← hW2, heap_setCells_other hgH]; exact hg1
      have hK2 : Kept w0 W2 := by rw [← hW2]; exact kept_setCells hH0 _ _ _ hK1
      rw [hW2] at hcpA hb2
      have hb3 : W2.drew.heap[H]? = some (.cells cur2 38 (0, 0)) := hb2
      have hcellH2 : ∀ j, W2.drew.cell? ⟨H, j, none⟩ = cur2[j]? := fun j => cell_of_row W2.drew H j cur2 _ (0, 0) hb3
      have hfzH2 : ∀ j, W2.drew.frozen? ⟨H, j, none⟩ = false := fun j => by unfold World.frozen?; simp only [hb3]; simp
      have hdl : (cs.drop (i * 4)).length = (cap - i) * 4 := by rw [List.length_drop, hcl]; omega
      have hmin3 : Nat.min (cap - i) (cap - i) = cap - i := by simp
      have hcpB : ∀ ty dc sc, (Builtin.copy_ #[22, 22] ty #[.slice (some ⟨H, (i + 1) * 4, none⟩) (cap - i) dc, .slice (some ⟨g, i * 4, none⟩) (cap - i) sc]).run Try.prog W2.drew = .ok (goInt (Nat.min (cap - i) (cap - i))) (W2.drew.setCells H ((i + 1) * 4) (cs.drop (i * 4))) := fun ty dc sc =>
        run_copyK W2.drew _ _ ty 38 H ((i + 1) * 4) (cap - i) dc ⟨g, i * 4, none⟩ (cap - i) sc 4 (cs.drop (i * 4)) Try.underlying22 hsz4 (by rw [hdl, hmin3])
          (fun j v hj => by rw [Addr.add_lit]; exact (cell_of_row W2.drew g (i * 4 + j) cur _ (0, 0) hg2).trans (hcs (i * 4 + j) v (by rwa [List.getElem?_drop] at hj)))
          (fun j hj => by rw [hcellH2, Array.getElem?_eq_getElem (by omega)]; rfl) (fun j hj => hfzH2 _) (fun v hv => h1c v (List.mem_of_mem_drop hv))
      obtain ⟨cur3, hb4, hs3, hat3⟩ := heap_setCells (cs.drop (i * 4)) ((i + 1) * 4) W2.drew cur2 hb3
      have HFIN := Lib.hid (show Own w0 (W2.drew.setCells H ((i + 1) * 4) (cs.drop (i * 4))) 38 4 (.slice (some ⟨H, 0, none⟩) (cap + 1) G) (cap + 1) (cs.take (i * 4) ++ vs ++ cs.drop (i * 4)) by
        refine Own.ofBlock (kept_setCells hH0 _ _ _ hK2.drew) hH0 hb4 hGn hGm (by rw [hs3, hs2, hRl]) (by simp [hvl, hcl]; omega) fun j hj => ?_
        rw [hat3, hat2, hs2]
        exact ins_at2 hcl hvl hin (by omega) hRat j hj)
      have hz3 : (cap : Int) < (cap : Int) + 1 := by omega
      have hw1 : IntKind.i64.wrap ((i : Int) + 1) = (i : Int) + 1 := by rw [IntKind.wrap_i64]; omega
      have hb1' : (0 : Int) ≤ (i : Int) + 1 := by omega
      have htn : ((i : Int) + 1).toNat = i + 1 := by omega
      have hq1 : ¬ (cap = i) := by omega
      have hq2 : ¬ (G = i) := by omega
      have hq3 : ¬ (G = i + 1) := by omega
      have hi5 : (i : Int) ≤ (cap : Int) + 1 := by omega
      have hi6 : (i : Int) + 1 ≤ (cap : Int) + 1 := by omega
      unfold maxLen at hGm hcap
      clear hat3 hat2 hs3 hs2 hb4 hb3 hb2 hcellH2 hfzH2 hcellH hfzH hg2 hg1 hv1 hb1 hcell hcs hvs hold hik hkk hZS hZC hRl hRat htl hW1 hW2 hK1 hK2 k1 hmin2 hmin3 hdl hROW hG
      go_enter Try.func50, Try.ntmps50
      go_wp2_with (first
        | (at_builtin; refine Lib.wpList_append_run _ rfl _ _ _ _ rfl _ _ rfl rfl _ _ (hrz _) ?_)
        | (at_builtin; refine wpL_copy_run _ rfl _ _ 22 22 rfl _ _ rfl rfl (hcpA _ _) ?_))
      go_region_law ((refine stepL_copy_run rfl _ _ 22 22 rfl _ _ (by simp [Act.eval, Act.put]) (by simp [Act.eval, Act.put]) (hcpB _ _ _) ?_))
      go_wp2_with fail
      go_ret
      exact ⟨_, rfl, HFIN.out⟩
end Go.Proofs.Ytjcooagchjjknaa
