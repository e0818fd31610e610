/- Words of acts as arguments: Run, ActsCheck, Leads, Purge. -/
import Derived.Test.YtodkpojmonikiaaView9
import Derived.Test.YtodkpojmonikiaaView5
namespace Go.Proofs.Ytodkpojmonikiaa
open Go Go.RowKit Go.ChangeShapes Go.WideShapes Go.ChangeAt Go.Deep
set_option linter.unusedVariables false
set_option linter.unusedSimpArgs false

theorem wpList_pushRV {P : Program} {ops : Array Oper} {rest : List Oper} {o : Oper} {a : Act} {Q : Exit → Act → World → Prop} {w0 : World} (hgd : o.guard = none) (s x : Operand) (t : TypeId)
    (ho : o.op = .call { callee := .builtin .append, args := #[s, x], argTypes := #[t, t] })
    (e : TypeId) {z : Value} {size bytes : Nat} (ht : P.underlying t = some (.slice e)) (hi : (P.info? e).map (fun i => (i.zero, i.size, i.bytes)) = some (some z, size, bytes))
    (hzs : z.cells.size = size) (hsz : 0 < size) (hb0 : 0 < bytes)
    (wr : World) (v : Value) (n : Nat) (xs : List Value) (hown : Own w0 wr e size v n xs) (cs : Array Value) (t' : TypeId) (B m c : Nat)
    (hs : a.eval s = v) (hx : a.eval x = .slice (some ⟨B, 0, none⟩) m c) (hB : wr.heap.size = B) (hl : cs.size = m * size) (h1 : ∀ u ∈ cs.toList, u.oneCell' = true) (hn : (n + m) * bytes ≤ 140737488355328)
    (h : ∀ v' w', Own w0 w' e size v' (n + m) (xs ++ cs.toList) → (wr.alloc (.cells cs t')).grownBy w' v.ownBlock → wpList P ops Q rest (a.put o.dst v') w') : wpList P ops Q (o :: rest) a (wr.alloc (.cells cs t')) := by
  obtain ⟨i, hi0, hz, hsize, hby⟩ := info_parts hi
  subst hB
  have hnm : n + m ≤ (n + m) * bytes := Nat.le_mul_of_pos_right _ hb0
  refine wpList_append_own _ hgd s x t ho w0.heap.size e i z size bytes ht hi0 hz hsize hby hzs hsz v n xs hs (World.ownsRow.alloc hown.1 _) ⟨wr.heap.size, 0, none⟩ m c cs.toList hx (by simpa using hl) ?_ h1
    (by unfold maxLen; omega) hn (Nat.le_trans hown.2.size (by simp)) ?_
  · intro j u hu
    have hc := (Sl.new wr cs t' size m hl).2
    have hadd : (⟨wr.heap.size, 0, none⟩ : Addr).add j = ⟨wr.heap.size, j, none⟩ := by
      unfold Addr.add
      split
      · rename_i h0; subst h0; rfl
      · simp
    rw [hadd, cell_of_row _ _ _ cs t' (0, 0) (heap_alloc_new wr _)]
    simpa using hu
  · intro v' w' hown' hg _
    refine h v' w' ⟨hown', Below.grown (hown.2.alloc _) hg (Nat.le_trans hown.2.size (by simp)) fun k hk => (World.ownsRow.lt hown.1 k hk).1⟩ hg
theorem actCells_at : ∀ (ls : List Ai) (k : Nat) (x : Ai), ls[k]? = some x → (actCells ls)[k * 2]? = some (.int .i64 x.1) ∧ (actCells ls)[k * 2 + 1]? = some (.int .i64 x.2) := by
  intro ls
  induction ls with
  | nil => intro k r h; simp at h
  | cons a l ih =>
    intro k r h
    cases k with
    | zero => simp at h; subst h; simp [actCells, aiC]
    | succ k =>
      have := ih k r (by simpa using h)
      have e : (k + 1) * 2 = k * 2 + 1 + 1 := by omega
      rw [e]
      simpa [actCells, aiC] using this
theorem SlAct.get {w : World} {A : Option Addr} {n : Nat} {ls : List Ai} (h : SlAct w A n ls) (k : Nat) (hk : k < n) : ∃ b off, ∃ hb : k < ls.length, A = some ⟨b, off, none⟩ ∧ b < w.heap.size ∧
    w.cell? ⟨b, off + k * 2, none⟩ = some (.int .i64 ls[k].1) ∧ w.cell? ⟨b, off + k * 2 + 1, none⟩ = some (.int .i64 ls[k].2) := by
  have hl : k < ls.length := by rw [h.2]; exact hk
  obtain ⟨b, off, e, hb, hc⟩ := h.1.2 (by omega)
  obtain ⟨q1, q2⟩ := actCells_at ls k ls[k] (List.getElem?_eq_getElem hl)
  exact ⟨b, off, hl, e, hb, hc _ _ q1, hc _ _ q2⟩
section
variable {H : Type} {enc : TypeId × Value → H} {P : Program} {w : World} {base : Nat} {spare : Nat → Bool} {held : Bool}
theorem open_acts {t e : TypeId} {f0 f1 : Field} {fuel : Nat} {A : Option Addr} {n c : Nat} {x : DataW H × List MemPlace} (ht : P.underlying t = some (.slice e)) (he : P.underlying e = some (.struct #[f0, f1])) (hone : oneCellFields P #[f0, f1] = true) (hc : P.cellsOf e = 2)
    (u0 : P.underlying f0.type = some (.int .i64)) (u1 : P.underlying f1.type = some (.int .i64))
    (h : DataW.trod enc P w base spare held fuel t [.slice A n c] = some x) : n ≤ maxLen ∧ ∃ ls, SlAct w A n ls := by
  obtain ⟨els, h1, h2, h3, h4⟩ := open_sl ht (by omega) h
  obtain ⟨rs, rfl⟩ := els_of aiC els (by
    intro cs hcs
    obtain ⟨hl, m, y, hy⟩ := h4 cs hcs
    rw [hc] at hl
    obtain ⟨m', hf⟩ := struct_cells he hone hy (by rw [hl]; rfl)
    obtain ⟨a0, y0, r0, t0⟩ := hf 0 f0 rfl
    obtain ⟨a1, y1, r1, t1⟩ := hf 1 f1 rfl
    obtain ⟨z0, s0, _, w0⟩ := DataW.trod_int u0 t0
    obtain ⟨z1, s1, _, w1⟩ := DataW.trod_int u1 t1
    simp at s0 s1
    subst s0 s1
    match cs, hl with
    | [c0, c1], _ =>
      simp at r0 r1
      exact ⟨(z0, z1), by unfold aiC; rw [r0, r1]⟩)
  refine ⟨h2, rs, ?_, by simpa using h1⟩
  rw [hc] at h3
  have e : (rs.map aiC).flatten = actCells rs := by
    unfold actCells
    rw [List.flatMap_def]
  rw [e] at h3
  exact h3
end
/-! ### words -/
def aiOk (U A : Nat) (x : Ai) : Bool := (decide (0 ≤ x.1) && decide (x.1 < (U : Int))) && (decide (0 ≤ x.2) && decide (x.2 < (A : Int)))
def acN (x : Ai) : Ac := (x.1.toNat, x.2.toNat)
def bitI (hid : BitVec 32) (i : Int) : Bool := (decide (0 ≤ i) && decide (i < 32)) && hid.getLsbD i.toNat
def purgeI (hid : BitVec 32) (l : List Ai) : List Ai := l.filter fun x => !bitI hid x.1
def runOk (U A n : Nat) (ls : List Ai) : Bool := decide (n ≤ 12) && ls.all (aiOk U A)
theorem aiOk_iff {U A : Nat} {x : Ai} : aiOk U A x = true ↔ (0 ≤ x.1 ∧ x.1 < (U : Int)) ∧ (0 ≤ x.2 ∧ x.2 < (A : Int)) := by
  unfold aiOk
  simp only [Bool.and_eq_true, decide_eq_true_eq]
theorem words_ok {U A : Nat} {ls : List Ai} (h : ls.all (aiOk U A) = true) : WordOk U A (ls.map acN) := by
  intro a ha
  obtain ⟨x, hx, rfl⟩ := List.mem_map.1 ha
  have := aiOk_iff.1 (List.all_eq_true.1 h x hx)
  unfold acN
  exact ⟨by dsimp only; omega, by dsimp only; omega⟩
theorem purge_map {U A : Nat} {hid : BitVec 32} (hU : U ≤ 32) {ls : List Ai} (h : ls.all (aiOk U A) = true) : (purgeI hid ls).map acN = purge hid (ls.map acN) := by
  unfold purgeI purge
  rw [List.filter_map]
  congr 1
  apply List.filter_congr
  intro x hx
  have := aiOk_iff.1 (List.all_eq_true.1 h x hx)
  show (!bitI hid x.1) = !hid.getLsbD x.1.toNat
  unfold bitI
  have e1 : decide (0 ≤ x.1) = true := by rw [decide_eq_true_eq]; omega
  have e2 : decide (x.1 < 32) = true := by rw [decide_eq_true_eq]; omega
  rw [e1, e2]
  rfl
theorem purgeI_all {hid : BitVec 32} {f : Ai → Bool} {ls : List Ai} (h : ls.all f = true) : (purgeI hid ls).all f = true := by
  rw [List.all_eq_true] at h ⊢
  intro x hx
  exact h x (List.mem_filter.1 hx).1
theorem purgeI_len (hid : BitVec 32) (ls : List Ai) : (purgeI hid ls).length ≤ ls.length := List.length_filter_le _ _
theorem leads_snoc (nx : Nx) (s : Nat) (w : List Ac) (a : Ac) : leads nx s (w ++ [a]) = nx (leads nx s w) a.1 a.2 := by
  unfold leads
  rw [List.foldl_append]
  rfl
theorem leads_lt {nx : Nx} {N U A : Nat} (hnx : ∀ s u a, s < N → u < U → a < A → nx s u a < N) : ∀ (w : List Ac) (s : Nat), WordOk U A w → s < N → leads nx s w < N := by
  intro w
  induction w with
  | nil => intro s _ hs; exact hs
  | cons a w ih =>
    intro s hw hs
    obtain ⟨a1, a2⟩ := hw a (by simp)
    exact ih _ (fun b hb => hw b (List.mem_cons_of_mem _ hb)) (hnx _ _ _ hs a1 a2)
theorem takeV_snoc {α : Type} (l : List α) (k : Nat) (h : k < l.length) : l.take (k + 1) = l.take k ++ [l[k]] := List.take_succ_eq_append_getElem h
theorem vbitI_any (x : BitVec 32) (i : Int) (w : World) : Calls Try.prog 18 #[.int .u32 (W x), .int .i64 i] w fun e w' => e = .returned (.bool (bitI x i)) ∧ w = w' := by
  have HB := Lib.hid (show bitI x i = ((decide (0 ≤ i) && decide (i < 32)) && x.getLsbD i.toNat) from rfl)
  generalize bitI x i = b at HB ⊢
  by_cases h0 : 0 ≤ i
  · by_cases h1 : i < 32
    · obtain ⟨n, rfl⟩ := Int.eq_ofNat_of_zero_le h0
      have : b = x.getLsbD n := by
        rw [HB.out]
        have e1 : decide ((0 : Int) ≤ (n : Int)) = true := by rw [decide_eq_true_eq]; omega
        have e2 : decide ((n : Int) < 32) = true := by rw [decide_eq_true_eq]; omega
        rw [e1, e2, Int.toNat_natCast]
        rfl
      subst this
      exact vbit_any x n (by omega) w
    · have e2 : decide (i < 32) = false := by rw [decide_eq_false_iff_not]; exact h1
      have e1 : decide (0 ≤ i) = true := by rw [decide_eq_true_eq]; exact h0
      have e3 : decide (i < 0) = false := by rw [decide_eq_false_iff_not]; omega
      have hb := Lib.hid (show b = false by rw [HB.out, e2]; simp)
      clear HB h0 h1
      go_enter Try.func18, Try.ntmps18
      go_wp2
      go_ret
      exact ⟨by rw [hb.out]; rfl, rfl⟩
  · have e1 : decide (0 ≤ i) = false := by rw [decide_eq_false_iff_not]; exact h0
    have e3 : decide (i < 0) = true := by rw [decide_eq_true_eq]; omega
    have hb := Lib.hid (show b = false by rw [HB.out, e1]; simp)
    clear HB h0
    go_enter Try.func18, Try.ntmps18
    go_wp2
    go_ret
    exact ⟨by rw [hb.out]; rfl, rfl⟩
/-- without the acts of hidden ones -/
def PurgI (w : World) (hid : BitVec 32) (ls : List Ai) (v : Value) (wr : World) : Prop := Own w wr 118 2 v (purgeI hid ls).length (actCells (purgeI hid ls))
set_option maxRecDepth 100000 in
set_option maxHeartbeats 4000000 in
theorem purge_any (hid : BitVec 32) (A : Option Addr) (n c : Nat) (ls : List Ai) (w : World) (hs : SlAct w A n ls) (hsz : n * 16 ≤ 140737488351232) :
    Calls Try.prog 45 #[.int .u32 (W hid), .slice A n c] w fun e w' => ∃ v, e = .returned v ∧ PurgI w hid ls v w' := by
  have HL := Lib.hid hs.2
  have HSZ := Lib.hid hsz
  have hn48 : n ≤ 8796093021952 := by omega
  have HSN := Lib.hid (fun k hk => takeV_snoc ls k hk)
  clear hsz
  go_enter Try.func45, Try.ntmps45
  go_wp2_with fail
  go_loopw [5, 10] (fun v t wr => ∃ k : Nat, k ≤ n ∧ t = .int .i64 (k : Nat) ∧ PurgI w hid (ls.take k) v wr) (fun _ t _ => n - (intOf t).toNat)
  case atStart => exact ⟨0, Nat.zero_le _, rfl, Own.start (Kept.refl _)⟩
  case round =>
    obtain ⟨k, hk, rfl, hown⟩ := hrel
    by_cases hlt : k < n
    · obtain ⟨b, off, hkl, rfl, hb, c1, c2⟩ := (hs.kept hown.kept0).get k hlt
      have HT := Lib.hid (HSN.out k hkl)
      have HLE := Lib.hid (purgeI_len hid (ls.take k))
      have HTK := Lib.hid (List.length_take_le k ls)
      generalize ls[k] = y at c1 c2 HT
      obtain ⟨y1, y2⟩ := y
      dsimp only at c1 c2
      have HBT := Lib.hid (fun W => vbitI_any hid y1 W)
      have i1 : (0 : Int) ≤ (k : Int) := by omega
      have i2 : (k : Int) < (n : Int) := by omega
      have hka : Kept wr (wr.alloc (.cells #[.int .i64 y1, .int .i64 y2] 118)) := (Kept.refl _).alloc _
      have HOW := Lib.hid hown
      have bxs := Box.new wr #[.int .i64 y1, .int .i64 y2] 118 wr.heap.size rfl
      have e0 := bxs.at_ 0 rfl
      have e1 := bxs.at_ 1 rfl
      have HMAX := Lib.hid (show k + 1 ≤ n by omega)
      cases hbit : bitI hid y1 with
      | true =>
        have HN := Lib.hid (show purgeI hid (ls.take (k + 1)) = purgeI hid (ls.take k) by
          rw [HT.out]
          unfold purgeI
          rw [List.filter_append]
          simp [hbit])
        rw [hbit] at HBT
        clear hbit hown hs bxs hka
        go_wp2_with fail
        refine (HBT.out _).mono ?_
        rintro e w5 ⟨rfl, rfl⟩
        go_wp2_with fail
        go_roundw
        case rel => exact ⟨k + 1, HMAX.out, by go_num, by unfold PurgI; rw [HN.out]; exact HOW.out.alloc _⟩
        case measure => have := HMAX.out; simp [intOf]; omega
      | false =>
        have HN := Lib.hid (show purgeI hid (ls.take (k + 1)) = purgeI hid (ls.take k) ++ [(y1, y2)] by
          rw [HT.out]
          unfold purgeI
          rw [List.filter_append]
          simp [hbit])
        rw [hbit] at HBT
        have hown' := Lib.hid (HOW.out.alloc (.cells #[.int .i64 y1, .int .i64 y2] 118))
        clear hbit hown hs bxs hka
        go_wp2_with fail
        refine (HBT.out _).mono ?_
        rintro e w5 ⟨rfl, rfl⟩
        go_wp2_with (at_builtin; refine wpList_pushRV rfl _ _ 73 rfl 118 Try.underlying73 info_act rfl (by decide) (by decide) _ _ _ _ hown'.out #[.int .i64 y1, .int .i64 y2] 118 _ 1 1 rfl rfl (by simp) rfl (one_ai _ _) (by have := HSZ.out; have := HLE.out; have := HTK.out; have := HMAX.out; omega) ?_; intro v7 w7 hown7 _)
        have HO7 := Lib.hid hown7
        clear hown7
        go_wp2_with fail
        go_roundw
        case rel => exact ⟨k + 1, HMAX.out, by go_num, by unfold PurgI; rw [HN.out, actCells_append, List.length_append]; exact HO7.out⟩
        case measure => have := HMAX.out; simp [intOf]; omega
    · have HF := Lib.hid (show PurgI w hid ls _ wr from (by
        have := hown
        rw [List.take_of_length_le (by have := HL.out; omega)] at this
        exact this))
      clear hown
      go_wp2_with fail
      go_ret
      exact ⟨_, rfl, HF.out⟩
end Go.Proofs.Ytodkpojmonikiaa
