/- Steps of a drawn region on a map; what Leak holds behind a new pair. -/
import Derived.Test.YtjcooagchjjknaaView5
import Derived.Test.YtjcooagchjjknaaPushAll
import Derived.Deep.AppendLies
namespace Go.Proofs.Ytjcooagchjjknaa
open Go Go.RowKit
set_option linter.unusedVariables false
set_option linter.unusedSimpArgs false

theorem step_mapUpdate_run {P : Program} (w : World) {ops : Array Oper} {o : Oper} {a : Act} {K : Act → World → Prop} {Q : Exit → Act → World → Prop} {F : Prop} (hgd : o.guard = none) (m x v : Operand) (t : TypeId) (hop : o.op = Op.mapUpdate t m x v)
    (mv key val : Value) (hm : a.eval m = mv) (hx : a.eval x = key) (hv : a.eval v = val) {w' : World} (hr : (Instr.mapUpdate t mv key val).run P w = .ok () w') (h : K (a.put o.dst undef) w') : if Region.wanted o (yielded ops a.tmps) = true then Oper.wp P o a w K Q else F := by
  have hw : Region.wanted o (yielded ops a.tmps) = true := by simp [Region.wanted, hgd]
  rw [if_pos hw]
  unfold Oper.wp
  simp [execOp, hop, hm, hx, hv, hr, Result.andThen]
  exact h
theorem step_lookup_run {P : Program} (w : World) {ops : Array Oper} {o : Oper} {a : Act} {K : Act → World → Prop} {Q : Exit → Act → World → Prop} {F : Prop} (hgd : o.guard = none) (m x : Operand) (t : TypeId) (c : Bool) (hop : o.op = Op.lookup t m x c)
    (mv key val : Value) (hm : a.eval m = mv) (hx : a.eval x = key) (hr : (Instr.lookup t mv key c).run P w = .ok val w) (h : K (a.put o.dst val) w) : if Region.wanted o (yielded ops a.tmps) = true then Oper.wp P o a w K Q else F := by
  have hw : Region.wanted o (yielded ops a.tmps) = true := by simp [Region.wanted, hgd]
  rw [if_pos hw]
  unfold Oper.wp
  simp [execOp, hop, hm, hx, hr, Result.andThen]
  exact h
section
variable {w0 w1 w w' : World} {dm : Nat} {v : Value} {vis : Vs} {k : Nat}
theorem Own.low {E : TypeId} {s n : Nat} {xs : List Value} (h : Own w1 w E s v n xs) (hk : Kept w0 w1) : Own w0 w E s v n xs := by
  obtain ⟨⟨h1, h2⟩, h3⟩ := h
  refine ⟨⟨h1, ?_⟩, hk.trans h3⟩
  rcases h2 with h2 | ⟨g, cap, cur, e, hb, rest⟩
  · exact .inl h2
  · exact .inr ⟨g, cap, cur, e, Nat.le_trans hk.size hb, rest⟩
theorem MapW.ncell (h : MapW w0 w dm vis) {p : Addr} {u : Value} (hc : w.cell? p = some u) : some p.block ≠ some dm := by
  obtain ⟨h0, f, ⟨es, clock, hb, _⟩, _⟩ := h
  intro he
  injection he with he
  subst he
  unfold World.cell? at hc
  rw [hb] at hc
  simp at hc
theorem ok_inj {α : Type} {a b : α} {w : World} (h : Result.ok a w = Result.ok b w) : a = b := by cases h; rfl
/-- a new word is put in -/
theorem MapW.putQ (h : MapW w0 w dm vis) (hq : QueW w0 w v vis k) {p : Nat × Nat} {l : List Ac} {z : Value} (hp : p ∉ vis.map Prod.fst) (hx : p.1 ≤ 1000) (hy : p.2 ≤ 1000) (hl : vis.length ≤ 1000) (ho : Own w0 w 90 2 z l.length (actCells (l.map acI))) :
    ∃ w', (Instr.mapUpdate 85 (.map (some dm)) (.agg #[.int .i64 p.1, .int .i64 p.2]) z).run Try.prog w = .ok () w' ∧ MapW w0 w' dm (vis ++ [(p, l)]) ∧ QueW w0 w' v vis k ∧ Kept w0 w' ∧ (∀ a u, w.cell? a = some u → w'.cell? a = some u) ∧
      ∀ x ∈ vis, ∀ val, (Instr.lookup 85 (.map (some dm)) (.agg #[.int .i64 x.1.1, .int .i64 x.1.2]) false).run Try.prog w = .ok val w → (Instr.lookup 85 (.map (some dm)) (.agg #[.int .i64 x.1.1, .int .i64 x.1.2]) false).run Try.prog w' = .ok val w' := by
  have h' := h
  obtain ⟨h0, g, h1, h2⟩ := h
  obtain ⟨kl, hkl⟩ := vp_key p hx hy
  obtain ⟨w', r1, r2, r3⟩ := h1.put vpKeyed Try.underlying85 (by unfold vkeys; rw [List.length_map]; unfold maxLen; omega) (v := z) hkl (fun e => hp (vkeys_mem.1 e))
  have hrow : ∀ k, some dm = some k → w0.heap.size ≤ k := fun k hk => by injection hk with hk; omega
  have hne : ∀ x ∈ vis, vpV x.1 ≠ vpV p := fun x hx e => hp (by rw [← vpV_inj e]; exact List.mem_map.2 ⟨x, hx, rfl⟩)
  refine ⟨w', r1, ⟨h0, _, by unfold vkeys; rw [List.map_append]; exact r2, fun x hx => ?_⟩, hq.map h' r3, ?_, fun a u hc => ?_, fun x hx val hv => ?_⟩
  · rcases List.mem_append.1 hx with hx | hx
    · rw [updK_other (hne x hx)]
      exact (h2 x hx).grown r3 (.inr fun e => farM h1 (h2 x hx) e.symm) hrow
    · rw [List.mem_singleton] at hx
      subst hx
      show Own w0 w' _ 2 (updK _ (vpV p) _ (vpV p)) _ _
      rw [updK_same]
      exact ho.grown r3 (.inr fun e => farM h1 ho e.symm) hrow
  · obtain ⟨_, _, _, _, _, _, hq3⟩ := hq
    exact hq3.kept0.grown r3 hrow
  · rw [r3.cell_far a (cell_lt hc) (h'.ncell hc)]
    exact hc
  · have e1 := h1.look vpKeyed Try.underlying85 (zero_acts w) (x := vpV x.1) (vkeys_mem.2 (List.mem_map.2 ⟨x, hx, rfl⟩)) false
    have e2 := r2.look vpKeyed Try.underlying85 (zero_acts w') (x := vpV x.1) (List.mem_append_left _ (vkeys_mem.2 (List.mem_map.2 ⟨x, hx, rfl⟩))) false
    rw [updK_other (hne x hx)] at e2
    simp only [Bool.false_eq_true, if_false] at e1 e2
    generalize g (vpV x.1) = z2 at e1 e2
    rw [ok_inj (hv.symm.trans e1)]
    exact e2
end
end Go.Proofs.Ytjcooagchjjknaa
