/- The walk of wall.Fewest: a map of maps. -/
import Derived.Test.YtnnddjanbfamkaaFew2
import Derived.Test.YtnnddjanbfamkaaMapK
import Derived.Laws.Cover3
namespace Go.Proofs.Ytnnddjanbfamkaa
open Go Go.RowKit
set_option linter.unusedVariables false

theorem intKeyed : Go.Maps.Keyed Try.prog 3 := Go.Maps.int_keyed Try.underlying3
theorem int_key {x : Int} (h : (Lit.int .i64 x).wf = true) : ∃ l, keyOf Try.prog 3 (.int .i64 x) = some l := ⟨.int .i64 x, by simp [keyOf, mapKey, Try.underlying3, h]⟩
theorem zero_boolF (w : World) : (zeroValue 4).run Try.prog w = .ok (.bool false) w := by kernel_rfl
theorem zero_mapF (w : World) : (zeroValue 98).run Try.prog w = .ok (.map none) w := by kernel_rfl
theorem iv_mem {l : List Int} {x : Int} : (Value.int .i64 x) ∈ l.map iv ↔ x ∈ l := by
  constructor
  · intro h
    obtain ⟨y, hy, e⟩ := List.mem_map.1 h
    unfold iv at e
    injection e with _ e
    rw [← e]
    exact hy
  · exact fun h => List.mem_map.2 ⟨x, h, rfl⟩
/-- of each class the firms that have things, in memory -/
structure FwM (w0 w : World) (b : Nat) (clss D : List Int) (cs : List Int) (Bs : Int → Nat) (g : Value → Value) : Prop where
  outer : MapK w Try.prog 3 b (cs.map iv) g
  at_ : ∀ c ∈ cs, g (.int .i64 c) = .map (some (Bs c))
  inner : ∀ c ∈ cs, MapK w Try.prog 3 (Bs c) ((D.filter fun f => cls clss f == c).map iv) (fun _ => .bool true)
  ne : ∀ c ∈ cs, Bs c ≠ b
  inj : ∀ c ∈ cs, ∀ c' ∈ cs, Bs c = Bs c' → c = c'
  cov : ∀ f ∈ D, cls clss f ∈ cs
  own : w0.heap.size ≤ b ∧ ∀ c ∈ cs, w0.heap.size ≤ Bs c
  kept : Kept w0 w
section
variable {w0 w w' : World} {b : Nat} {clss D cs : List Int} {Bs : Int → Nat} {g : Value → Value} {c f : Int}
theorem FwM.start (w : World) (clss : List Int) (Bs : Int → Nat) (g : Value → Value) : FwM w (w.alloc (.map #[] 0)) w.heap.size clss [] [] Bs g :=
  ⟨MapK.made w _ _ _ _ rfl, (fun c h => by cases h), (fun c h => by cases h), (fun c h => by cases h), (fun c h => by cases h), (fun c h => by cases h), ⟨Nat.le_refl _, (fun c h => by cases h)⟩, (Kept.refl _).alloc _⟩
theorem FwM.keptK (h : FwM w0 w b clss D cs Bs g) (k : Kept w w') : FwM w0 w' b clss D cs Bs g :=
  ⟨h.outer.kept k, h.at_, fun c hc => (h.inner c hc).kept k, h.ne, h.inj, h.cov, h.own, h.kept.trans k⟩
theorem FwM.miss (h : FwM w0 w b clss D cs Bs g) (hc : c ∉ cs) (hw : (Lit.int .i64 c).wf = true) : (Instr.lookup 97 (.map (some b)) (.int .i64 c) false).run Try.prog w = .ok (.map none) w := by
  obtain ⟨kl, hkl⟩ := int_key hw
  exact h.outer.miss intKeyed Try.underlying97 (zero_mapF _) hkl (fun e => hc (iv_mem.1 e)) false
theorem FwM.look (h : FwM w0 w b clss D cs Bs g) (hc : c ∈ cs) : (Instr.lookup 97 (.map (some b)) (.int .i64 c) false).run Try.prog w = .ok (.map (some (Bs c))) w := by
  have := h.outer.look intKeyed Try.underlying97 (zero_mapF _) (x := .int .i64 c) (iv_mem.2 hc) false
  rw [h.at_ c hc] at this
  exact this
/-- a class of which there was none -/
theorem FwM.new (h : FwM w0 w b clss D cs Bs g) (hc : c ∉ cs) (hw : (Lit.int .i64 c).wf = true) (hl : cs.length ≤ 1000) : ∃ w' g', (Instr.mapUpdate 97 (.map (some b)) (.int .i64 c) (.map (some w.heap.size))).run Try.prog (w.alloc (.map #[] 0)) = .ok () w' ∧ FwM w0 w' b clss D (cs ++ [c]) (fun x => if x = c then w.heap.size else Bs x) g' := by
  obtain ⟨kl, hkl⟩ := int_key hw
  have hk1 : Kept w (w.alloc (.map #[] 0)) := (Kept.refl _).alloc _
  obtain ⟨w', hr, hm, hg⟩ := (h.outer.alloc (.map #[] 0)).put intKeyed Try.underlying97 (by rw [List.length_map]; unfold maxLen; omega) (v := .map (some w.heap.size)) hkl (fun e => hc (iv_mem.1 e))
  have hbl := h.outer.lt
  refine ⟨w', updK g (.int .i64 c) (.map (some w.heap.size)), hr, ⟨?_, fun x hx => ?_, fun x hx => ?_, fun x hx => ?_, fun x hx y hy e => ?_, fun x hx => ?_, ⟨h.own.1, fun x hx => ?_⟩, (h.kept.trans hk1).grown hg (fun k hk => by injection hk with hk; subst hk; exact h.own.1)⟩⟩
  · rw [List.map_append]
    exact hm
  · by_cases e : x = c
    · subst e; rw [if_pos rfl]; exact updK_same _ _ _
    · rw [if_neg e, updK_other (by intro e2; injection e2 with _ e2; exact e e2)]
      exact h.at_ x ((List.mem_append.1 hx).resolve_right fun e2 => e (List.mem_singleton.1 e2))
  · by_cases e : x = c
    · subst e
      rw [if_pos rfl]
      have h0 : (D.filter fun f => cls clss f == x) = [] := by
        rw [List.filter_eq_nil_iff]
        intro f hf e2
        rw [beq_iff_eq] at e2
        exact hc (e2 ▸ h.cov f hf)
      rw [h0]
      exact (MapK.made w Try.prog 3 _ _ rfl).grown hg (fun e2 => by injection e2 with e2; omega)
    · rw [if_neg e]
      have hxc := (List.mem_append.1 hx).resolve_right fun e2 => e (List.mem_singleton.1 e2)
      exact ((h.inner x hxc).alloc _).grown hg (fun e2 => by injection e2 with e2; exact h.ne x hxc e2)
  · by_cases e : x = c
    · subst e; rw [if_pos rfl]; omega
    · rw [if_neg e]
      exact h.ne x ((List.mem_append.1 hx).resolve_right fun e2 => e (List.mem_singleton.1 e2))
  · have lt : ∀ x ∈ cs, Bs x < w.heap.size := fun x hx => (h.inner x hx).lt
    by_cases e1 : x = c
    · by_cases e2 : y = c
      · exact e1.trans e2.symm
      · rw [if_pos e1, if_neg e2] at e
        have := lt y ((List.mem_append.1 hy).resolve_right fun e2' => e2 (List.mem_singleton.1 e2'))
        omega
    · have hxc := (List.mem_append.1 hx).resolve_right fun e2 => e1 (List.mem_singleton.1 e2)
      by_cases e2 : y = c
      · rw [if_neg e1, if_pos e2] at e
        have := lt x hxc
        omega
      · rw [if_neg e1, if_neg e2] at e
        exact h.inj x hxc y ((List.mem_append.1 hy).resolve_right fun e2' => e2 (List.mem_singleton.1 e2')) e
  · exact List.mem_append.2 (.inl (h.cov x hx))
  · by_cases e : x = c
    · subst e; rw [if_pos rfl]; exact h.kept.size
    · rw [if_neg e]
      exact h.own.2 x ((List.mem_append.1 hx).resolve_right fun e2 => e (List.mem_singleton.1 e2))
/-- a firm of a class that is there -/
theorem FwM.add (h : FwM w0 w b clss D cs Bs g) (hc : cls clss f ∈ cs) (hw : (Lit.int .i64 f).wf = true) (hl : D.length ≤ 1000) {D' : List Int} (hD : D' = if f ∈ D then D else D ++ [f]) :
    ∃ w', (Instr.mapUpdate 98 (.map (some (Bs (cls clss f)))) (.int .i64 f) (.bool true)).run Try.prog w = .ok () w' ∧ FwM w0 w' b clss D' cs Bs g ∧ ∀ ty, (Builtin.len_ #[98] ty #[.map (some (Bs (cls clss f)))]).run Try.prog w' = .ok (.int .i64 (cntF clss D' (cls clss f))) w' := by
  obtain ⟨kl, hkl⟩ := int_key hw
  have hin := h.inner _ hc
  have hcongr : ∀ y, updK (fun _ => Value.bool true) (.int .i64 f) (.bool true) y = .bool true := fun y => by
    unfold updK
    split <;> rfl
  have key : ∃ w', (Instr.mapUpdate 98 (.map (some (Bs (cls clss f)))) (.int .i64 f) (.bool true)).run Try.prog w = .ok () w' ∧ MapK w' Try.prog 3 (Bs (cls clss f)) ((D'.filter fun x => cls clss x == cls clss f).map iv) (fun _ => .bool true) ∧ w.grownBy w' (some (Bs (cls clss f))) := by
    by_cases hm : f ∈ D
    · rw [if_pos hm] at hD
      subst hD
      obtain ⟨w', hr, hm', hg⟩ := hin.set intKeyed Try.underlying98 (v := .bool true) (iv_mem.2 (List.mem_filter.2 ⟨hm, by simp⟩))
      exact ⟨w', hr, hm'.congr (fun x _ => hcongr x), hg⟩
    · rw [if_neg hm] at hD
      subst hD
      obtain ⟨w', hr, hm', hg⟩ := hin.put intKeyed Try.underlying98 (by rw [List.length_map]; have := List.length_filter_le (fun x => cls clss x == cls clss f) D; unfold maxLen; omega) (v := .bool true) hkl (fun e => hm (List.mem_filter.1 (iv_mem.1 e)).1)
      refine ⟨w', hr, ?_, hg⟩
      rw [List.filter_append, List.map_append]
      have e1 : ([f].filter fun x => cls clss x == cls clss f) = [f] := by simp
      rw [e1]
      exact hm'.congr (fun x _ => hcongr x)
  obtain ⟨w', hr, hm, hg⟩ := key
  refine ⟨w', hr, ⟨h.outer.grown hg (fun e => by injection e with e; exact h.ne _ hc e.symm), h.at_, fun x hx => ?_, h.ne, h.inj, fun x hx => ?_, h.own, h.kept.grown hg (fun k hk => by injection hk with hk; subst hk; exact h.own.2 _ hc)⟩, fun ty => ?_⟩
  · by_cases e : x = cls clss f
    · subst e; exact hm
    · have h1 := (h.inner x hx).grown hg (fun e2 => by injection e2 with e2; exact e (h.inj x hx _ hc e2))
      have h2 : (D'.filter fun y => cls clss y == x) = D.filter fun y => cls clss y == x := by
        rw [hD]
        split
        · rfl
        · rw [List.filter_append]
          have : (cls clss f == x) = false := by rw [beq_eq_false_iff_ne]; exact fun e2 => e e2.symm
          simp [this]
      rw [h2]
      exact h1
  · rw [hD] at hx
    split at hx
    · exact h.cov x hx
    · rw [List.mem_append] at hx
      rcases hx with hx | hx
      · exact h.cov x hx
      · simp at hx; subst hx; exact hc
  · have := hm.len Try.underlying98 ty
    rw [List.length_map] at this
    exact this
end
theorem doneF_short (firm : List Int) : ∀ i, (doneF firm i).length ≤ i := by
  intro i
  induction i with
  | zero => exact Nat.le_refl _
  | succ i ih =>
    by_cases h : frm firm i < 0
    · rw [doneF_neg h]; omega
    · by_cases hm : frm firm i ∈ doneF firm i
      · rw [doneF_old (by omega) hm]; omega
      · rw [doneF_new (by omega) hm, List.length_append]; simp; omega
theorem doneF_if {firm : List Int} {i : Nat} (h : 0 ≤ frm firm i) : doneF firm (i + 1) = if frm firm i ∈ doneF firm i then doneF firm i else doneF firm i ++ [frm firm i] := by
  by_cases hm : frm firm i ∈ doneF firm i
  · rw [doneF_old h hm, if_pos hm]
  · rw [doneF_new h hm, if_neg hm]
end Go.Proofs.Ytnnddjanbfamkaa
