/- A map that the call itself has made: its keys in the order in which they came, and what each holds, whatever the element's type. Over any program. -/
import Derived.Test.YtekpifobhgjepaaHold
import Derived.Maps.Own
namespace Go.Proofs.Ytekpifobhgjepaa
open Go Go.RowKit Go.Maps Go.MapKept
set_option linter.unusedVariables false

open Classical in
noncomputable def updK (g : Value → Value) (x v : Value) : Value → Value := fun y => if y = x then v else g y
theorem updK_same (g : Value → Value) (x v : Value) : updK g x v x = v := by unfold updK; rw [if_pos rfl]
theorem updK_other {g : Value → Value} {x v y : Value} (h : y ≠ x) : updK g x v y = g y := by unfold updK; rw [if_neg h]
/-- Block b is a map with the keys ks; the key x holds g x. -/
def MapK (w : World) (P : Program) (k : TypeId) (b : Nat) (ks : List Value) (g : Value → Value) : Prop :=
  ∃ es clock, w.heap[b]? = some (.map es clock) ∧ Stamped es clock ∧ (∀ x ∈ ks, ∃ l, keyOf P k x = some l) ∧ es.toList.map (fun e => (e.key, e.val)) = ks.map fun x => (x, g x)
section
variable {w w' : World} {P : Program} {k : TypeId} {b : Nat} {ks : List Value} {g : Value → Value}
theorem MapK.lt (h : MapK w P k b ks g) : b < w.heap.size := by
  obtain ⟨es, clock, hb, _⟩ := h
  exact (Array.getElem?_eq_some_iff.1 hb).1
theorem MapK.kept (h : MapK w P k b ks g) (hk : Kept w w') : MapK w' P k b ks g := by
  have hlt := h.lt
  obtain ⟨es, clock, hb, rest⟩ := h
  exact ⟨es, clock, (hk.block b hlt).trans hb, rest⟩
theorem MapK.grown {row : Option Nat} (h : MapK w P k b ks g) (hg : w.grownBy w' row) (hne : some b ≠ row) : MapK w' P k b ks g := by
  have hlt := h.lt
  obtain ⟨es, clock, hb, rest⟩ := h
  exact ⟨es, clock, (hg.block b hlt hne).trans hb, rest⟩
theorem MapK.alloc (h : MapK w P k b ks g) (o : Obj) : MapK (w.alloc o) P k b ks g := h.kept ((Kept.refl _).alloc _)
theorem MapK.drew (h : MapK w P k b ks g) : MapK w.drew P k b ks g := h.kept ((Kept.refl _).drew)
theorem MapK.made (w : World) (P : Program) (k : TypeId) (g : Value → Value) (B : Nat) (hB : w.heap.size = B) : MapK (w.alloc (.map #[] 0)) P k B [] g := by
  subst hB
  exact ⟨#[], 0, (MapKept.heap_alloc w _).1, stamped_empty 0, by simp, rfl⟩
theorem MapK.congr {g' : Value → Value} (h : MapK w P k b ks g) (he : ∀ x ∈ ks, g x = g' x) : MapK w P k b ks g' := by
  obtain ⟨es, clock, hb, st, hk, hm⟩ := h
  exact ⟨es, clock, hb, st, hk, by rw [hm]; exact List.map_congr_left fun x hx => by rw [he x hx]⟩
theorem MapK.keys {es : Array MapEntry} {ks : List Value} {g : Value → Value} (hm : es.toList.map (fun e => (e.key, e.val)) = ks.map fun x => (x, g x)) : es.toList.map (·.key) = ks := by
  have := congrArg (List.map Prod.fst) hm
  rw [List.map_map, List.map_map] at this
  simpa [Function.comp_def] using this
theorem MapK.nodup (h : MapK w P k b ks g) : ks.Nodup := by
  obtain ⟨es, clock, hb, st, hk, hm⟩ := h
  rw [← MapK.keys hm]
  exact st.2.2
theorem MapK.mem {es : Array MapEntry} {ks : List Value} {g : Value → Value} (hm : es.toList.map (fun e => (e.key, e.val)) = ks.map fun x => (x, g x)) : (∀ e ∈ es.toList, e.key ∈ ks ∧ e.val = g e.key) ∧ ∀ x ∈ ks, ∃ e ∈ es.toList, e.key = x := by
  constructor
  · intro e he
    have : (e.key, e.val) ∈ ks.map fun x => (x, g x) := by rw [← hm]; exact List.mem_map.2 ⟨e, he, rfl⟩
    obtain ⟨x, hx, hxe⟩ := List.mem_map.1 this
    injection hxe with h1 h2
    subst h1
    exact ⟨hx, h2.symm⟩
  · intro x hx
    have : (x, g x) ∈ es.toList.map (fun e => (e.key, e.val)) := by rw [hm]; exact List.mem_map.2 ⟨x, hx, rfl⟩
    obtain ⟨e, he, hxe⟩ := List.mem_map.1 this
    injection hxe with h1 _
    exact ⟨e, he, h1⟩
/-- a key that is there -/
theorem MapK.look {t e : TypeId} (h : MapK w P k b ks g) (K : Keyed P k) (ht : P.underlying t = some (.map k e)) {z : Value} (hz : (zeroValue e).run P w = .ok z w) {x : Value} (hx : x ∈ ks) (c : Bool) :
    (Instr.lookup t (.map (some b)) x c).run P w = .ok (if c then .tuple #[g x, .bool true] else g x) w := by
  obtain ⟨es, clock, hb, st, hk, hm⟩ := h
  obtain ⟨m1, m2⟩ := MapK.mem hm
  obtain ⟨kl, hkl⟩ := hk x hx
  rcases K.find w hkl es.toList (fun e he => hk _ (m1 e he).1) with ⟨_, h2⟩ | ⟨j, e0, h1, h2, h3⟩
  · obtain ⟨e, he, hek⟩ := m2 x hx
    exact absurd hek (h2 e he)
  · have hv := (m1 e0 (List.mem_of_getElem? h2)).2
    rw [h3] at hv
    simp [Instr.lookup, run_underlying ht, MapKept.run_getObj_map hb, K.check w _ hkl, h1, Result.andThen, hv]
/-- a key that is not there -/
theorem MapK.miss {t e : TypeId} (h : MapK w P k b ks g) (K : Keyed P k) (ht : P.underlying t = some (.map k e)) {z : Value} (hz : (zeroValue e).run P w = .ok z w) {x : Value} {kl : Lit} (hkl : keyOf P k x = some kl) (hx : x ∉ ks) (c : Bool) :
    (Instr.lookup t (.map (some b)) x c).run P w = .ok (if c then .tuple #[z, .bool false] else z) w := by
  obtain ⟨es, clock, hb, st, hk, hm⟩ := h
  obtain ⟨m1, m2⟩ := MapK.mem hm
  rcases K.find w hkl es.toList (fun e he => hk _ (m1 e he).1) with ⟨h1, h2⟩ | ⟨j, e0, h1, h2, h3⟩
  · simp [Instr.lookup, run_underlying ht, MapKept.run_getObj_map hb, K.check w _ hkl, h1, hz, Result.andThen]
  · have h4 := (m1 e0 (List.mem_of_getElem? h2)).1
    rw [h3] at h4
    exact absurd h4 hx
/-- a new key -/
theorem MapK.put {t e : TypeId} (h : MapK w P k b ks g) (K : Keyed P k) (ht : P.underlying t = some (.map k e)) (hn : ks.length < maxLen) {x v : Value} {kl : Lit} (hkl : keyOf P k x = some kl) (hx : x ∉ ks) :
    ∃ w', (Instr.mapUpdate t (.map (some b)) x v).run P w = .ok () w' ∧ MapK w' P k b (ks ++ [x]) (updK g x v) ∧ w.grownBy w' (some b) := by
  obtain ⟨es, clock, hb, st, hk, hm⟩ := h
  obtain ⟨m1, m2⟩ := MapK.mem hm
  have hsz : es.size = ks.length := by
    have := congrArg List.length hm
    simpa using this
  rcases K.find w hkl es.toList (fun e he => hk _ (m1 e he).1) with ⟨h1, h2⟩ | ⟨j, e0, h1, h2, h3⟩
  · refine ⟨ChangeMaps.setBlock w b (.map (es.push ⟨x, v, clock⟩) (clock + 1)), ?_, ⟨es.push ⟨x, v, clock⟩, clock + 1, ChangeMaps.heap_setBlock_same hb _, stamped_push st h2, ?_, ?_⟩, ⟨rfl, rfl, rfl, by simp [ChangeMaps.setBlock], fun i _ hi => ChangeMaps.heap_setBlock_other hb _ (fun e => hi (by rw [e]))⟩⟩
    · simp [Instr.mapUpdate, run_underlying ht, MapKept.run_getObj_map hb, K.check w false hkl, h1, MapKept.run_setObj_map _ hb, Result.andThen, ChangeMaps.setBlock]
    · intro y hy
      rcases List.mem_append.1 hy with hy | hy
      · exact hk y hy
      · rw [List.mem_singleton] at hy; subst hy; exact ⟨kl, hkl⟩
    · rw [Array.toList_push, List.map_append, hm, List.map_append]
      congr 1
      · exact List.map_congr_left fun y hy => by rw [updK_other (fun e => hx (by rw [← e]; exact hy))]
      · simp [updK_same]
  · have h4 := (m1 e0 (List.mem_of_getElem? h2)).1
    rw [h3] at h4
    exact absurd h4 hx
/-- a key that is there gets another value -/
theorem MapK.set {t e : TypeId} (h : MapK w P k b ks g) (K : Keyed P k) (ht : P.underlying t = some (.map k e)) {x v : Value} (hx : x ∈ ks) :
    ∃ w', (Instr.mapUpdate t (.map (some b)) x v).run P w = .ok () w' ∧ MapK w' P k b ks (updK g x v) ∧ w.grownBy w' (some b) := by
  have hnd := h.nodup
  obtain ⟨es, clock, hb, st, hk, hm⟩ := h
  obtain ⟨m1, m2⟩ := MapK.mem hm
  obtain ⟨kl, hkl⟩ := hk x hx
  rcases K.find w hkl es.toList (fun e he => hk _ (m1 e he).1) with ⟨h1, h2⟩ | ⟨j, e0, h1, h2, h3⟩
  · obtain ⟨e, he, hek⟩ := m2 x hx
    exact absurd hek (h2 e he)
  · have hj : es[j]? = some e0 := by simpa using h2
    have hjl : j < es.toList.length := (List.getElem?_eq_some_iff.1 h2).1
    have hlist : (es.modify j (fun e' => { e' with key := x, val := v })).toList = es.toList.set j { e0 with key := x, val := v } := by rw [Array.toList_modify, ChangeMaps.modify_eq_set _ _ _ _ h2]
    refine ⟨ChangeMaps.setBlock w b (.map (es.modify j (fun e' => { e' with key := x, val := v })) clock), ?_, ⟨es.modify j (fun e' => { e' with key := x, val := v }), clock, ChangeMaps.heap_setBlock_same hb _, stamped_modify st _ _ (fun _ _ => rfl) (fun e' _ he' => by rw [hj] at he'; cases he'; exact h3.symm), hk, ?_⟩, ⟨rfl, rfl, rfl, by simp [ChangeMaps.setBlock], fun i _ hi => ChangeMaps.heap_setBlock_other hb _ (fun e => hi (by rw [e]))⟩⟩
    · simp [Instr.mapUpdate, run_underlying ht, MapKept.run_getObj_map hb, K.check w false hkl, h1, hj, h3, K.stays w hkl, MapKept.run_setObj_map _ hb, Result.andThen, ChangeMaps.setBlock]
    · rw [hlist]
      have hkj : ks[j]? = some x := by
        rw [← MapK.keys hm, List.getElem?_map, h2]
        exact congrArg some h3
      apply List.ext_getElem?
      intro i
      rw [List.getElem?_map, List.getElem?_set, List.getElem?_map]
      by_cases hij : j = i
      · subst hij
        rw [if_pos rfl, if_pos hjl, hkj]
        simp [updK_same]
      · rw [if_neg hij]
        have := congrArg (fun l => l[i]?) hm
        simp only [List.getElem?_map] at this
        rw [this]
        cases hki : ks[i]? with
        | none => rfl
        | some y =>
          have hne : y ≠ x := by
            intro e
            subst e
            have hi : i < ks.length := (List.getElem?_eq_some_iff.1 hki).1
            have hjk : j < ks.length := (List.getElem?_eq_some_iff.1 hkj).1
            have e1 := (List.getElem?_eq_some_iff.1 hki).2
            have e2 := (List.getElem?_eq_some_iff.1 hkj).2
            exact hij ((List.getElem_inj hnd).1 (e2.trans e1.symm))
          simp [updK_other hne]
/-- how many -/
theorem MapK.len (h : MapK w P k b ks g) {t e : TypeId} (ht : P.underlying t = some (.map k e)) (ty : TypeId) : (Builtin.len_ #[t] ty #[.map (some b)]).run P w = .ok (.int .i64 ks.length) w := by
  obtain ⟨es, clock, hb, st, hk, hm⟩ := h
  have hsz : es.size = ks.length := by
    have := congrArg List.length hm
    simpa using this
  simp [Builtin.len_, run_underlying ht, MapKept.run_getObj_map hb, Result.andThen, hsz, goInt]
/-- 'm[k] = v' at the operation, by its run -/
theorem wpList_mapUpdate_run (w : World) {ops : Array Oper} {rest : List Oper} {o : Oper} {a : Act} {Q : Exit → Act → World → Prop} (hgd : o.guard = none) (m x v : Operand) (t : TypeId) (hop : o.op = Op.mapUpdate t m x v)
    (mv key val : Value) (hm : a.eval m = mv) (hx : a.eval x = key) (hv : a.eval v = val) {w' : World} (hr : (Instr.mapUpdate t mv key val).run P w = .ok () w') (h : wpList P ops Q rest (a.put o.dst undef) w') : wpList P ops Q (o :: rest) a w := by
  refine wpList_plain hgd fun K hK => ?_
  unfold Oper.wp
  simp [execOp, hop, hm, hx, hv, hr, Result.andThen]
  exact hK _ _ h
end
end Go.Proofs.Ytekpifobhgjepaa
