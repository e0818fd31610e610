/- A range over a map that the call itself has made: which keys are still to come. -/
import Derived.Test.YtjliabifaohfjaaMapK
import Derived.Maps.RangeWalk
namespace Go.Proofs.Ytjliabifaohfjaa
open Go Go.RowKit Go.Maps Go.MapKept Go.WideShapes
open Go.WideElems (Fit rd rg pl rd_key rd_val rg_of other_key)
set_option linter.unusedVariables false

/-- every element reads -/
def anyR (v : Value) : Option (DataW Unit × List MemPlace) := some (.lit (.bool true), [])
section
variable {w w' : World} {P : Program} {k : TypeId} {b r : Nat} {ks : List Value} {g : Value → Value}
theorem MapK.fit {es : Array MapEntry} {clock : Nat} (hst : Stamped es clock) (hk : ∀ x ∈ ks, ∃ l, keyOf P k x = some l) (hm : es.toList.map (fun e => (e.key, e.val)) = ks.map fun x => (x, g x)) (hn : ks.length ≤ maxLen) : Fit P k anyR es clock := by
  refine ⟨?_, hst, fun x hx => ?_⟩
  · have := congrArg List.length hm
    rw [List.length_map, List.length_map, Array.length_toList] at this
    omega
  · obtain ⟨m1, _⟩ := MapK.mem hm
    obtain ⟨l, hl⟩ := hk _ (m1 x hx).1
    exact ⟨(l, .lit (.bool true)), by simp [rd, hl, anyR]⟩
/-- block r walks over the map at block b: the keys L are still to come -/
def RanK (w : World) (P : Program) (k : TypeId) (b r : Nat) (ks : List Value) (g : Value → Value) (L : List Value) (cnt : Nat) : Prop :=
  ∃ D n left, w.ranges (H := Unit) P k anyR b r n D left cnt ∧ MapK w P k b ks g ∧ ∀ x, x ∈ L ↔ x ∈ ks ∧ ∃ kl, keyOf P k x = some kl ∧ left kl = true
theorem MapK.owns (h : MapK w P k b ks g) (hn : ks.length ≤ maxLen) : ∃ D, w.ownsMap (H := Unit) P k anyR b ks.length D ∧ (∀ x ∈ ks, ∀ kl, keyOf P k x = some kl → Keyed P k → Maps.has D kl = true) := by
  obtain ⟨es, clock, hb, st, hk, hm⟩ := h
  have F := MapK.fit (P := P) (k := k) st hk hm hn
  have hsz : es.size ≤ ks.length := by
    have := congrArg List.length hm
    rw [List.length_map, List.length_map, Array.length_toList] at this
    omega
  refine ⟨_, ⟨es, clock, hb, F, hsz, rfl⟩, fun x hx kl hkl K => ?_⟩
  obtain ⟨_, m2⟩ := MapK.mem hm
  obtain ⟨e, he, hek⟩ := m2 x hx
  have hr : rd (H := Unit) P k anyR e = some (kl, .lit (.bool true)) := by simp [rd, hek, hkl, anyR]
  have : Maps.has (DataW.map ((es.toList.map (rg (H := Unit) P k anyR)).foldr DataW.insert [])) (rg (H := Unit) P k anyR e).1 = true :=
    List.any_eq_true.2 ⟨rg P k anyR e, mem_sorted.2 (List.mem_map.2 ⟨e, he, rfl⟩), WideAt.sameKey_self (by rw [rg_of hr]; exact K.key (rd_key hr))⟩
  rw [rg_of hr] at this
  exact this
theorem RanK.ne {L : List Value} {cnt : Nat} (h : RanK w P k b r ks g L cnt) : r ≠ b := by
  obtain ⟨D, n, left, h1, _⟩ := h
  exact h1.ne
theorem RanK.mapk {L : List Value} {cnt : Nat} (h : RanK w P k b r ks g L cnt) : MapK w P k b ks g := by
  obtain ⟨D, n, left, _, h2, _⟩ := h
  exact h2
theorem RanK.lt {L : List Value} {cnt : Nat} (h : RanK w P k b r ks g L cnt) : r < w.heap.size := by
  obtain ⟨D, n, left, h1, _⟩ := h
  exact h1.lt
theorem RanK.left_eq {L : List Value} {cnt : Nat} (h : RanK w P k b r ks g L cnt) : w.rangeLeft b r = cnt := by
  obtain ⟨D, n, left, h1, _⟩ := h
  exact h1.left_eq
theorem RanK.grown {L : List Value} {cnt : Nat} {row : Option Nat} (h : RanK w P k b r ks g L cnt) (hg : w.grownBy w' row) (hb : some b ≠ row) (hr : some r ≠ row) : RanK w' P k b r ks g L cnt := by
  obtain ⟨D, n, left, h1, h2, h3⟩ := h
  exact ⟨D, n, left, h1.kept hg hb hr, h2.grown hg hb, h3⟩
theorem grown_of_kept (hk : Kept w w') : w.grownBy w' none := ⟨hk.os, hk.tape, hk.output, hk.size, fun i hi _ => hk.block i hi⟩
theorem RanK.kept {L : List Value} {cnt : Nat} (h : RanK w P k b r ks g L cnt) (hk : Kept w w') : RanK w' P k b r ks g L cnt := h.grown (grown_of_kept hk) (by simp) (by simp)
variable {ops : Array Oper} {rest : List Oper} {o : Oper} {a : Act} {Q : Exit → Act → World → Prop}
/-- 'range m' -/
theorem wpList_range_K (hg : o.guard = none) (m : Operand) (t : TypeId) (hop : o.op = Op.range t m) (e : TypeId) (K : Keyed P k) (ht : P.underlying t = some (.map k e)) (hm : a.eval m = .map (some b)) (h : MapK w P k b ks g) (hn : ks.length ≤ maxLen)
    (hK : ∀ w' cnt, RanK w' P k b w.heap.size ks g ks cnt → w.grownBy w' none → w'.heap.size = w.heap.size + 1 → wpList P ops Q rest (a.put o.dst (.pointer (some ⟨w.heap.size, 0, none⟩))) w') :
    wpList P ops Q (o :: rest) a w := by
  obtain ⟨D, hown, hhas⟩ := h.owns hn
  refine wpList_range_own w hg m t hop k e K ht anyR b ks.length D hm hown ?_
  intro w' hrg hgr hsz
  have hks : ∀ x ∈ ks, ∃ l, keyOf P k x = some l := by
    obtain ⟨es, clock, hb, st, hk, hm⟩ := h
    exact hk
  refine hK w' _ ⟨D, ks.length, _, hrg, h.grown hgr (by simp), fun x => ⟨fun hx => ?_, fun hx => hx.1⟩⟩ hgr hsz
  obtain ⟨kl, hkl⟩ := hks x hx
  exact ⟨hx, kl, hkl, hhas x hx kl hkl K⟩
open Classical in
/-- the step -/
theorem wpList_next_K (hg : o.guard = none) (it : Operand) (hop : o.op = Op.next it false) (K : Keyed P k) {L : List Value} {cnt : Nat} (hit : a.eval it = .pointer (some ⟨r, 0, none⟩)) (h : RanK w P k b r ks g L cnt)
    (hDone : (∀ x, x ∉ L) → wpList P ops Q rest (a.put o.dst (.tuple #[.bool false])) w)
    (hMore : ∀ (x v : Value) (w' : World) (cnt' : Nat) (L' : List Value), x ∈ L → x ∈ ks → (∀ y, y ∈ L' ↔ y ∈ L ∧ y ≠ x) → RanK w' P k b r ks g L' cnt' → cnt' < cnt → w.grownBy w' (some r) → w'.heap.size = w.heap.size →
      (Instr.entry (.pointer (some ⟨r, 0, none⟩))).run P w' = .ok (.tuple #[x, v]) w' → wpList P ops Q rest (a.put o.dst (.tuple #[.bool true, x, v])) w') :
    wpList P ops Q (o :: rest) a w := by
  obtain ⟨D, n, left, h1, h2, h3⟩ := h
  refine wpList_plain hg fun K' hK' => ?_
  unfold Oper.wp
  rcases h1.next K o.type with ⟨h0, hl, hrun⟩ | ⟨key, v, kl, y, w', cnt', hkey, hlk, hv, hat, hrun, hrg, hlt, hgr, hsz, hen⟩
  · simp [execOp, hop, hit, hrun, Result.andThen]
    refine hK' _ _ (hDone fun x hx => ?_)
    obtain ⟨_, kl, _, hk⟩ := (h3 x).1 hx
    rw [hl kl] at hk
    cases hk
  · simp [execOp, hop, hit, hrun, Result.andThen]
    have hkeyks : key ∈ ks := by
      have hbb := h2
      obtain ⟨es, clock, hb, st, hk, hm⟩ := h2
      obtain ⟨es', clock', since, seen, c0, hb', F', hs', hD', hr', hold', hcnt', hl1', hl2', _⟩ := h1
      rw [hb] at hb'
      injection hb' with hb'
      injection hb' with e1 e2
      subst e1
      obtain ⟨e, he, hek⟩ := hl2' kl hlk
      obtain ⟨m1, _⟩ := MapK.mem hm
      have hm1 := (m1 e he).1
      obtain ⟨l, hl⟩ := hk _ hm1
      have hr : rd (H := Unit) P k anyR e = some (l, .lit (.bool true)) := by simp [rd, hl, anyR]
      rw [rg_of hr] at hek
      have hek : l = kl := hek
      rw [hek] at hl
      rw [K.inj hkey hl]
      exact hm1
    refine hK' _ _ (hMore key v w' cnt' (L.filter fun y => decide (y ≠ key)) ((h3 key).2 ⟨hkeyks, kl, hkey, hlk⟩) hkeyks (fun y => by simp) ⟨D, n, _, hrg, h2.grown hgr (fun e => h1.ne (by injection e with e; exact e.symm)), fun y => ?_⟩ hlt hgr hsz hen)
    rw [List.mem_filter, h3 y, decide_eq_true_eq]
    constructor
    · rintro ⟨⟨hy, kl', hkl', hl'⟩, hne⟩
      refine ⟨hy, kl', hkl', ?_⟩
      rw [Bool.and_eq_true, hl']
      refine ⟨rfl, ?_⟩
      cases hs : kl'.sameKey kl
      · rfl
      · have := WideAt.sameKey_eq hs
        subst this
        exact absurd (K.inj hkl' hkey) hne
    · rintro ⟨hy, kl', hkl', hl'⟩
      rw [Bool.and_eq_true] at hl'
      refine ⟨⟨hy, kl', hkl', hl'.1⟩, fun e => ?_⟩
      subst e
      rw [hkl'] at hkey
      injection hkey with hkey
      subst hkey
      have := hl'.2
      rw [WideAt.sameKey_self (K.key hkl')] at this
      cases this
end
end Go.Proofs.Ytjliabifaohfjaa
