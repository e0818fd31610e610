/- Both of two: what a call holds between its steps. -/
import Derived.Test.YtjliabifaohfjaaChoice8
namespace Go.Proofs.Ytjliabifaohfjaa
open Go Go.RowKit
set_option linter.unusedVariables false
set_option linter.unusedSimpArgs false

theorem MapK.same {w w' : World} {P : Program} {k : TypeId} {b : Nat} {ks : List Value} {g : Value → Value} (h : MapK w P k b ks g) (e : w'.heap[b]? = w.heap[b]?) : MapK w' P k b ks g := by
  obtain ⟨es, clock, hb, rest⟩ := h
  exact ⟨es, clock, e.trans hb, rest⟩
theorem MkG.grown {E : TypeId} {rest : List Value} {w0 w w' : World} {M bm dm : Nat} {l : List Bn} {A : Option Addr} {c : Nat} (h : MkG E rest w0 w M bm l A c) (hg : w.grownBy w' (some dm)) (h1 : M ≠ dm) (h2 : bm ≠ dm) (h3 : some dm ≠ (Value.slice A l.length c).ownBlock) (h0 : w0.heap.size ≤ dm) : MkG E rest w0 w' M bm l A c := by
  obtain ⟨⟨a1, a2⟩, ⟨g, a3, a4⟩, a5, a6, a7⟩ := h
  refine ⟨⟨a1.grown hg (fun e => h1 (by injection e)) (fun k hk => by injection hk with hk; omega), a2.grown hg ?_ (fun k hk => by injection hk with hk; omega)⟩, ⟨g, a3.grown hg (fun e => h2 (by injection e)), a4⟩, a5, a6, a7⟩
  rcases hob : (Value.slice A l.length c).ownBlock with _ | j
  · exact .inl rfl
  · exact .inr fun e => h3 (by rw [hob, e])
def restA (A1 : Option Addr) (n1 c1 : Nat) (A2 : Option Addr) (n2 c2 dm : Nat) : List Value := [.slice A1 n1 c1, .slice A2 n2 c2, .map (some dm)]
/-- the memory of pairs: what is there is right; no more than T are there -/
def MemI (n : Nat) (l r : List Bn) (w : World) (dm : Nat) (acc : List Bn) (T : Nat) : Prop :=
  ∃ ks g, MapK w Try.prog 89 dm ks g ∧ (∀ q ∈ ks, ∃ x y k : Nat, q = prV x y ∧ g q = .int .i64 k ∧ AndK n l r acc x y k) ∧ ks.length ≤ T
structure AndI (n : Nat) (l r : List Bn) (rest : List Value) (w0 : World) (M bm dm : Nat) (acc : List Bn) (A : Option Addr) (c S T : Nat) (w : World) : Prop where
  mkg : MkG 78 rest w0 w M bm acc A c
  tree : TreeOk n acc
  mem : MemI n l r w dm acc T
  len : acc.length ≤ S
  ne : dm ≠ bm
  low : w0.heap.size ≤ dm
section
variable {n : Nat} {l r : List Bn} {rest : List Value} {w0 : World} {M bm dm : Nat} {acc : List Bn} {A : Option Addr} {c S T : Nat} {w w' : World}
theorem AndI.kept (h : AndI n l r rest w0 M bm dm acc A c S T w) (k : Kept w w') : AndI n l r rest w0 M bm dm acc A c S T w' := by
  obtain ⟨ks, g, h1, h2, h3⟩ := h.mem
  exact ⟨h.mkg.kept k, h.tree, ⟨ks, g, h1.kept k, h2, h3⟩, h.len, h.ne, h.low⟩
theorem AndI.mono (h : AndI n l r rest w0 M bm dm acc A c S T w) {S' T' : Nat} (hS : S ≤ S') (hT : T ≤ T') : AndI n l r rest w0 M bm dm acc A c S' T' w := by
  obtain ⟨ks, g, h1, h2, h3⟩ := h.mem
  exact ⟨h.mkg, h.tree, ⟨ks, g, h1, h2, by omega⟩, by have := h.len; omega, h.ne, h.low⟩
theorem AndI.row (h : AndI n l r rest w0 M bm dm acc A c S T w) : Row w0 w M 78 (.slice A acc.length c :: .map (some bm) :: rest) := h.mkg.1.1
theorem MemI.look (h : MemI n l r w dm acc T) (x y : Nat) (hx : x ≤ 1000) (hy : y ≤ 1000) :
    (∃ k : Nat, AndK n l r acc x y k ∧ (Instr.lookup 76 (.map (some dm)) (prV x y) true).run Try.prog w = .ok (.tuple #[.int .i64 k, .bool true]) w) ∨
    (Instr.lookup 76 (.map (some dm)) (prV x y) true).run Try.prog w = .ok (.tuple #[.int .i64 0, .bool false]) w := by
  obtain ⟨ks, g, h1, h2, h3⟩ := h
  by_cases hm : prV x y ∈ ks
  · obtain ⟨x', y', k, e, hg, hk⟩ := h2 _ hm
    obtain ⟨rfl, rfl⟩ := prV_inj e
    have := h1.look prKeyed Try.underlying76 (zero_int _) hm true
    rw [hg] at this
    exact .inl ⟨k, hk, this⟩
  · obtain ⟨kl, hkl⟩ := pr_key x y hx hy
    exact .inr (h1.miss prKeyed Try.underlying76 (zero_int _) hkl hm true)
/-- behind a put -/
theorem AndI.pushed (h : AndI n l r rest w0 M bm dm acc A c S T w) {q : List Bn × Nat} {A' : Option Addr} {c' : Nat} (hq : MkG 78 rest w0 w' M bm q.1 A' c') (ht : TreeOk n q.1) (hm : ∃ m, q.1 = acc ++ m ∧ m.length ≤ 1)
    (hf : Fr M bm (.slice A acc.length c) (.slice A' q.1.length c') w w') : AndI n l r rest w0 M bm dm q.1 A' c' (S + 1) T w' := by
  obtain ⟨ks, g, h1, h2, h3⟩ := h.mem
  obtain ⟨m, em, hm⟩ := hm
  refine ⟨hq, ht, ⟨ks, g, h1.same (hf.2 dm h1.lt (h1.ne h.mkg.1.1) h.ne (h1.far h.mkg.1.2)).1, fun z hz => ?_, h3⟩, by rw [em, List.length_append]; have := h.len; omega, h.ne, h.low⟩
  obtain ⟨x, y, k, e, hg, hk⟩ := h2 z hz
  exact ⟨x, y, k, e, hg, by rw [em]; exact hk.app h.tree m⟩
/-- a pair is kept in memory -/
theorem AndI.store (h : AndI n l r rest w0 M bm dm acc A c S T w) {x y k : Nat} (hk : AndK n l r acc x y k) (hx : x ≤ 1000) (hy : y ≤ 1000) (hT : T ≤ 1000) :
    ∃ w', (Instr.mapUpdate 76 (.map (some dm)) (prV x y) (.int .i64 k)).run Try.prog w = .ok () w' ∧ AndI n l r rest w0 M bm dm acc A c S (T + 1) w' := by
  obtain ⟨ks, g, h1, h2, h3⟩ := h.mem
  have hnew : ∀ q, (q ∈ ks ∨ q = prV x y) → ∃ x' y' k' : Nat, q = prV x' y' ∧ updK g (prV x y) (.int .i64 k) q = .int .i64 k' ∧ AndK n l r acc x' y' k' := by
    intro q hq
    by_cases e : q = prV x y
    · subst e
      exact ⟨x, y, k, rfl, updK_same _ _ _, hk⟩
    · obtain ⟨x', y', k', e1, e2, e3⟩ := h2 q (hq.resolve_right e)
      exact ⟨x', y', k', e1, by rw [updK_other e, e2], e3⟩
  have hfin : ∀ (w' : World) ks', MapK w' Try.prog 89 dm ks' (updK g (prV x y) (.int .i64 k)) → w.grownBy w' (some dm) → (∀ q ∈ ks', q ∈ ks ∨ q = prV x y) → ks'.length ≤ T + 1 → AndI n l r rest w0 M bm dm acc A c S (T + 1) w' := by
    intro w' ks' hm hg hs hl
    exact ⟨h.mkg.grown hg (fun e => h1.ne h.mkg.1.1 e.symm) (fun e => h.ne e.symm) (h1.far h.mkg.1.2) h.low, h.tree, ⟨ks', _, hm, fun q hq => hnew q (hs q hq), hl⟩, h.len, h.ne, h.low⟩
  by_cases hm : prV x y ∈ ks
  · obtain ⟨w', hr, hm', hg⟩ := h1.set prKeyed Try.underlying76 (v := .int .i64 k) hm
    exact ⟨w', hr, hfin w' ks hm' hg (fun q hq => .inl hq) (by omega)⟩
  · obtain ⟨kl, hkl⟩ := pr_key x y hx hy
    obtain ⟨w', hr, hm', hg⟩ := h1.put prKeyed Try.underlying76 (by unfold maxLen; omega) (v := .int .i64 k) hkl hm
    refine ⟨w', hr, hfin w' _ hm' hg (fun q hq => ?_) (by simp; omega)⟩
    rcases List.mem_append.1 hq with h | h
    · exact .inl h
    · exact .inr (List.mem_singleton.1 h)
end
end Go.Proofs.Ytjliabifaohfjaa
