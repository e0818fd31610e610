/- Refute: what lies in memory. -/
import Derived.Test.YtekpifobhgjepaaTwR1
import Derived.Test.YtekpifobhgjepaaLat2
namespace Go.Proofs.Ytekpifobhgjepaa
open Go Go.RowKit
set_option linter.unusedVariables false

/-- all and by, slices of the call's own beside each other, and the set there -/
structure RP (w0 w : World) (na nb : Nat) (la lb : List Value) (lev : List Ru) (va vb : Value) (bm : Nat) : Prop where
  ow : Own w0 w 29 2 va na la
  pw : Own w0 w 85 2 vb nb lb
  mp : LevK w bm lev
  dis : Dis va vb
  ma : ∀ k, va.ownBlock = some k → k ≠ bm
  mb : ∀ k, vb.ownBlock = some k → k ≠ bm
  lo : w0.heap.size ≤ bm
section
variable {w0 w w' : World} {na nb bm : Nat} {la lb : List Value} {lev : List Ru} {va vb : Value}
theorem RP.kept (h : RP w0 w na nb la lb lev va vb bm) (k : Kept w w') : RP w0 w' na nb la lb lev va vb bm := ⟨h.ow.kept k, h.pw.kept k, h.mp.kept k, h.dis, h.ma, h.mb, h.lo⟩
theorem own_low {E : TypeId} {s n : Nat} {v : Value} {xs : List Value} (h : Own w0 w E s v n xs) : ∀ k, v.ownBlock = some k → w0.heap.size ≤ k ∧ k < w.heap.size := fun k hk => World.ownsRow.lt h.1 k hk
theorem LevK.lt {b : Nat} {l : List Ru} (h : LevK w b l) : b < w.heap.size := MapK.lt h
/-- behind the append to all -/
theorem RP.pushA (h : RP w0 w na nb la lb lev va vb bm) {na2 K : Nat} {la2 : List Value} {va2 : Value} (ho : Own w0 w' 29 2 va2 na2 la2) (hg : w.grownBy w' va.ownBlock) (hK : w.heap.size ≤ K) (hat : va2.ownBlock = va.ownBlock ∨ va2.ownBlock = some K) : RP w0 w' na2 nb la2 lb lev va2 vb bm := by
  refine ⟨ho, h.pw.grownD hg h.dis.symm (fun k hk => (own_low h.ow k hk).1), MapK.grown h.mp hg (fun e => h.ma bm e.symm rfl), (Dis.moved h.dis.symm h.pw hK hat).symm, fun k hk => ?_, h.mb, h.lo⟩
  rcases hat with e | e
  · rw [e] at hk; exact h.ma k hk
  · rw [e] at hk
    injection hk with hk
    have := h.mp.lt
    omega
theorem RP.pushB (h : RP w0 w na nb la lb lev va vb bm) {nb2 K : Nat} {lb2 : List Value} {vb2 : Value} (ho : Own w0 w' 85 2 vb2 nb2 lb2) (hg : w.grownBy w' vb.ownBlock) (hK : w.heap.size ≤ K) (hat : vb2.ownBlock = vb.ownBlock ∨ vb2.ownBlock = some K) : RP w0 w' na nb2 la lb2 lev va vb2 bm := by
  refine ⟨h.ow.grownD hg h.dis (fun k hk => (own_low h.pw k hk).1), ho, MapK.grown h.mp hg (fun e => h.mb bm e.symm rfl), Dis.moved h.dis h.ow hK hat, h.ma, fun k hk => ?_, h.lo⟩
  rcases hat with e | e
  · rw [e] at hk; exact h.mb k hk
  · rw [e] at hk
    injection hk with hk
    have := h.mp.lt
    omega
/-- behind a new key -/
theorem RP.put (h : RP w0 w na nb la lb lev va vb bm) {lev2 : List Ru} (hm : LevK w' bm lev2) (hg : w.grownBy w' (some bm)) : RP w0 w' na nb la lb lev2 va vb bm := by
  have d1 : va.ownBlock = none ∨ va.ownBlock ≠ some bm := by
    rcases hv : va.ownBlock with _ | k
    · exact .inl rfl
    · exact .inr fun e => by injection e with e; exact h.ma k hv e
  have d2 : vb.ownBlock = none ∨ vb.ownBlock ≠ some bm := by
    rcases hv : vb.ownBlock with _ | k
    · exact .inl rfl
    · exact .inr fun e => by injection e with e; exact h.mb k hv e
  exact ⟨h.ow.grown hg d1 (fun k hk => by injection hk with hk; rw [← hk]; exact h.lo), h.pw.grown hg d2 (fun k hk => by injection hk with hk; rw [← hk]; exact h.lo), hm, h.dis, h.ma, h.mb, h.lo⟩
end
/-- a row that an append or a new key leaves -/
theorem Row.far {w0 w w' : World} {B : Nat} {e : TypeId} {ys : List Value} {row : Option Nat} (h : Row w0 w B e ys) (hg : w.grownBy w' row) (hne : ∀ k, row = some k → k ≠ B) (hk : Kept w0 w') : Row w0 w' B e ys := h.grownN hg hne hk
abbrev RwV : Type := Nat × TypeId × List Value
/-- the same, and blocks of the call's own beside them -/
structure RG (w0 w : World) (na nb : Nat) (la lb : List Value) (lev : List Ru) (va vb : Value) (bm : Nat) (ps : List RwV) : Prop where
  rp : RP w0 w na nb la lb lev va vb bm
  rows : ∀ t ∈ ps, Row w0 w t.1 t.2.1 t.2.2 ∧ (∀ k, va.ownBlock = some k → k ≠ t.1) ∧ (∀ k, vb.ownBlock = some k → k ≠ t.1) ∧ bm ≠ t.1
section
variable {w0 w w' : World} {na nb bm : Nat} {la lb : List Value} {lev : List Ru} {va vb : Value} {ps : List RwV}
theorem RG.kept (h : RG w0 w na nb la lb lev va vb bm ps) (k : Kept w w') : RG w0 w' na nb la lb lev va vb bm ps := ⟨h.rp.kept k, fun t ht => by obtain ⟨a, b, c, d⟩ := h.rows t ht; exact ⟨a.kept k, b, c, d⟩⟩
theorem RG.drew (h : RG w0 w na nb la lb lev va vb bm ps) : RG w0 w.drew na nb la lb lev va vb bm ps := h.kept (Kept.refl _).drew
theorem RG.sub (h : RG w0 w na nb la lb lev va vb bm ps) {qs : List RwV} (hq : ∀ t ∈ qs, t ∈ ps) : RG w0 w na nb la lb lev va vb bm qs := ⟨h.rp, fun t ht => h.rows t (hq t ht)⟩
theorem RG.add (h : RG w0 w na nb la lb lev va vb bm ps) (cs : Array Value) (t : TypeId) (B : Nat) (hB : w.heap.size = B) : RG w0 (w.alloc (.cells cs t)) na nb la lb lev va vb bm ((B, t, cs.toList) :: ps) := by
  have h2 := h.kept ((Kept.refl w).alloc (.cells cs t))
  refine ⟨h2.rp, fun u hu => ?_⟩
  rcases List.mem_cons.1 hu with rfl | hu
  · refine ⟨?_, fun k hk => ?_, fun k hk => ?_, ?_⟩
    · have := Row.new h.rp.ow.kept0 t cs.toList B hB
      simpa using this
    · have := (own_low h.rp.ow k hk).2
      show k ≠ B
      omega
    · have := (own_low h.rp.pw k hk).2
      show k ≠ B
      omega
    · have := h.rp.mp.lt
      show bm ≠ B
      omega
  · exact h2.rows u hu
theorem RG.pushA (h : RG w0 w na nb la lb lev va vb bm ps) {na2 : Nat} {la2 : List Value} {va2 : Value} (ho : Own w0 w' 29 2 va2 na2 la2) (hg : w.grownBy w' va.ownBlock) (hat : va2.ownBlock = va.ownBlock ∨ va2.ownBlock = some w.heap.size) : RG w0 w' na2 nb la2 lb lev va2 vb bm ps := by
  refine ⟨h.rp.pushA ho hg (Nat.le_refl _) hat, fun t ht => ?_⟩
  obtain ⟨a, b, c, d⟩ := h.rows t ht
  refine ⟨a.far hg b ho.kept0, fun k hk => ?_, c, d⟩
  rcases hat with e | e
  · rw [e] at hk; exact b k hk
  · rw [e] at hk
    injection hk with hk
    have := a.lt
    omega
theorem RG.pushB (h : RG w0 w na nb la lb lev va vb bm ps) {nb2 : Nat} {lb2 : List Value} {vb2 : Value} (ho : Own w0 w' 85 2 vb2 nb2 lb2) (hg : w.grownBy w' vb.ownBlock) (hat : vb2.ownBlock = vb.ownBlock ∨ vb2.ownBlock = some w.heap.size) : RG w0 w' na nb2 la lb2 lev va vb2 bm ps := by
  refine ⟨h.rp.pushB ho hg (Nat.le_refl _) hat, fun t ht => ?_⟩
  obtain ⟨a, b, c, d⟩ := h.rows t ht
  refine ⟨a.far hg c ho.kept0, b, fun k hk => ?_, d⟩
  rcases hat with e | e
  · rw [e] at hk; exact c k hk
  · rw [e] at hk
    injection hk with hk
    have := a.lt
    omega
theorem RG.put (h : RG w0 w na nb la lb lev va vb bm ps) {lev2 : List Ru} (hm : LevK w' bm lev2) (hg : w.grownBy w' (some bm)) : RG w0 w' na nb la lb lev2 va vb bm ps := by
  have h2 := h.rp.put hm hg
  refine ⟨h2, fun t ht => ?_⟩
  obtain ⟨a, b, c, d⟩ := h.rows t ht
  exact ⟨a.far hg (fun k hk => by injection hk with hk; rw [← hk]; exact d) h2.ow.kept0, b, c, d⟩
theorem RG.cell (h : RG w0 w na nb la lb lev va vb bm ps) {B : Nat} {t : TypeId} {xs : List Value} (hm : (B, t, xs) ∈ ps) (k : Nat) {u : Value} (hu : xs[k]? = some u) : w.cell? ⟨B, k, none⟩ = some u := (h.rows _ hm).1.cell k hu
theorem RG.sl (h : RG w0 w na nb la lb lev va vb bm ps) {B : Nat} {t : TypeId} {xs : List Value} (hm : (B, t, xs) ∈ ps) (s n : Nat) (hl : xs.length = n * s) : Sl w s (some ⟨B, 0, none⟩) n xs :=
  ⟨hl, fun _ => ⟨B, 0, rfl, (h.rows _ hm).1.lt, fun j u hu => by simpa using (h.rows _ hm).1.cell j hu⟩⟩
end
end Go.Proofs.Ytekpifobhgjepaa
