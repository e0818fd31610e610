/- A graph that deeds change: what lies beside each other in memory; the walk of 'is it here?'. -/
import Derived.Test.YtekpifobhgjepaaGrant3
import Derived.Test.YtekpifobhgjepaaGrantQ
import Derived.Test.YtekpifobhgjepaaDeedS
namespace Go.Proofs.Ytekpifobhgjepaa
open Go Go.RowKit
set_option linter.unusedVariables false
set_option linter.unusedSimpArgs false

/-- the graph behind a pointer: N rows of 14 words -/
def GStB (wa w : World) (G g c N : Nat) (Bs : Nat → Nat) (m : Mx) : Prop := Row wa w G 92 [.slice (some ⟨g, 0, none⟩) N c] ∧ GrS wa w g c N Bs m
def GSt (wa w : World) (G N : Nat) (m : Mx) : Prop := ∃ g c Bs, GStB wa w G g c N Bs m
def okT (e : TypeId) : Prop := e ≠ 92 ∧ e ≠ 42 ∧ e ≠ 23
/-- what is of other types is as it was -/
def KeepG (wa w w' : World) : Prop := Kept wa w' ∧ (∀ (E : TypeId) (s : Nat) (v : Value) (n : Nat) (xs : List Value), okT E → Own wa w E s v n xs → Own wa w' E s v n xs) ∧ ∀ (B : Nat) (e : TypeId) (xs : List Value), okT e → Row wa w B e xs → Row wa w' B e xs
section
variable {wa w w1 w' : World} {G g c N : Nat} {Bs : Nat → Nat} {m : Mx}
theorem KeepG.of (h : Kept wa w) (k : Kept w w') : KeepG wa w w' := ⟨h.trans k, fun _ _ _ _ _ _ o => o.kept k, fun _ _ _ _ r => r.kept k⟩
theorem KeepG.trans (h : KeepG wa w w1) (k : KeepG wa w1 w') : KeepG wa w w' := ⟨k.1, fun E s v n xs hE o => k.2.1 E s v n xs hE (h.2.1 E s v n xs hE o), fun B e xs he r => k.2.2 B e xs he (h.2.2 B e xs he r)⟩
theorem KeepG.setRow {B : Nat} {e : TypeId} {ys : List Value} (h : Kept wa w) (r : Row wa w B e ys) (he : ¬ okT e) (i : Nat) (u : Value) : KeepG wa w (w.setCell ⟨B, i, none⟩ u) := by
  refine ⟨h.setCell (p := ⟨B, i, none⟩) r.2.1 u, fun E s v n xs hE o => o.setRow r (fun e2 => he (by rw [← e2]; exact hE)) i u, fun B2 e2 xs he2 r2 => r2.other (p := ⟨B, i, none⟩) u (fun e3 => ?_) r.2.1⟩
  have e3 : B2 = B := e3
  subst e3
  obtain ⟨cur, h1, _⟩ := r.1
  obtain ⟨cur2, h2, _⟩ := r2.1
  rw [h1] at h2
  injection h2 with h2
  injection h2 with _ h2
  exact he (by rw [h2]; exact he2)
theorem KeepG.grown {E : TypeId} {s n : Nat} {v : Value} {ys : List Value} (o : Own wa w E s v n ys) (hE : ¬ okT E) (hg : w.grownBy w' v.ownBlock) : KeepG wa w w' := by
  refine ⟨o.kept0.grown hg o.since, fun E2 s2 v2 n2 xs hE2 o2 => o2.grown hg (o2.far2 o (fun e => hE (by rw [← e]; exact hE2))) o.since, fun B e xs he r => r.grown hg (o.far r (fun e2 => hE (by rw [e2]; exact he))) o.since⟩
theorem GStB.kept0 (h : GStB wa w G g c N Bs m) : Kept wa w := h.1.kept0
theorem GStB.kept (h : GStB wa w G g c N Bs m) (k : Kept w w') : GStB wa w' G g c N Bs m := ⟨h.1.kept k, h.2.kept k⟩
theorem GStB.set (h : GStB wa w G g c N Bs m) {i : Nat} (hi : i < N) (k : Nat) (v : BitVec 32) : GStB wa (w.setCell ⟨Bs i, k, none⟩ (.int .u32 (W v))) G g c N Bs (setM m i k v) := by
  refine ⟨h.1.other (p := ⟨Bs i, k, none⟩) _ (fun e => ?_) (h.2.2.1 i hi).2.1, h.2.set hi k v⟩
  have e : G = Bs i := e
  obtain ⟨cur, h1, _⟩ := h.1.1
  obtain ⟨cur2, h2, _⟩ := (h.2.2.1 i hi).1
  rw [← e, h1] at h2
  injection h2 with h2
  injection h2 with _ h2
  exact absurd h2 (by decide)
theorem GStB.keepSet (h : GStB wa w G g c N Bs m) {i : Nat} (hi : i < N) (k : Nat) (v : Value) : KeepG wa w (w.setCell ⟨Bs i, k, none⟩ v) :=
  KeepG.setRow h.kept0 (h.2.2.1 i hi) (fun h => h.2.2 rfl) k v
/-- a row's slice, and a place -/
theorem GStB.at_ (h : GStB wa w G g c N Bs m) {i j : Nat} (hi : i < N) (hj : j < 14) : w.cell? ⟨g, i, none⟩ = some (.slice (some ⟨Bs i, 0, none⟩) 14 14) ∧ w.cell? ⟨Bs i, j, none⟩ = some (.int .u32 (W (m i j))) ∧ w.frozen? ⟨Bs i, j, none⟩ = false :=
  ⟨h.2.1.cell i (outL_at hi), h.2.2.cell hi hj⟩
end
def hereB (N : Nat) (i : Int) : Bool := decide (0 ≤ i) && decide (i < (N : Int))
theorem here_any (N : Nat) (i : Int) (B : Nat) (A : Option Addr) (c : Nat) (w : World) (hc : w.cell? ⟨B, 0, none⟩ = some (.slice A N c)) :
    Calls Try.prog 65 #[.int .i64 i, .pointer (some ⟨B, 0, none⟩)] w fun e w' => e = .returned (.bool (hereB N i)) ∧ w = w' := by
  have H := Lib.hid (show hereB N i = (decide (0 ≤ i) && decide (i < (N : Int))) from rfl)
  cases h1 : decide (0 ≤ i)
  · have HR := Lib.hid (show hereB N i = false by rw [H.out, h1]; rfl)
    clear H
    go_enter Try.func65, Try.ntmps65
    go_wp2
    go_ret
    exact ⟨by rw [HR.out]; rfl, rfl⟩
  · have HR := Lib.hid (show hereB N i = decide (i < (N : Int)) by rw [H.out, h1]; rfl)
    generalize hereB N i = r at HR ⊢
    clear H
    go_enter Try.func65, Try.ntmps65
    go_wp2
    go_ret
    exact ⟨by rw [HR.out]; rfl, rfl⟩
/-- what a deed hands back -/
def RetDo (wa w : World) (G n : Nat) (g0 : Mx) (e : Ending) (w' : World) : Prop :=
  ∃ (code : Int) (N' : Nat) (m' : Mx) (rep' : Nat → Nat), e = .returned (.int .i64 code) ∧ KeepG wa w w' ∧ GSt wa w' G N' m' ∧ GInv n g0 N' m' rep' ∧ N' ≤ 14
end Go.Proofs.Ytekpifobhgjepaa
