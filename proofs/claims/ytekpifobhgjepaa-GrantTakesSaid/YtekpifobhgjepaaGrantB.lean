/- grant.Play: a deed of any kind that drops no rights; what lies beside each other. -/
import Derived.Test.YtekpifobhgjepaaGrant6
import Derived.Test.YtekpifobhgjepaaGrant7
import Derived.Test.YtekpifobhgjepaaGrant9
import Derived.Test.YtekpifobhgjepaaGrantA
import Derived.Test.YtekpifobhgjepaaLat2
namespace Go.Proofs.Ytekpifobhgjepaa
open Go Go.RowKit
set_option linter.unusedVariables false
set_option linter.unusedSimpArgs false
section
variable {wa w w' : World} {G g c N n : Nat} {Bs : Nat → Nat} {m g0 : Mx} {rp : Nat → Nat}
theorem do_any (d : De) (hd : d.1 ≠ 4) (h : GStB wa w G g c N Bs m) (hi : GInv n g0 N m rp) (hN : N ≤ 14) :
    Calls Try.prog 52 #[.pointer (some ⟨G, 0, none⟩), .agg #[.int .i64 d.1, .int .i64 d.2.1, .int .i64 d.2.2.1, .int .i64 d.2.2.2.1, .int .u32 (W d.2.2.2.2.1), .int .i64 d.2.2.2.2.2]] w (RetDo wa w G n g0) := by
  obtain ⟨kind, bY, tO, lev, pa, val⟩ := d
  simp only at hd ⊢
  by_cases hk : kind < 1 ∨ 4 < kind
  · exact do_kind kind bY tO lev val pa h hi hN hk
  have here : ∀ i : Int, hereB N i = true → ∃ k : Nat, i = k ∧ k < N := fun i hi => by
    unfold hereB at hi
    rw [Bool.and_eq_true, decide_eq_true_eq, decide_eq_true_eq] at hi
    obtain ⟨k, rfl⟩ := Int.eq_ofNat_of_zero_le hi.1
    exact ⟨k, rfl, by omega⟩
  rcases (show kind = 1 ∨ kind = 2 ∨ kind = 3 by omega) with rfl | rfl | rfl
  · by_cases hb : hereB N bY = false ∨ (hereB N bY = true ∧ (hereB N tO = false ∨ (hereB N tO = true ∧ ((bY == tO) = true ∨ ((bY == tO) = false ∧ (hereB N lev = false ∨ (hereB N lev = true ∧ (lev == bY) = true)))))))
    · exact do_arg1 bY tO lev val pa h hi hN hb
    · have h1 : hereB N bY = true := by cases q : hereB N bY <;> simp_all
      have h2 : hereB N tO = true := by cases q : hereB N tO <;> simp_all
      have h3 : hereB N lev = true := by cases q : hereB N lev <;> cases q2 : (bY == tO) <;> simp_all
      have h4 : (bY == tO) = false := by cases q2 : (bY == tO) <;> simp_all
      have h5 : (lev == bY) = false := by cases q2 : (lev == bY) <;> simp_all
      obtain ⟨b, rfl, hbN⟩ := here _ h1
      obtain ⟨t, rfl, ht⟩ := here _ h2
      obtain ⟨o, rfl, ho⟩ := here _ h3
      exact do_take b t o val pa h hi hN hbN ht ho (fun e => by rw [e] at h4; simp at h4) (fun e => by rw [e] at h5; simp at h5)
  · by_cases hb : hereB N bY = false ∨ (hereB N bY = true ∧ (hereB N tO = false ∨ (hereB N tO = true ∧ ((bY == tO) = true ∨ ((bY == tO) = false ∧ (hereB N lev = false ∨ (hereB N lev = true ∧ (lev == tO) = true)))))))
    · exact do_arg2 bY tO lev val pa h hi hN hb
    · have h1 : hereB N bY = true := by cases q : hereB N bY <;> simp_all
      have h2 : hereB N tO = true := by cases q : hereB N tO <;> simp_all
      have h3 : hereB N lev = true := by cases q : hereB N lev <;> cases q2 : (bY == tO) <;> simp_all
      have h4 : (bY == tO) = false := by cases q2 : (bY == tO) <;> simp_all
      have h5 : (lev == tO) = false := by cases q2 : (lev == tO) <;> simp_all
      obtain ⟨b, rfl, hbN⟩ := here _ h1
      obtain ⟨t, rfl, ht⟩ := here _ h2
      obtain ⟨o, rfl, ho⟩ := here _ h3
      exact do_grant b t o val pa h hi hN hbN ht ho (fun e => by rw [e] at h4; simp at h4) (fun e => by rw [e] at h5; simp at h5)
  · cases h1 : hereB N bY
    · exact do_arg3 bY tO lev val pa h hi hN h1
    · obtain ⟨b, rfl, hb⟩ := here _ h1
      exact do_make b tO lev val pa h hi hN hb
theorem GStB.grown {E : TypeId} {s k : Nat} {v : Value} {ys : List Value} (h : GStB wa w G g c N Bs m) (o : Own wa w E s v k ys) (hE : okT E) (hg : w.grownBy w' v.ownBlock) : GStB wa w' G g c N Bs m :=
  ⟨h.1.grown hg (o.far h.1 hE.1) o.since, h.2.1.grown hg (h.2.1.far2 o (fun e => hE.2.1 e.symm)) o.since, h.2.2.grown hg (fun i hi => o.far (h.2.2.1 i hi) hE.2.2) o.since⟩
theorem GStB.setRow {B : Nat} {e : TypeId} {ys : List Value} (h : GStB wa w G g c N Bs m) (r : Row wa w B e ys) (he : okT e) (i : Nat) (u : Value) : GStB wa (w.setCell ⟨B, i, none⟩ u) G g c N Bs m :=
  ⟨h.1.other (p := ⟨B, i, none⟩) u (fun e2 => h.1.apart r (fun e3 => he.1 e3.symm) e2) r.2.1, h.2.1.setRow r (fun e3 => he.2.1 e3.symm) i u, h.2.2.grown (grown_set w ⟨B, i, none⟩ u) (fun k hk e2 => (h.2.2.1 k hk).apart r (fun e3 => he.2.2 e3.symm) (by injection e2)) (fun k hk => by injection hk with hk; have hk : B = k := hk; have := r.2.1; omega)⟩
theorem GSt.grown {E : TypeId} {s k : Nat} {v : Value} {ys : List Value} (h : GSt wa w G N m) (o : Own wa w E s v k ys) (hE : okT E) (hg : w.grownBy w' v.ownBlock) : GSt wa w' G N m := by
  obtain ⟨g, c, Bs, h⟩ := h
  exact ⟨g, c, Bs, h.grown o hE hg⟩
theorem GSt.setRow {B : Nat} {e : TypeId} {ys : List Value} (h : GSt wa w G N m) (r : Row wa w B e ys) (he : okT e) (i : Nat) (u : Value) : GSt wa (w.setCell ⟨B, i, none⟩ u) G N m := by
  obtain ⟨g, c, Bs, h⟩ := h
  exact ⟨g, c, Bs, h.setRow r he i u⟩
theorem GSt.kept (h : GSt wa w G N m) (k : Kept w w') : GSt wa w' G N m := by
  obtain ⟨g, c, Bs, h⟩ := h
  exact ⟨g, c, Bs, h.kept k⟩
end
theorem Own.baseG {w w1 w2 : World} {E : TypeId} {s n : Nat} {v : Value} {xs : List Value} (h : Own w1 w2 E s v n xs) (k : Kept w w1) : Own w w2 E s v n xs := by
  refine ⟨⟨h.1.1, ?_⟩, k.trans h.2⟩
  rcases h.1.2 with hn | ⟨g, cap, cur, e, hb, rest⟩
  · exact .inl hn
  · exact .inr ⟨g, cap, cur, e, Nat.le_trans k.size hb, rest⟩
theorem Row.baseG {w w1 w2 : World} {B : Nat} {e : TypeId} {xs : List Value} (h : Row w1 w2 B e xs) (k : Kept w w1) : Row w w2 B e xs := ⟨h.1, Nat.le_trans k.size h.2.1, k.trans h.2.2⟩
theorem GrS.baseG {w w1 w2 : World} {g c n : Nat} {Bs : Nat → Nat} {m : Mx} (h : GrS w1 w2 g c n Bs m) (k : Kept w w1) : GrS w w2 g c n Bs m := ⟨h.1.baseG k, fun i hi => (h.2.1 i hi).baseG k, h.2.2⟩
theorem own_slG {w0 w : World} {E : TypeId} {s n c : Nat} {A : Option Addr} {xs : List Value} (h : Own w0 w E s (.slice A n c) n xs) : Sl w s A n xs := by
  obtain ⟨A2, c2, e, hsl, _⟩ := h.form
  injection e with e
  subst e
  exact hsl
theorem info_errnoG : (Try.prog.info? 24).map (fun i => (i.zero, i.size, i.bytes)) = some (some (.int .i64 0), 1, 8) := by kernel_rfl
theorem info_edgeG : (Try.prog.info? 97).map (fun i => (i.zero, i.size, i.bytes)) = some (some (.agg #[.int .i64 0, .int .i64 0, .int .u32 0]), 3, 24) := by kernel_rfl
theorem one_edgeG (a b c : Int) : ∀ u ∈ (#[Value.int .i64 a, Value.int .i64 b, Value.int .u32 c] : Array Value).toList, u.oneCell' = true := fun u hu => by
  simp at hu
  rcases hu with rfl | rfl | rfl <;> rfl
theorem okErrno : okT 24 := ⟨by decide, by decide, by decide⟩
theorem okEdge : okT 97 := ⟨by decide, by decide, by decide⟩
theorem okGraph : okT 74 := ⟨by decide, by decide, by decide⟩
end Go.Proofs.Ytekpifobhgjepaa
