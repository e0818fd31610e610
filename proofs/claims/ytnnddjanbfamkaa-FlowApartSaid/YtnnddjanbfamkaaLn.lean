/- Programs: lists of lines that hold lists of lines, read from memory as trees. -/
import Derived.Test.YtnnddjanbfamkaaOpen
import Derived.Test.YtnnddjanbfamkaaSeat
namespace Go.Proofs.Ytnnddjanbfamkaa
open Go Go.RowKit Go.ChangeShapes Go.WideShapes Go.Deep
set_option linter.unusedVariables false

/-- a list of lines: kind, to, a, b, val, body and else (each with its address and room), and the lines behind it -/
inductive Ln where
  | nil
  | cons (k t a b v : Int) (bA : Option Addr) (bc : Nat) (body : Ln) (eA : Option Addr) (ec : Nat) (els : Ln) (rest : Ln)
def Ln.len : Ln → Nat
  | .nil => 0
  | .cons _ _ _ _ _ _ _ _ _ _ _ rest => rest.len + 1
/-- the lines stand from the cell o of the block B on -/
def LnAt (w : World) : Ln → Nat → Nat → Prop
  | .nil, _, _ => True
  | .cons k t a b v bA bc body eA ec els rest, B, o =>
    (w.cell? ⟨B, o, none⟩ = some (.int .i64 k) ∧ w.cell? ⟨B, o + 1, none⟩ = some (.int .i64 t) ∧ w.cell? ⟨B, o + 2, none⟩ = some (.int .i64 a) ∧ w.cell? ⟨B, o + 3, none⟩ = some (.int .i64 b) ∧ w.cell? ⟨B, o + 4, none⟩ = some (.int .i64 v) ∧
      w.cell? ⟨B, o + 5, none⟩ = some (.slice bA body.len bc) ∧ w.cell? ⟨B, o + 6, none⟩ = some (.slice eA els.len ec)) ∧
    (0 < body.len → ∃ B2 o2, bA = some ⟨B2, o2, none⟩ ∧ LnAt w body B2 o2) ∧ (0 < els.len → ∃ B2 o2, eA = some ⟨B2, o2, none⟩ ∧ LnAt w els B2 o2) ∧ body.len ≤ maxLen ∧ els.len ≤ maxLen ∧ LnAt w rest B (o + 7)
/-- a slice of lines -/
def SlLn (w : World) (A : Option Addr) (p : Ln) : Prop := p.len ≤ maxLen ∧ (0 < p.len → ∃ B o, A = some ⟨B, o, none⟩ ∧ LnAt w p B o)
section
variable {w w' : World}
theorem LnAt.kept (hk : Kept w w') : ∀ (p : Ln) (B o : Nat), LnAt w p B o → LnAt w' p B o := by
  intro p
  induction p with
  | nil => intro B o _; trivial
  | cons k t a b v bA bc body eA ec els rest ihb ihe ihr =>
    intro B o h
    obtain ⟨⟨h0, h1, h2, h3, h4, h5, h6⟩, hb, he, l1, l2, hr⟩ := h
    have up : ∀ {a : Addr} {v : Value}, w.cell? a = some v → w'.cell? a = some v := fun h => (hk.cell (cell_lt h)).trans h
    refine ⟨⟨up h0, up h1, up h2, up h3, up h4, up h5, up h6⟩, fun hl => ?_, fun hl => ?_, l1, l2, ihr B _ hr⟩
    · obtain ⟨B2, o2, e, h⟩ := hb hl
      exact ⟨B2, o2, e, ihb B2 o2 h⟩
    · obtain ⟨B2, o2, e, h⟩ := he hl
      exact ⟨B2, o2, e, ihe B2 o2 h⟩
theorem SlLn.kept {A : Option Addr} {p : Ln} (h : SlLn w A p) (hk : Kept w w') : SlLn w' A p := ⟨h.1, fun hl => by
  obtain ⟨B, o, e, h⟩ := h.2 hl
  exact ⟨B, o, e, h.kept hk _ _⟩⟩
/-- one line -/
def EltAt (w : World) (B o : Nat) : Prop := ∃ k t a b v bA bc body eA ec els, LnAt w (.cons k t a b v bA bc body eA ec els .nil) B o
theorem lines_mk (w : World) (B o n : Nat) (h : ∀ i, i < n → EltAt w B (o + i * 7)) : ∀ d i, i + d = n → ∃ p : Ln, p.len = d ∧ LnAt w p B (o + i * 7) := by
  intro d
  induction d with
  | zero => intro i _; exact ⟨.nil, rfl, trivial⟩
  | succ d ih =>
    intro i hi
    obtain ⟨p, hp, hr⟩ := ih (i + 1) (by omega)
    obtain ⟨k, t, a, b, v, bA, bc, body, eA, ec, els, h1, h2, h3, h4, h5, _⟩ := h i (by omega)
    refine ⟨.cons k t a b v bA bc body eA ec els p, by show p.len + 1 = d + 1; rw [hp], h1, h2, h3, h4, h5, ?_⟩
    have e : o + (i + 1) * 7 = o + i * 7 + 7 := by omega
    rw [e] at hr
    exact hr
end
section
variable {H : Type} {enc : TypeId × Value → H} {P : Program} {w : World} {base : Nat} {spare : Nat → Bool} {held : Bool}
theorem slice_isL {t e : TypeId} {fuel : Nat} {v : Value} {x : DataW H × List MemPlace} (ht : P.underlying t = some (.slice e)) (h : DataW.trod enc P w base spare held fuel t [v] = some x) : ∃ A n c, v = .slice A n c := by
  rcases open_slice ht h with ⟨h0, _⟩ | ⟨a, len, cap, m, k, D, Pl, hcs, hb, hl, _⟩
  · simp at h0; exact ⟨_, _, _, h0⟩
  · simp at hcs; exact ⟨_, _, _, hcs⟩
theorem open_ln {t e : TypeId} {f0 f1 f2 f3 f4 f5 f6 : Field} (ht : P.underlying t = some (.slice e)) (he : P.underlying e = some (.struct #[f0, f1, f2, f3, f4, f5, f6])) (hc : P.cellsOf e = 7)
    (o0 : f0.offset = 0) (o1 : f1.offset = 1) (o2 : f2.offset = 2) (o3 : f3.offset = 3) (o4 : f4.offset = 4) (o5 : f5.offset = 5) (o6 : f6.offset = 6)
    (k0 : P.cellsOf f0.type = 1) (k1 : P.cellsOf f1.type = 1) (k2 : P.cellsOf f2.type = 1) (k3 : P.cellsOf f3.type = 1) (k4 : P.cellsOf f4.type = 1) (k5 : P.cellsOf f5.type = 1) (k6 : P.cellsOf f6.type = 1)
    (u0 : P.underlying f0.type = some (.int .i64)) (u1 : P.underlying f1.type = some (.int .i64)) (u2 : P.underlying f2.type = some (.int .i64)) (u3 : P.underlying f3.type = some (.int .i64)) (u4 : P.underlying f4.type = some (.int .i64)) (t5 : f5.type = t) (t6 : f6.type = t) :
    ∀ (fuel : Nat) (A : Option Addr) (n c : Nat) (x : DataW H × List MemPlace), DataW.trod enc P w base spare held fuel t [.slice A n c] = some x → n ≤ maxLen ∧ ∃ p, p.len = n ∧ SlLn w A p := by
  intro fuel
  induction fuel using Nat.strongRecOn with
  | ind fuel ih =>
    intro A n c x h
    rcases DataW.trod_slice ht h with ⟨h0, _⟩ | ⟨a, len, cap, elems, rest, m, hm, hcs, _, hb, hl, hcap, hlen, hel, _, _⟩
    · simp at h0
      obtain ⟨rfl, rfl, rfl⟩ := h0
      exact ⟨Nat.zero_le _, .nil, rfl, Nat.zero_le _, fun h => absurd h (by show ¬ 0 < 0; omega)⟩
    · simp at hcs
      obtain ⟨rfl, rfl, rfl⟩ := hcs
      have hle : n ≤ maxLen := by omega
      refine ⟨hle, ?_⟩
      by_cases hn : n = 0
      · subst hn
        exact ⟨.nil, rfl, Nat.zero_le _, fun h => absurd h (by show ¬ 0 < 0; omega)⟩
      have key : ∀ i, i < n → ∃ cs y, w.cells? base (a.add (i * 7)) 7 = some cs ∧ DataW.trod enc P w base spare held m e cs = some y := fun i hi => by
        have h1 := hel i hi
        rw [List.getElem?_eq_getElem (by omega), hc] at h1
        obtain ⟨cs, h2, h3⟩ := Option.bind_eq_some_iff.1 h1
        exact ⟨cs, _, h2, h3⟩
      obtain ⟨cs0, y0, hz0, _⟩ := key 0 (by omega)
      obtain ⟨_, hz1, hz2⟩ := World.cells?_some hz0
      have hzc := hz2 0 (by omega)
      rw [List.getElem?_eq_getElem (by omega)] at hzc
      have hspot := World.cell?_spot hzc
      obtain ⟨B, o, spot⟩ := a
      have hspot' : spot = none := by simpa [Addr.add] using hspot
      subst hspot'
      have hadd : ∀ o q, (⟨B, o, none⟩ : Addr).add q = ⟨B, o + q, none⟩ := fun o q => by
        unfold Addr.add
        split
        · rename_i h0; subst h0; rfl
        · rfl
      have helt : ∀ i, i < n → EltAt w B (o + i * 7) := by
        intro i hi
        obtain ⟨cs, y, hw, hy⟩ := key i hi
        obtain ⟨_, hw1, hw2⟩ := World.cells?_some hw
        obtain ⟨ys, m', hm', _, _, hyl, hf⟩ := DataW.trod_struct he hy
        have cell : ∀ q v, q < 7 → cs[q]? = some v → w.cell? ⟨B, o + i * 7 + q, none⟩ = some v := fun q v hq hv => by
          have := hw2 q (by omega)
          rw [hadd, hadd, hv] at this
          exact this
        match cs, hw1 with
        | [c0, c1, c2, c3, c4, c5, c6], _ =>
          have q0 := hf 0 f0 rfl
          have q1 := hf 1 f1 rfl
          have q2 := hf 2 f2 rfl
          have q3 := hf 3 f3 rfl
          have q4 := hf 4 f4 rfl
          have q5 := hf 5 f5 rfl
          have q6 := hf 6 f6 rfl
          rw [o0, k0] at q0
          rw [o1, k1] at q1
          rw [o2, k2] at q2
          rw [o3, k3] at q3
          rw [o4, k4] at q4
          rw [o5, k5] at q5
          rw [o6, k6] at q6
          have e0 : ys[0]? = some (ys[0]'(by rw [hyl]; simp)) := List.getElem?_eq_getElem _
          have e1 : ys[1]? = some (ys[1]'(by rw [hyl]; simp)) := List.getElem?_eq_getElem _
          have e2 : ys[2]? = some (ys[2]'(by rw [hyl]; simp)) := List.getElem?_eq_getElem _
          have e3 : ys[3]? = some (ys[3]'(by rw [hyl]; simp)) := List.getElem?_eq_getElem _
          have e4 : ys[4]? = some (ys[4]'(by rw [hyl]; simp)) := List.getElem?_eq_getElem _
          have e5 : ys[5]? = some (ys[5]'(by rw [hyl]; simp)) := List.getElem?_eq_getElem _
          have e6 : ys[6]? = some (ys[6]'(by rw [hyl]; simp)) := List.getElem?_eq_getElem _
          rw [e0] at q0
          rw [e1] at q1
          rw [e2] at q2
          rw [e3] at q3
          rw [e4] at q4
          rw [e5, t5] at q5
          rw [e6, t6] at q6
          obtain ⟨z0, s0, _, _⟩ := DataW.trod_int u0 q0
          obtain ⟨z1, s1, _, _⟩ := DataW.trod_int u1 q1
          obtain ⟨z2, s2, _, _⟩ := DataW.trod_int u2 q2
          obtain ⟨z3, s3, _, _⟩ := DataW.trod_int u3 q3
          obtain ⟨z4, s4, _, _⟩ := DataW.trod_int u4 q4
          simp at s0 s1 s2 s3 s4 q5 q6
          subst s0 s1 s2 s3 s4
          obtain ⟨A5, n5, c5', rfl⟩ := slice_isL ht q5
          obtain ⟨A6, n6, c6', rfl⟩ := slice_isL ht q6
          obtain ⟨l5, p5, hp5, hs5⟩ := ih m' (by omega) A5 n5 c5' _ q5
          obtain ⟨l6, p6, hp6, hs6⟩ := ih m' (by omega) A6 n6 c6' _ q6
          subst hp5 hp6
          exact ⟨z0, z1, z2, z3, z4, A5, c5', p5, A6, c6', p6, ⟨cell 0 _ (by omega) rfl, cell 1 _ (by omega) rfl, cell 2 _ (by omega) rfl, cell 3 _ (by omega) rfl, cell 4 _ (by omega) rfl, cell 5 _ (by omega) rfl, cell 6 _ (by omega) rfl⟩, hs5.2, hs6.2, l5, l6, trivial⟩
      obtain ⟨p, hp, hat⟩ := lines_mk w B o n helt n 0 (by omega)
      rw [Nat.zero_mul, Nat.add_zero] at hat
      exact ⟨p, hp, by rw [hp]; exact hle, fun _ => ⟨B, o, rfl, hat⟩⟩
end
end Go.Proofs.Ytnnddjanbfamkaa
