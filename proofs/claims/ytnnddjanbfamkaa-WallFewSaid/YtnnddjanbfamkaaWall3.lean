/- The walk of package wall: one deed. -/
import Derived.Test.YtnnddjanbfamkaaWall2
namespace Go.Proofs.Ytnnddjanbfamkaa
open Go Go.RowKit
set_option linter.unusedVariables false

/-- the state, where its struct stands -/
structure WSt (w0 w : World) (S R K : Nat) (AF : Option Addr) (cf : Nat) (Af : Option Addr) (lf c1 : Nat) (Ac : Option Addr) (m cc who : Nat) (r k f : Nat → BitVec 32) : Prop where
  st : Row w0 w S 96 [.slice Af lf c1, .slice Ac m cc, .slice (some ⟨R, 0, none⟩) who who, .slice (some ⟨K, 0, none⟩) who who, .slice AF lf cf]
  rd : Row w0 w R 22 (rowsV who r)
  kn : Row w0 w K 22 (rowsV who k)
  fr : Own w0 w 22 1 (.slice AF lf cf) lf (rowsV lf f)
  ne : R ≠ K
  far : ∀ g, AF = some ⟨g, 0, none⟩ → g ≠ R ∧ g ≠ K
section
variable {w0 w w' : World} {S R K : Nat} {AF : Option Addr} {cf : Nat} {Af : Option Addr} {lf c1 : Nat} {Ac : Option Addr} {m cc who : Nat} {r k f : Nat → BitVec 32}
theorem WSt.kept (h : WSt w0 w S R K AF cf Af lf c1 Ac m cc who r k f) (hk : Kept w w') : WSt w0 w' S R K AF cf Af lf c1 Ac m cc who r k f :=
  ⟨h.st.kept hk, h.rd.kept hk, h.kn.kept hk, h.fr.kept hk, h.ne, h.far⟩
theorem WSt.stNeR (h : WSt w0 w S R K AF cf Af lf c1 Ac m cc who r k f) : S ≠ R ∧ S ≠ K := by
  constructor
  · intro e
    have h1 := h.st.1
    have h2 := h.rd.1
    obtain ⟨c, h3, _⟩ := h1
    obtain ⟨c', h4, _⟩ := h2
    rw [e, h4] at h3
    injection h3 with h3
    injection h3 with _ h3
    exact absurd h3 (by decide)
  · intro e
    have h1 := h.st.1
    have h2 := h.kn.1
    obtain ⟨c, h3, _⟩ := h1
    obtain ⟨c', h4, _⟩ := h2
    rw [e, h4] at h3
    injection h3 with h3
    injection h3 with _ h3
    exact absurd h3 (by decide)
theorem WSt.setR (h : WSt w0 w S R K AF cf Af lf c1 Ac m cc who r k f) (i : Nat) (v : BitVec 32) : WSt w0 (w.setCell ⟨R, i, none⟩ (.int .u32 (W v))) S R K AF cf Af lf c1 Ac m cc who (updN r i v) k f := by
  refine ⟨h.st.other (p := ⟨R, i, none⟩) _ h.stNeR.1 h.rd.2.1, ?_, h.kn.other (p := ⟨R, i, none⟩) _ (Ne.symm h.ne) h.rd.2.1, ?_, h.ne, h.far⟩
  · rw [← rowsV_set]; exact h.rd.set i _
  · refine h.fr.grown (grown_set w ⟨R, i, none⟩ _) ?_ (fun k hk => by injection hk with hk; subst hk; exact h.rd.2.1)
    rcases h.fr.1.2 with ⟨e, _⟩ | ⟨g, cap, cur, e, _⟩
    · injection e with e; subst e; exact .inl rfl
    · injection e with e
      subst e
      exact .inr (fun e2 => (h.far g rfl).1 (by injection e2))
theorem WSt.setK (h : WSt w0 w S R K AF cf Af lf c1 Ac m cc who r k f) (i : Nat) (v : BitVec 32) : WSt w0 (w.setCell ⟨K, i, none⟩ (.int .u32 (W v))) S R K AF cf Af lf c1 Ac m cc who r (updN k i v) f := by
  refine ⟨h.st.other (p := ⟨K, i, none⟩) _ h.stNeR.2 h.kn.2.1, h.rd.other (p := ⟨K, i, none⟩) _ h.ne h.kn.2.1, ?_, ?_, h.ne, h.far⟩
  · rw [← rowsV_set]; exact h.kn.set i _
  · refine h.fr.grown (grown_set w ⟨K, i, none⟩ _) ?_ (fun k hk => by injection hk with hk; subst hk; exact h.kn.2.1)
    rcases h.fr.1.2 with ⟨e, _⟩ | ⟨g, cap, cur, e, _⟩
    · injection e with e; subst e; exact .inl rfl
    · injection e with e
      subst e
      exact .inr (fun e2 => (h.far g rfl).2 (by injection e2))
theorem WSt.setF {g : Nat} (h : WSt w0 w S R K (some ⟨g, 0, none⟩) cf Af lf c1 Ac m cc who r k f) (i : Nat) (v : BitVec 32) : WSt w0 (w.setCell ⟨g, i, none⟩ (.int .u32 (W v))) S R K (some ⟨g, 0, none⟩) cf Af lf c1 Ac m cc who r k (updN f i v) := by
  have hg := h.fr.since g rfl
  have hne : S ≠ g := fun e => h.fr.far h.st (by decide) (by rw [e]; rfl)
  refine ⟨h.st.other (p := ⟨g, i, none⟩) _ hne hg, h.rd.other (p := ⟨g, i, none⟩) _ (Ne.symm (h.far g rfl).1) hg, h.kn.other (p := ⟨g, i, none⟩) _ (Ne.symm (h.far g rfl).2) hg, ?_, h.ne, h.far⟩
  have := h.fr.put i (.int .u32 (W v))
  rw [rowsV_set] at this
  exact this
end
/-- what the call owns besides arrays of words is as it was -/
def Keeps (w0 w w' : World) : Prop := ∀ (E : TypeId) (s : Nat) (v : Value) (n : Nat) (xs : List Value), E ≠ 22 → Own w0 w E s v n xs → Own w0 w' E s v n xs
theorem Keeps.of {w0 w w' : World} (k : Kept w w') : Keeps w0 w w' := fun _ _ _ _ _ _ h => h.kept k
theorem Keeps.trans {w0 w w1 w2 : World} (h : Keeps w0 w w1) (k : Keeps w0 w1 w2) : Keeps w0 w w2 := fun E s v n xs hne h1 => k E s v n xs hne (h E s v n xs hne h1)
theorem Keeps.setRow {w0 w : World} {B : Nat} {ys : List Value} (k : Row w0 w B 22 ys) (i : Nat) (u : Value) : Keeps w0 w (w.setCell ⟨B, i, none⟩ u) := fun _ _ _ _ _ hne h => h.setRow k hne i u
theorem Keeps.setOwn {w0 w : World} {g n c : Nat} {ys : List Value} (o : Own w0 w 22 1 (.slice (some ⟨g, 0, none⟩) n c) n ys) (i : Nat) (u : Value) : Keeps w0 w (w.setCell ⟨g, i, none⟩ u) := fun _ _ _ _ _ hne h =>
  h.grown (grown_set w ⟨g, i, none⟩ u) (h.far2 o hne) (fun k hk => by injection hk with hk; subst hk; exact o.since g rfl)
/-- what a deed leaves -/
def RetDo (w0 w : World) (S R K : Nat) (AF : Option Addr) (cf : Nat) (Af : Option Addr) (lf c1 : Nat) (Ac : Option Addr) (m cc who : Nat) (firm clss : List Int) (e : Ending) (w' : World) : Prop :=
  ∃ (code : Int) (r k f : Nat → BitVec 32), e = .returned (.int .i64 code) ∧ WSt w0 w' S R K AF cf Af lf c1 Ac m cc who r k f ∧ WInv firm clss r k f ∧ Keeps w0 w w'
theorem guardsD {b t : Int} {who lf : Nat} (h : b < 0 ∨ (who : Int) ≤ b ∨ t < 0 ∨ (lf : Int) ≤ t) : decide (b < 0) = true ∨ (decide (b < 0) = false ∧ decide ((who : Int) ≤ b) = true) ∨ (decide (b < 0) = false ∧ decide ((who : Int) ≤ b) = false ∧ decide (t < 0) = true) ∨ (decide (b < 0) = false ∧ decide ((who : Int) ≤ b) = false ∧ decide (t < 0) = false ∧ decide ((lf : Int) ≤ t) = true) := by
  simp only [decide_eq_true_eq, decide_eq_false_iff_not]
  omega
set_option maxRecDepth 100000 in
set_option maxHeartbeats 8000000 in
theorem do_bad (S R K : Nat) (AF : Option Addr) (cf : Nat) (Af : Option Addr) (lf c1 : Nat) (Ac : Option Addr) (m cc who : Nat) (r k f : Nat → BitVec 32) (firm clss : List Int) (d : De) (w0 w : World) (hw : WSt w0 w S R K AF cf Af lf c1 Ac m cc who r k f) (hi : WInv firm clss r k f)
    (hbad : (d.1 ≠ 1 ∧ d.1 ≠ 2) ∨ (d.2.1 < 0 ∨ (who : Int) ≤ d.2.1 ∨ d.2.2.1 < 0 ∨ (lf : Int) ≤ d.2.2.1)) :
    Calls Try.prog 59 #[.pointer (some ⟨S, 0, none⟩), .agg #[.int .i64 d.1, .int .i64 d.2.1, .int .i64 d.2.2.1, .int .i64 d.2.2.2.1, .int .u32 (W d.2.2.2.2.1), .int .i64 d.2.2.2.2.2]] w (RetDo w0 w S R K AF cf Af lf c1 Ac m cc who firm clss) := by
  obtain ⟨kd, by_, to_, lv, pt, vl⟩ := d
  simp only at hbad ⊢
  have HW := Lib.hid hw
  have HI := Lib.hid hi
  have hka : Kept w ((w.alloc (.cells #[.pointer (some ⟨S, 0, none⟩)] 94)).alloc (.cells #[.int .i64 kd, .int .i64 by_, .int .i64 to_, .int .i64 lv, .int .u32 (W pt), .int .i64 vl] 75)) := ((Kept.refl _).alloc _).alloc _
  have hbx := boxes2 (Kept.refl ((w.alloc (.cells #[.pointer (some ⟨S, 0, none⟩)] 94)).alloc (.cells #[.int .i64 kd, .int .i64 by_, .int .i64 to_, .int .i64 lv, .int .u32 (W pt), .int .i64 vl] 75)))
  have p0 := hbx.1.at_ 0 rfl
  have d0 := hbx.2.at_ 0 rfl
  have d1 := hbx.2.at_ 1 rfl
  have d2 := hbx.2.at_ 2 rfl
  have s0 := (hw.st.kept hka).cell 0 rfl
  have s2 := (hw.st.kept hka).cell 2 rfl
  have HK := Lib.hid hka
  clear hw hi hbx
  by_cases hkd : kd ≠ 1 ∧ kd ≠ 2
  · have e1 : (kd != 1) = true := by simpa using hkd.1
    have e2 : (kd != 2) = true := by simpa using hkd.2
    clear hbad hkd
    go_enter Try.func59, Try.ntmps59
    go_wp2_with fail
    go_ret
    exact ⟨6, r, k, f, rfl, HW.out.kept HK.out, HI.out, Keeps.of HK.out⟩
  · have hk2 : kd = 1 ∨ kd = 2 := by omega
    rcases guardsD (hbad.resolve_left hkd) with g1 | ⟨g1, g2⟩ | ⟨g1, g2, g3⟩ | ⟨g1, g2, g3, g4⟩
    all_goals
      clear hbad hkd
      rcases hk2 with rfl | rfl
      all_goals
        go_enter Try.func59, Try.ntmps59
        go_wp2_with fail
        go_quiet (fail)
        go_wp2_with fail
        go_ret
        exact ⟨2, r, k, f, rfl, HW.out.kept (HK.out.drewN nq), HI.out, Keeps.of (HK.out.drewN nq)⟩
end Go.Proofs.Ytnnddjanbfamkaa
