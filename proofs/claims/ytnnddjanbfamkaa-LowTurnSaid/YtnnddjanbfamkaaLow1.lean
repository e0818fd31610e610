/- The state of package low, where its struct stands, and what a write to one of its arrays leaves. -/
import Derived.Test.YtnnddjanbfamkaaCloneL
import Derived.Test.YtnnddjanbfamkaaMarkP
import Derived.Test.YtnnddjanbfamkaaDeed
namespace Go.Proofs.Ytnnddjanbfamkaa
open Go Go.RowKit
set_option linter.unusedVariables false

theorem rowsV_upd (n : Nat) (m : Nat → BitVec 32) (k : Nat) (x : BitVec 32) : (rowsV n m).set k (.int .u32 (W x)) = rowsV n (upd m k x) := rowsV_set n m k x
theorem labsV_set (n : Nat) (m : Nat → Lab) (i : Nat) (x : Lab) : ((labsV n m).set (i * 2) (.int .i64 x.1)).set (i * 2 + 1) (.int .u32 (W x.2)) = labsV n (upd m i x) := by
  unfold labsV
  rw [labCells_set]
  congr 1
  apply List.ext_getElem
  · simp
  · intro j h1 h2
    rw [List.getElem_set]
    simp only [List.getElem_map, List.getElem_range]
    unfold upd
    by_cases e : i = j
    · subst e; simp
    · rw [if_neg e, if_neg (fun h => e h.symm)]
structure LSt (w0 w : World) (S K : Nat) (Ac At AM AF : Option Addr) (nc c1 nt c2 cM cF : Nat) (s : MSt) : Prop where
  st : Row w0 w S 85 [.slice Ac nc c1, .slice At nt c2, .slice AM nc cM, .slice (some ⟨K, 0, none⟩) nc nc, .slice AF nt cF]
  mr : Own w0 w 24 2 (.slice AM nc cM) nc (labsV nc s.marks)
  kn : Row w0 w K 22 (rowsV nc s.knows)
  fr : Own w0 w 22 1 (.slice AF nt cF) nt (rowsV nt s.from_)
  far : ∀ g, AF = some ⟨g, 0, none⟩ → g ≠ K
section
variable {w0 w w' : World} {S K : Nat} {Ac At AM AF : Option Addr} {nc c1 nt c2 cM cF : Nat} {s : MSt}
theorem LSt.kept (h : LSt w0 w S K Ac At AM AF nc c1 nt c2 cM cF s) (k : Kept w w') : LSt w0 w' S K Ac At AM AF nc c1 nt c2 cM cF s := ⟨h.st.kept k, h.mr.kept k, h.kn.kept k, h.fr.kept k, h.far⟩
theorem row_neL {B D : Nat} {e1 e2 : TypeId} {xs ys : List Value} (h : Row w0 w B e1 xs) (k : Row w0 w D e2 ys) (hne : e1 ≠ e2) : B ≠ D := by
  intro e
  obtain ⟨c, h3, _⟩ := h.1
  obtain ⟨c', h4, _⟩ := k.1
  rw [e, h4] at h3
  injection h3 with h3
  injection h3 with _ h3
  exact hne h3.symm
theorem LSt.setK (h : LSt w0 w S K Ac At AM AF nc c1 nt c2 cM cF s) (i : Nat) (v : BitVec 32) : LSt w0 (w.setCell ⟨K, i, none⟩ (.int .u32 (W v))) S K Ac At AM AF nc c1 nt c2 cM cF ⟨s.marks, upd s.knows i v, s.from_⟩ := by
  refine ⟨h.st.other (p := ⟨K, i, none⟩) _ (row_neL h.st h.kn (by decide)) h.kn.2.1, h.mr.setRow h.kn (by decide) i _, ?_, ?_, h.far⟩
  · have := h.kn.set i (.int .u32 (W v))
    rw [rowsV_upd] at this
    exact this
  · refine h.fr.grown (grown_set w ⟨K, i, none⟩ _) ?_ (fun k hk => by injection hk with hk; subst hk; exact h.kn.2.1)
    rcases h.fr.1.2 with ⟨e, _⟩ | ⟨g, cap, cur, e, _⟩
    · injection e with e; subst e; exact .inl rfl
    · injection e with e
      subst e
      exact .inr (fun e2 => h.far g rfl (by injection e2))
theorem LSt.setF {g : Nat} (h : LSt w0 w S K Ac At AM (some ⟨g, 0, none⟩) nc c1 nt c2 cM cF s) (i : Nat) (v : BitVec 32) : LSt w0 (w.setCell ⟨g, i, none⟩ (.int .u32 (W v))) S K Ac At AM (some ⟨g, 0, none⟩) nc c1 nt c2 cM cF ⟨s.marks, s.knows, upd s.from_ i v⟩ := by
  have hg := h.fr.since g rfl
  have hne : S ≠ g := fun e => h.fr.far h.st (by decide) (by rw [e]; rfl)
  refine ⟨h.st.other (p := ⟨g, i, none⟩) _ hne hg, h.mr.grown (grown_set w ⟨g, i, none⟩ _) (h.mr.far2 h.fr (by decide)) (fun k hk => by injection hk with hk; subst hk; exact hg), h.kn.other (p := ⟨g, i, none⟩) _ (Ne.symm (h.far g rfl)) hg, ?_, h.far⟩
  have := h.fr.put i (.int .u32 (W v))
  rw [rowsV_upd] at this
  exact this
theorem LSt.setM {g : Nat} (h : LSt w0 w S K Ac At (some ⟨g, 0, none⟩) AF nc c1 nt c2 cM cF s) (i : Nat) (x : Lab) : LSt w0 ((w.setCell ⟨g, i * 2, none⟩ (.int .i64 x.1)).setCell ⟨g, i * 2 + 1, none⟩ (.int .u32 (W x.2))) S K Ac At (some ⟨g, 0, none⟩) AF nc c1 nt c2 cM cF ⟨upd s.marks i x, s.knows, s.from_⟩ := by
  have hg := h.mr.since g rfl
  have hneS : S ≠ g := fun e => h.mr.far h.st (by decide) (by rw [e]; rfl)
  have hneK : K ≠ g := fun e => h.mr.far h.kn (by decide) (by rw [e]; rfl)
  have hfar := h.fr.far2 h.mr (by decide)
  have hgr := (grown_set w ⟨g, i * 2, none⟩ (.int .i64 x.1)).trans (grown_set (w.setCell ⟨g, i * 2, none⟩ (.int .i64 x.1)) ⟨g, i * 2 + 1, none⟩ (.int .u32 (W x.2)))
  have hs : ∀ k, some g = some k → w0.heap.size ≤ k := fun k hk => by injection hk with hk; subst hk; exact hg
  refine ⟨h.st.grown hgr (fun e => hneS (by injection e)) hs, ?_, h.kn.grown hgr (fun e => hneK (by injection e)) hs, h.fr.grown hgr hfar hs, h.far⟩
  have := (h.mr.put (i * 2) (.int .i64 x.1)).put (i * 2 + 1) (.int .u32 (W x.2))
  rw [labsV_set] at this
  exact this
end
end Go.Proofs.Ytnnddjanbfamkaa
