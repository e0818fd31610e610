/- The state of mark.Play: boxes that its closure holds, and what a write leaves. -/
import Derived.Test.YtnnddjanbfamkaaLowK
namespace Go.Proofs.Ytnnddjanbfamkaa
open Go Go.RowKit
set_option linter.unusedVariables false

/-- boxes of the two lists of labels, of what is handed back, of what each one knows; and the arrays -/
structure MkSt (w0 w : World) (Bc Bt O Bk M F K V : Nat) (A1 A2 : Option Addr) (nc c1 nt c2 : Nat) (VC : Value) (s : MSt) : Prop where
  bc : Row w0 w Bc 36 [.slice A1 nc c1]
  bt : Row w0 w Bt 36 [.slice A2 nt c2]
  ot : Row w0 w O 41 [VC, .slice (some ⟨M, 0, none⟩) nc nc, .slice (some ⟨F, 0, none⟩) nt nt]
  bk : Row w0 w Bk 39 [.slice (some ⟨K, 0, none⟩) nc nc]
  mr : Row w0 w M 24 (labsV nc s.marks)
  fr : Row w0 w F 22 (rowsV nt s.from_)
  kn : Row w0 w K 22 (rowsV nc s.knows)
  ne : F ≠ K
  vr : Row w0 w V 41 [.slice none 0 0, .slice none 0 0, .slice none 0 0]
  nv : O ≠ V
section
variable {w0 w w' : World} {Bc Bt O Bk M F K V : Nat} {A1 A2 : Option Addr} {nc c1 nt c2 : Nat} {VC : Value} {s : MSt}
theorem MkSt.kept (h : MkSt w0 w Bc Bt O Bk M F K V A1 A2 nc c1 nt c2 VC s) (k : Kept w w') : MkSt w0 w' Bc Bt O Bk M F K V A1 A2 nc c1 nt c2 VC s := ⟨h.bc.kept k, h.bt.kept k, h.ot.kept k, h.bk.kept k, h.mr.kept k, h.fr.kept k, h.kn.kept k, h.ne, h.vr.kept k, h.nv⟩
theorem MkSt.setK (h : MkSt w0 w Bc Bt O Bk M F K V A1 A2 nc c1 nt c2 VC s) (i : Nat) (v : BitVec 32) : MkSt w0 (w.setCell ⟨K, i, none⟩ (.int .u32 (W v))) Bc Bt O Bk M F K V A1 A2 nc c1 nt c2 VC ⟨s.marks, upd s.knows i v, s.from_⟩ := by
  have o := fun {B : Nat} {e : TypeId} {xs : List Value} (r : Row w0 w B e xs) (hne : B ≠ K) => r.other (p := ⟨K, i, none⟩) (.int .u32 (W v)) hne h.kn.2.1
  refine ⟨o h.bc (row_neL h.bc h.kn (by decide)), o h.bt (row_neL h.bt h.kn (by decide)), o h.ot (row_neL h.ot h.kn (by decide)), o h.bk (row_neL h.bk h.kn (by decide)), o h.mr (row_neL h.mr h.kn (by decide)), o h.fr h.ne, ?_, h.ne, o h.vr (row_neL h.vr h.kn (by decide)), h.nv⟩
  have := h.kn.set i (.int .u32 (W v))
  rw [rowsV_upd] at this
  exact this
theorem MkSt.setF (h : MkSt w0 w Bc Bt O Bk M F K V A1 A2 nc c1 nt c2 VC s) (i : Nat) (v : BitVec 32) : MkSt w0 (w.setCell ⟨F, i, none⟩ (.int .u32 (W v))) Bc Bt O Bk M F K V A1 A2 nc c1 nt c2 VC ⟨s.marks, s.knows, upd s.from_ i v⟩ := by
  have o := fun {B : Nat} {e : TypeId} {xs : List Value} (r : Row w0 w B e xs) (hne : B ≠ F) => r.other (p := ⟨F, i, none⟩) (.int .u32 (W v)) hne h.fr.2.1
  refine ⟨o h.bc (row_neL h.bc h.fr (by decide)), o h.bt (row_neL h.bt h.fr (by decide)), o h.ot (row_neL h.ot h.fr (by decide)), o h.bk (row_neL h.bk h.fr (by decide)), o h.mr (row_neL h.mr h.fr (by decide)), ?_, o h.kn (Ne.symm h.ne), h.ne, o h.vr (row_neL h.vr h.fr (by decide)), h.nv⟩
  have := h.fr.set i (.int .u32 (W v))
  rw [rowsV_upd] at this
  exact this
theorem MkSt.setM (h : MkSt w0 w Bc Bt O Bk M F K V A1 A2 nc c1 nt c2 VC s) (i : Nat) (x : Lab) : MkSt w0 ((w.setCell ⟨M, i * 2, none⟩ (.int .i64 x.1)).setCell ⟨M, i * 2 + 1, none⟩ (.int .u32 (W x.2))) Bc Bt O Bk M F K V A1 A2 nc c1 nt c2 VC ⟨upd s.marks i x, s.knows, s.from_⟩ := by
  have o := fun {B : Nat} {e : TypeId} {xs : List Value} (r : Row w0 w B e xs) (hne : B ≠ M) => (r.other (p := ⟨M, i * 2, none⟩) (.int .i64 x.1) hne h.mr.2.1).other (p := ⟨M, i * 2 + 1, none⟩) (.int .u32 (W x.2)) hne h.mr.2.1
  refine ⟨o h.bc (row_neL h.bc h.mr (by decide)), o h.bt (row_neL h.bt h.mr (by decide)), o h.ot (row_neL h.ot h.mr (by decide)), o h.bk (row_neL h.bk h.mr (by decide)), ?_, o h.fr (row_neL h.fr h.mr (by decide)), o h.kn (row_neL h.kn h.mr (by decide)), h.ne, o h.vr (row_neL h.vr h.mr (by decide)), h.nv⟩
  have := (h.mr.set (i * 2) (.int .i64 x.1)).set (i * 2 + 1) (.int .u32 (W x.2))
  rw [labsV_set] at this
  exact this
theorem MkSt.setM_keep (h : MkSt w0 w Bc Bt O Bk M F K V A1 A2 nc c1 nt c2 VC s) (i : Nat) (x : Lab) : KeepC w0 w ((w.setCell ⟨M, i * 2, none⟩ (.int .i64 x.1)).setCell ⟨M, i * 2 + 1, none⟩ (.int .u32 (W x.2))) :=
  (KeepC.setRow h.mr (by decide) (i * 2) (.int .i64 x.1)).trans (KeepC.setRow (h.mr.set (i * 2) (.int .i64 x.1)) (by decide) (i * 2 + 1) (.int .u32 (W x.2)))
/-- what a deed leaves -/
def RetMk (w0 w : World) (Bc Bt O Bk M F K V : Nat) (A1 A2 : Option Addr) (nc c1 nt c2 : Nat) (VC : Value) (r : Int × MSt) (e : Ending) (w' : World) : Prop :=
  e = .returned (.int .i64 r.1) ∧ MkSt w0 w' Bc Bt O Bk M F K V A1 A2 nc c1 nt c2 VC r.2 ∧ KeepC w0 w w'
theorem RetMk.kept {r : Int × MSt} {w1 : World} (h : MkSt w0 w Bc Bt O Bk M F K V A1 A2 nc c1 nt c2 VC r.2) (k : Kept w w1) : RetMk w0 w Bc Bt O Bk M F K V A1 A2 nc c1 nt c2 VC r (.returned (.int .i64 r.1)) w1 := ⟨rfl, h.kept k, KeepC.of k⟩
end
theorem markBad {nc nt : Nat} {clear things : Nat → Lab} {s : MSt} {d : Dd} {code : Int} (h : deedF nc nt d = code) (h0 : code ≠ 0) : markDo nc nt clear things s d = (code, s) := by
  unfold markDo
  rw [h, if_pos h0]
theorem deed_ok {nc nt : Nat} {kd : Int} {u t : Nat} {x : Int × BitVec 32 × Int} (hk : kd = 1 ∨ kd = 2) (hu : u < nc) (ht : t < nt) : deedF nc nt (kd, (u : Int), (t : Int), x) = 0 := by
  unfold deedF
  rw [if_neg (by simp only; omega), if_neg (by simp only; omega)]
theorem markRead {nc nt : Nat} {clear things : Nat → Lab} {s : MSt} {u t : Nat} {x : Int × BitVec 32 × Int} (hu : u < nc) (ht : t < nt) : markDo nc nt clear things s (1, (u : Int), (t : Int), x) = if leB (joinL (s.marks u) (things t)) (clear u) then (0, ⟨upd s.marks u (joinL (s.marks u) (things t)), upd s.knows u (s.knows u ||| s.from_ t), s.from_⟩) else (7, s) := by
  unfold markDo
  rw [deed_ok (.inl rfl) hu ht]
  simp
theorem markWrite {nc nt : Nat} {clear things : Nat → Lab} {s : MSt} {u t : Nat} {x : Int × BitVec 32 × Int} (hu : u < nc) (ht : t < nt) : markDo nc nt clear things s (2, (u : Int), (t : Int), x) = if leB (s.marks u) (things t) then (0, ⟨s.marks, s.knows, upd s.from_ t (s.from_ t ||| s.knows u)⟩) else (7, s) := by
  unfold markDo
  rw [deed_ok (.inr rfl) hu ht]
  simp
theorem markDrop {nc nt : Nat} {clear things : Nat → Lab} {s : MSt} {u : Nat} {t : Int} {x : Int × BitVec 32 × Int} (hu : u < nc) : markDo nc nt clear things s (3, (u : Int), t, x) = (0, ⟨upd s.marks u (0, 0#32), upd s.knows u 0#32, s.from_⟩) := by
  unfold markDo
  have h : deedF nc nt (3, (u : Int), t, x) = 0 := by
    unfold deedF
    rw [if_neg (by simp), if_neg (by simp only; omega)]
  rw [h]
  simp
end Go.Proofs.Ytnnddjanbfamkaa
