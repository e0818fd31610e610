/- The walks of choice.Build, tell, wrong, Read; and of Branches. -/
import Derived.Test.YtjliabifaohfjaaChoice3
import Derived.Test.YtjliabifaohfjaaTruth2
import Derived.Carry
namespace Go.Proofs.Ytjliabifaohfjaa
open Go Go.RowKit
set_option linter.unusedVariables false
set_option linter.unusedSimpArgs false

/-- a slice of branches -/
def SlBn (w : World) (A : Option Addr) (n : Nat) (l : List Bn) : Prop := Sl w 3 A n (bnCells l) ∧ l.length = n
section
variable {w w' : World} {A : Option Addr} {n : Nat} {l : List Bn}
theorem SlBn.kept (h : SlBn w A n l) (k : Kept w w') : SlBn w' A n l := ⟨h.1.kept k, h.2⟩
theorem SlBn.getN (h : SlBn w A n l) (k : Nat) (hk : k < n) : ∃ b off, A = some ⟨b, off, none⟩ ∧ b < w.heap.size ∧
    w.cell? ⟨b, off + k * 3, none⟩ = some (.int .i64 (bnAt l k).1) ∧ w.cell? ⟨b, off + k * 3 + 1, none⟩ = some (.int .i64 (bnAt l k).2.1) ∧ w.cell? ⟨b, off + k * 3 + 2, none⟩ = some (.int .i64 (bnAt l k).2.2) := by
  have hl : k < l.length := by rw [h.2]; exact hk
  obtain ⟨b, off, e, hb, hc⟩ := h.1.2 (by omega)
  obtain ⟨q1, q2, q3⟩ := bnCells_at l k l[k] (List.getElem?_eq_getElem hl)
  rw [bnAt_eq _ _ hl]
  exact ⟨b, off, e, hb, hc _ _ q1, hc _ _ q2, hc _ _ q3⟩
end
theorem MkS.new (w : World) (bm M : Nat) (h1 : w.heap.size = bm) (h2 : (w.alloc (.map #[] 0)).heap.size = M) : MkS w ((w.alloc (.map #[] 0)).alloc (.cells #[.slice none 0 0, .map (some bm)] 69)) M bm [] := by
  have hk : Kept w (w.alloc (.map #[] 0)) := (Kept.refl _).alloc _
  refine ⟨⟨none, 0, Row.new hk 69 [.slice none 0 0, .map (some bm)] M h2, Own.start (hk.alloc _)⟩, ⟨fun _ => undef, (MapK.made w Try.prog 74 _ bm h1).alloc _, (fun b hb => by cases hb)⟩, by omega, (fun b hb => by cases hb), by simp⟩
set_option maxHeartbeats 1000000 in
theorem build_good (n : Nat) (hn : n ≤ 4) (A : Option Addr) (len c : Nat) (f : List Bool) (w : World) (hs : SlB w A len f) (hf : f.length = 2 ^ n) :
    Calls Try.prog 25 #[.int .i64 n, .slice A len c] w fun e w' => ∃ A2 c2, e = .returned (.tuple #[.slice A2 (buildF n f).1.length c2, .int .i64 (buildF n f).2, .int .i64 0]) ∧ SlBn w' A2 (buildF n f).1.length (buildF n f).1 ∧ Kept w w' := by
  have hlm : len ≤ maxLen := by rw [← hs.2, hf]; have := pow_le4 n hn; unfold maxLen; omega
  have HS := Lib.hid hs
  have HF := Lib.hid hf
  have HZ := Lib.hid (truthF_ok hn hf)
  have HLM := Lib.hid hlm
  have hmm := @run_makeMap Try.prog
  have HNEW := Lib.hid (MkS.new w _ _ rfl rfl)
  have HKA := Lib.hid (show Kept w ((w.alloc (.map #[] 0)).alloc (.cells #[.slice none 0 0, .map (some w.heap.size)] 69)) from ((Kept.refl _).alloc _).alloc _)
  have HP := Lib.hid (pow_le4 n hn)
  clear hf hs hlm
  obtain ⟨r, hr⟩ : ∃ r, buildF n f = r := ⟨_, rfl⟩
  rw [hr]
  have HR := Lib.hid (show tabF n 0 f [] = r from hr)
  clear hr
  go_enter Try.func25, Try.ntmps25
  go_wp2_with fail
  refine (truthCheck_any n A len c f _ HLM.out HS.out).mono ?_
  rintro e w1 ⟨rfl, rfl⟩
  rw [HZ.out]
  go_wp2_with fail
  have HN2 := HNEW.out
  simp only [World.size_alloc] at HN2
  have HN3 := Lib.hid HN2
  clear HN2 hmm
  refine (table_mk n hn n 0 f [] w _ _ _ A len c 0 rfl (by omega) HF.out (by rw [HS.out.2]) (HS.out.kept HKA.out) HN3.out (TreeOk.nil n) (by have := HP.out; simp; omega)).mono ?_
  rintro e w2 ⟨rfl, hm2, kb2⟩
  rw [HR.out] at hm2 ⊢
  obtain ⟨⟨A2, c2, hrow, hown⟩, _, _, _, _⟩ := hm2
  have m0 := hrow.cell 0 rfl
  have FIN := Lib.hid (show SlBn w2 A2 r.1.length r.1 from ⟨by
    obtain ⟨A9, c9, e9, h9, _⟩ := hown.form
    injection e9 with e9
    subst e9
    exact h9, rfl⟩)
  have KF := Lib.hid kb2.1
  clear hrow hown kb2
  go_wp2_with fail
  go_ret3
  exact ⟨A2, c2, rfl, FIN.out, KF.out⟩
theorem build_bad (n : Int) (A : Option Addr) (len c : Nat) (f : List Bool) (w : World) (hl : len ≤ maxLen) (hs : SlB w A len f) (hz : (truthF n f != 0) = true) :
    Calls Try.prog 25 #[.int .i64 n, .slice A len c] w fun e w' => e = .returned (.tuple #[.slice none 0 0, .int .i64 0, .int .i64 (truthF n f)]) ∧ w = w' := by
  go_enter Try.func25, Try.ntmps25
  go_wp2_with fail
  refine (truthCheck_any n A len c f _ hl hs).mono ?_
  rintro e w1 ⟨rfl, rfl⟩
  go_wp2_with fail
  go_ret3
  exact ⟨rfl, rfl⟩
end Go.Proofs.Ytjliabifaohfjaa
