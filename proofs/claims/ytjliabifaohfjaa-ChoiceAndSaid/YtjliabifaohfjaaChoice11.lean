/- The walks of choice.small and what it calls itself by. -/
import Derived.Test.YtjliabifaohfjaaChoice9
namespace Go.Proofs.Ytjliabifaohfjaa
open Go Go.RowKit
set_option linter.unusedVariables false
set_option linter.unusedSimpArgs false

theorem Row.same {w0 w w' : World} {B : Nat} {e : TypeId} {xs : List Value} (h : Row w0 w B e xs) (he : w'.heap[B]? = w.heap[B]?) (k : Kept w0 w') : Row w0 w' B e xs := by
  obtain ⟨cur, h1, h2⟩ := h.1
  exact ⟨⟨cur, he.trans h1, h2⟩, h.2.1, k⟩
theorem numOk.le {l : List Bn} {v v' k : Nat} (h : numOk l v k) (hv : v' ≤ v) : numOk l v' k := ⟨h.1, fun e => Nat.le_trans hv (h.2 e)⟩
theorem sm_ok {n d v k q : Nat} {l a : List Bn} (hl : TreeOk n l) (ha : TreeOk n a) (hd : d + v = n) (hk : numOk l v k) (hq : k ≤ q) :
    TreeOk n (smF l q k a).1 ∧ (smF l q k a).2 ≤ (smF l q k a).1.length + 1 ∧ (smF l q k a).1.length + 1 ≤ a.length + 2 ^ d := by
  rw [sm_tab hl d v k q a hd hk hq]
  have P := tab_ok d v (tblF l k v d) a hd (tblF_len _ _ _ _) ha
  refine ⟨P.tree, P.num.1, ?_⟩
  obtain ⟨m, e, hm⟩ := P.ext
  have : 1 ≤ 2 ^ d := Nat.one_le_two_pow
  rw [e, List.length_append]
  omega
/-- what the inner function sees -/
structure SmI (w0 : World) (B0 B6 B7 : Nat) (A1 : Option Addr) (n1 c1 : Nat) (M bm : Nat) (acc : List Bn) (A : Option Addr) (c : Nat) (w : World) : Prop where
  mkg : MkG 69 [] w0 w M bm acc A c
  r0 : Row w0 w B0 50 [.slice A1 n1 c1]
  r6 : Row w0 w B6 66 [.pointer (some ⟨M, 0, none⟩)]
  r7 : Row w0 w B7 92 [.func (.func 54) #[] #[.pointer (some ⟨B0, 0, none⟩), .pointer (some ⟨B7, 0, none⟩), .pointer (some ⟨B6, 0, none⟩)]]
  f0 : B0 ≠ M ∧ B0 ≠ bm ∧ some B0 ≠ (Value.slice A acc.length c).ownBlock
  f6 : B6 ≠ M ∧ B6 ≠ bm ∧ some B6 ≠ (Value.slice A acc.length c).ownBlock
  f7 : B7 ≠ M ∧ B7 ≠ bm ∧ some B7 ≠ (Value.slice A acc.length c).ownBlock
section
variable {w0 : World} {B0 B6 B7 : Nat} {A1 : Option Addr} {n1 c1 : Nat} {M bm : Nat} {acc : List Bn} {A : Option Addr} {c : Nat} {w w' : World}
theorem SmI.kept (h : SmI w0 B0 B6 B7 A1 n1 c1 M bm acc A c w) (k : Kept w w') : SmI w0 B0 B6 B7 A1 n1 c1 M bm acc A c w' :=
  ⟨h.mkg.kept k, h.r0.kept k, h.r6.kept k, h.r7.kept k, h.f0, h.f6, h.f7⟩
theorem SmI.moved (h : SmI w0 B0 B6 B7 A1 n1 c1 M bm acc A c w) {acc' : List Bn} {A' : Option Addr} {c' : Nat} (hm : MkG 69 [] w0 w' M bm acc' A' c') (hf : Fr M bm (.slice A acc.length c) (.slice A' acc'.length c') w w') : SmI w0 B0 B6 B7 A1 n1 c1 M bm acc' A' c' w' := by
  have k := hm.kept0
  have a0 := hf.2 B0 h.r0.lt h.f0.1 h.f0.2.1 h.f0.2.2
  have a6 := hf.2 B6 h.r6.lt h.f6.1 h.f6.2.1 h.f6.2.2
  have a7 := hf.2 B7 h.r7.lt h.f7.1 h.f7.2.1 h.f7.2.2
  exact ⟨hm, h.r0.same a0.1 k, h.r6.same a6.1 k, h.r7.same a7.1 k, ⟨h.f0.1, h.f0.2.1, a0.2⟩, ⟨h.f6.1, h.f6.2.1, a6.2⟩, ⟨h.f7.1, h.f7.2.1, a7.2⟩⟩
theorem SmI.grown (h : SmI w0 B0 B6 B7 A1 n1 c1 M bm acc A c w) {X : Nat} (hg : w.grownBy w' (some X)) (hM : M ≠ X) (hb : bm ≠ X) (h0 : B0 ≠ X) (h6 : B6 ≠ X) (h7 : B7 ≠ X) (ho : some X ≠ (Value.slice A acc.length c).ownBlock) (hX : w0.heap.size ≤ X) : SmI w0 B0 B6 B7 A1 n1 c1 M bm acc A c w' := by
  have key : ∀ {B : Nat}, B ≠ X → some B ≠ some X := fun hne e => hne (by injection e)
  have kk : ∀ k, some X = some k → w0.heap.size ≤ k := fun k hk => by injection hk with hk; omega
  exact ⟨h.mkg.grown hg hM hb ho hX, h.r0.grown hg (key h0) kk, h.r6.grown hg (key h6) kk, h.r7.grown hg (key h7) kk, h.f0, h.f6, h.f7⟩
theorem Fr.grownNew {v v1 : Value} {w1 w2 : World} {X : Nat} (h : Fr M bm v v1 w w1) (hg : w1.grownBy w2 (some X)) (hX : w.heap.size ≤ X) : Fr M bm v v1 w w2 :=
  ⟨Nat.le_trans h.1 hg.size, fun B a b c d => by
    obtain ⟨e1, e2⟩ := h.2 B a b c d
    exact ⟨(hg.block B (Nat.lt_of_lt_of_le a h.1) (fun e => by injection e with e; omega)).trans e1, e2⟩⟩
/-- the own block of the inner function: a branch that it turns -/
structure SmB (w0 : World) (B0 B6 B7 : Nat) (M bm : Nat) (acc : List Bn) (A : Option Addr) (c Bb : Nat) (w : World) (xs : List Value) : Prop where
  row : Row w0 w Bb 74 xs
  hM : M ≠ Bb
  hb : bm ≠ Bb
  h0 : B0 ≠ Bb
  h6 : B6 ≠ Bb
  h7 : B7 ≠ Bb
  ho : some Bb ≠ (Value.slice A acc.length c).ownBlock
theorem SmB.new (h : SmI w0 B0 B6 B7 A1 n1 c1 M bm acc A c w) (xs : List Value) : SmB w0 B0 B6 B7 M bm acc A c w.heap.size (w.alloc (.cells xs.toArray 74)) xs := by
  have l1 := h.mkg.1.1.lt
  obtain ⟨g, hm, _⟩ := h.mkg.2.1
  have l2 := hm.lt
  have l3 := h.r0.lt
  have l4 := h.r6.lt
  have l5 := h.r7.lt
  refine ⟨Row.new h.mkg.kept0 _ xs _ rfl, by omega, by omega, by omega, by omega, by omega, fun e => ?_⟩
  have := (World.ownsRow.lt h.mkg.1.2.1 _ e.symm).2
  omega
theorem SmB.moved {Bb : Nat} {xs : List Value} (h : SmB w0 B0 B6 B7 M bm acc A c Bb w xs) {acc' : List Bn} {A' : Option Addr} {c' : Nat} (hk : Kept w0 w') (hf : Fr M bm (.slice A acc.length c) (.slice A' acc'.length c') w w') : SmB w0 B0 B6 B7 M bm acc' A' c' Bb w' xs := by
  have a := hf.2 Bb h.row.lt (fun e => h.hM e.symm) (fun e => h.hb e.symm) h.ho
  exact ⟨h.row.same a.1 hk, h.hM, h.hb, h.h0, h.h6, h.h7, a.2⟩
theorem SmB.set {Bb : Nat} {xs : List Value} (h : SmB w0 B0 B6 B7 M bm acc A c Bb w xs) (k : Nat) (u : Value) : SmB w0 B0 B6 B7 M bm acc A c Bb (w.setCell ⟨Bb, k, none⟩ u) (xs.set k u) :=
  ⟨h.row.set k u, h.hM, h.hb, h.h0, h.h6, h.h7, h.ho⟩
theorem SmI.setB {Bb : Nat} {xs : List Value} (h : SmI w0 B0 B6 B7 A1 n1 c1 M bm acc A c w) (b : SmB w0 B0 B6 B7 M bm acc A c Bb w xs) (k : Nat) (u : Value) : SmI w0 B0 B6 B7 A1 n1 c1 M bm acc A c (w.setCell ⟨Bb, k, none⟩ u) :=
  h.grown (grown_set w ⟨Bb, k, none⟩ u) b.hM b.hb b.h0 b.h6 b.h7 b.ho b.row.2.1
set_option maxHeartbeats 2000000 in
theorem go_low {l : List Bn} {q k : Nat} (hk : k < 2) (hI : SmI w0 B0 B6 B7 A1 n1 c1 M bm acc A c w) :
    Calls Try.prog 54 #[.int .i64 k, .pointer (some ⟨B0, 0, none⟩), .pointer (some ⟨B7, 0, none⟩), .pointer (some ⟨B6, 0, none⟩)] w (RetG 69 [] w0 w M bm acc A c (smF l q k acc)) := by
  have HV := Lib.hid (smF_le l q hk acc)
  have HI := Lib.hid hI.mkg
  have g1 : decide ((k : Int) < 2) = true := decide_eq_true (by omega)
  obtain ⟨r, hr⟩ : ∃ r, smF l q k acc = r := ⟨_, rfl⟩
  rw [hr] at HV ⊢
  clear hr hI hk
  go_enter Try.func54, Try.ntmps54
  go_wp2_with fail
  go_ret
  refine ⟨by rw [HV.out]; rfl, A, c, ?_, ?_⟩ <;> rw [HV.out]
  · exact HI.out
  · exact Fr.refl _ _ _ _
set_option maxRecDepth 100000 in
set_option maxHeartbeats 8000000 in
theorem go_any {n : Nat} {l : List Bn} (hn : n ≤ 4) (hl : TreeOk n l) (sl : SlBn w0 A1 n1 l) (h1 : n1 ≤ 200) :
    ∀ (d v k q : Nat) (acc : List Bn) (A : Option Addr) (c : Nat) (w : World), d + v = n → numOk l v k → k ≤ q → TreeOk n acc → acc.length + 2 ^ d ≤ 100 → SmI w0 B0 B6 B7 A1 n1 c1 M bm acc A c w →
    Calls Try.prog 54 #[.int .i64 k, .pointer (some ⟨B0, 0, none⟩), .pointer (some ⟨B7, 0, none⟩), .pointer (some ⟨B6, 0, none⟩)] w (RetG 69 [] w0 w M bm acc A c (smF l q k acc)) := by
  intro d
  induction d with
  | zero =>
    intro v k q acc A c w hd hk hq ht ha hI
    refine go_low ?_ hI
    by_cases h : 1 < k
    · have := hk.2 h
      have h2 := hk.1
      have := (hl (k - 2) (by omega)).1
      omega
    · omega
  | succ d ih =>
    intro v k q acc A c w hd hk hq ht ha hI
    by_cases hlow : k < 2
    · exact go_low hlow hI
    obtain ⟨p, rfl⟩ : ∃ p, k = p + 2 := ⟨k - 2, by omega⟩
    obtain ⟨q, rfl⟩ : ∃ q', q = q' + 1 := ⟨q - 1, by omega⟩
    have hp2 : 2 ^ (d + 1) = 2 * 2 ^ d := by rw [Nat.pow_succ]; omega
    have hl1 := sl.2
    have hpl : p < l.length := by have := hk.1; omega
    have hpn : p < n1 := by omega
    obtain ⟨t1, t2, t3⟩ := hl p hpl
    have hvv := hk.2 (by omega)
    rw [Nat.add_sub_cancel] at hvv
    have HE := Lib.hid (show smF l (q + 1) (p + 2) acc = putF (smF l q (bnAt l p).2.2 (smF l q (bnAt l p).2.1 acc).1).1 ((bnAt l p).1, (smF l q (bnAt l p).2.1 acc).2, (smF l q (bnAt l p).2.2 (smF l q (bnAt l p).2.1 acc).1).2) by
      conv => lhs; unfold smF
      rw [if_neg hlow, Nat.add_sub_cancel])
    have N2 : numOk l (v + 1) (bnAt l p).2.1 := ⟨by have := t2.1; omega, fun e => by have := t2.2 e; omega⟩
    have N3 : numOk l (v + 1) (bnAt l p).2.2 := ⟨by have := t3.1; omega, fun e => by have := t3.2 e; omega⟩
    have q2 : (bnAt l p).2.1 ≤ q := by have := t2.1; omega
    have q3 : (bnAt l p).2.2 ≤ q := by have := t3.1; omega
    have o2 := sm_ok (a := acc) (d := d) hl ht (by omega) N2 q2
    have o3 := sm_ok (a := (smF l q (bnAt l p).2.1 acc).1) (d := d) hl o2.1 (by omega) N3 q3
    obtain ⟨b, off, rfl, hb, c0, c1', c2⟩ := (sl.kept hI.mkg.kept0).getN p hpn
    generalize bnAt l p = x at t1 t2 t3 hvv HE N2 N3 q2 q3 o2 o3 c0 c1' c2
    obtain ⟨x0, x1, x2⟩ := x
    simp only at t1 t2 t3 hvv N2 N3 q2 q3 o2 o3 c0 c1' c2
    have hx1 : x1 ≤ 300 := by have := N2.1; omega
    have hx2 : x2 ≤ 300 := by have := N3.1; omega
    obtain ⟨ra, hra⟩ : ∃ ra, smF l q x1 acc = ra := ⟨_, rfl⟩
    simp only at HE
    rw [hra] at o2 o3 HE
    obtain ⟨rb, hrb⟩ : ∃ rb, smF l q x2 ra.1 = rb := ⟨_, rfl⟩
    rw [hrb] at o3 HE
    obtain ⟨r, hr⟩ : ∃ r, smF l (q + 1) (p + 2) acc = r := ⟨_, rfl⟩
    rw [hr] at HE ⊢
    have IH1 := Lib.hid (fun A c w => ih (v + 1) x1 q acc A c w (by omega) N2 q2 ht (by omega))
    have IH2 := Lib.hid (fun A c w => ih (v + 1) x2 q ra.1 A c w (by omega) N3 q3 o2.1 (by have := o2.2.2; omega))
    rw [hra] at IH1
    rw [hrb] at IH2
    have HRA := Lib.hid (show ra.2 ≤ 1000 by have := o2.2.1; have := o2.2.2; omega)
    have HRB := Lib.hid (show rb.2 ≤ 1000 ∧ rb.1.length + 1 ≤ 900 by have := o3.2.1; have := o3.2.2; have := o2.2.2; omega)
    have HX0 := Lib.hid (show x0 ≤ 1000 by omega)
    have g1 : decide (((p + 2 : Nat) : Int) < 2) = false := decide_eq_false (by omega)
    have g2 : ((p + 2 : Nat) : Int) - 2 = (p : Int) := by omega
    have i1 : (0 : Int) ≤ (p : Int) := by omega
    have i2 : (p : Int) < (n1 : Int) := by omega
    have hp300 : p ≤ 300 := by omega
    have m0 := hI.r0.cell 0 rfl
    have hk1 : Kept w (w.alloc (.cells #[.int .i64 x0, .int .i64 x1, .int .i64 x2] 74)) := (Kept.refl _).alloc _
    have HS1 : Hid (SmB w0 B0 B6 B7 M bm acc A c w.heap.size (w.alloc (.cells #[.int .i64 x0, .int .i64 x1, .int .i64 x2] 74)) [.int .i64 x0, .int .i64 x1, .int .i64 x2]) := Lib.hid (SmB.new hI [.int .i64 x0, .int .i64 x1, .int .i64 x2])
    have HI1 := Lib.hid (hI.kept hk1)
    have HF1 := Lib.hid ((Fr.refl M bm (.slice A acc.length c) w).kept hk1)
    obtain ⟨w1, hw1⟩ : ∃ w1, w.alloc (.cells #[.int .i64 x0, .int .i64 x1, .int .i64 x2] 74) = w1 := ⟨_, rfl⟩
    have hsz := Lib.hid (Nat.le_refl w.heap.size)
    rw [hw1] at HS1 HI1 HF1
    obtain ⟨Bb, hBb⟩ : ∃ Bb, w.heap.size = Bb := ⟨_, rfl⟩
    rw [hBb] at HS1
    have HBB := Lib.hid (show w.heap.size ≤ Bb by omega)
    have m7 := HI1.out.r7.cell 0 rfl
    have b1 := HS1.out.row.cell 1 rfl
    clear ih hI hk hq ht ha hra hrb hr o2 o3 N2 N3 q2 q3 t1 t2 t3 hvv hl1 hpl hpn hlow hp2 hd
    go_enter Try.func54, Try.ntmps54
    go_wp2_with fail
    refine (IH1.out A c w1 HI1.out).mono ?_
    rintro e w2 ⟨rfl, A2, c2', hm2, hf2⟩
    have hS2 := HS1.out.moved hm2.kept0 hf2
    have HS2 := Lib.hid hS2
    have HI2 := Lib.hid (HI1.out.moved hm2 hf2)
    have HF2 := Lib.hid (HF1.out.trans hf2)
    have f1 := hS2.row.free 1
    have b1 := hS2.row.cell 1 rfl
    have HF3 := Lib.hid (HF2.out.grownNew (grown_set w2 ⟨Bb, 1, none⟩ (.int .i64 ra.2)) HBB.out)
    have HI3 := Lib.hid (HI2.out.setB hS2 1 (.int .i64 ra.2))
    have HS3 : Hid (SmB w0 B0 B6 B7 M bm ra.1 A2 c2' Bb (w2.setCell ⟨Bb, 1, none⟩ (.int .i64 ra.2)) [.int .i64 x0, .int .i64 ra.2, .int .i64 x2]) := Lib.hid (hS2.set 1 (.int .i64 ra.2))
    obtain ⟨w3, hw3⟩ : ∃ w3, w2.setCell ⟨Bb, 1, none⟩ (.int .i64 ra.2) = w3 := ⟨_, rfl⟩
    rw [hw3] at HF3 HI3 HS3
    have m7 := HI3.out.r7.cell 0 rfl
    have b2 := HS3.out.row.cell 2 rfl
    clear hm2 hf2 hS2 m0 hw1 hk1 c0 c1' c2
    go_wp2_with fail
    refine (IH2.out A2 c2' w3 HI3.out).mono ?_
    rintro e w4 ⟨rfl, A4, c4, hm4, hf4⟩
    have hS4 := HS3.out.moved hm4.kept0 hf4
    have HI4 := Lib.hid (HI3.out.moved hm4 hf4)
    have HF4 := Lib.hid (HF3.out.trans hf4)
    have f2 := hS4.row.free 2
    have b2 := hS4.row.cell 2 rfl
    have HF5 := Lib.hid (HF4.out.grownNew (grown_set w4 ⟨Bb, 2, none⟩ (.int .i64 rb.2)) HBB.out)
    have HI5 := Lib.hid (HI4.out.setB hS4 2 (.int .i64 rb.2))
    have HS5 : Hid (SmB w0 B0 B6 B7 M bm rb.1 A4 c4 Bb (w4.setCell ⟨Bb, 2, none⟩ (.int .i64 rb.2)) [.int .i64 x0, .int .i64 ra.2, .int .i64 rb.2]) := Lib.hid (hS4.set 2 (.int .i64 rb.2))
    obtain ⟨w5, hw5⟩ : ∃ w5, w4.setCell ⟨Bb, 2, none⟩ (.int .i64 rb.2) = w5 := ⟨_, rfl⟩
    rw [hw5] at HF5 HI5 HS5
    have m6 := HI5.out.r6.cell 0 rfl
    have d0 := HS5.out.row.cell 0 rfl
    have d1 := HS5.out.row.cell 1 rfl
    have d2 := HS5.out.row.cell 2 rfl
    clear hm4 hf4 hS4 hw3
    go_wp2_with fail
    refine (put_gen 69 (by decide) [] w0 _ M bm rb.1 A4 c4 x0 ra.2 rb.2 HI5.out.mkg ⟨HX0.out, HRA.out, HRB.out.1⟩ HRB.out.2).mono ?_
    rintro e w6 ⟨rfl, A6, c6, hm6, hf6⟩
    rw [← HE.out] at hm6 hf6 ⊢
    have HM6 := Lib.hid hm6
    have HF6 := Lib.hid (HF5.out.trans hf6)
    clear hm6 hf6
    go_wp2_with fail
    go_ret
    exact ⟨rfl, A6, c6, HM6.out, HF6.out⟩
end
end Go.Proofs.Ytjliabifaohfjaa
