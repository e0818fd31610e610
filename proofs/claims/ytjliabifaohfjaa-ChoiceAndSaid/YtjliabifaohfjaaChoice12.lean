/- The walks of choice.small and choice.And. -/
import Derived.Test.YtjliabifaohfjaaChoice11
import Derived.Test.YtjliabifaohfjaaChoice10
import Derived.Test.YtjliabifaohfjaaChoice6
import Derived.Laws.EntriesVeiled
namespace Go.Proofs.Ytjliabifaohfjaa
open Go Go.RowKit
set_option linter.unusedVariables false
set_option linter.unusedSimpArgs false

theorem MkG.new {w0 w : World} (hk : Kept w0 w) (E : TypeId) (rest : List Value) (bm M : Nat) (h1 : w.heap.size = bm) (h2 : (w.alloc (.map #[] 0)).heap.size = M) : MkG E rest w0 ((w.alloc (.map #[] 0)).alloc (.cells (.slice none 0 0 :: .map (some bm) :: rest).toArray E)) M bm [] none 0 := by
  have hk2 : Kept w0 (w.alloc (.map #[] 0)) := hk.alloc _
  refine ⟨⟨Row.new hk2 E _ M h2, Own.start (hk2.alloc _)⟩, ⟨fun _ => undef, (MapK.made w Try.prog 74 _ bm h1).alloc _, (fun b hb => by cases hb)⟩, by have := hk.size; omega, (fun b hb => by cases hb), by simp⟩
theorem MkG.sl {E : TypeId} {rest : List Value} {w0 w : World} {M bm : Nat} {l : List Bn} {A : Option Addr} {c : Nat} (h : MkG E rest w0 w M bm l A c) : SlBn w A l.length l := by
  obtain ⟨⟨_, ho⟩, _⟩ := h
  obtain ⟨A9, c9, e9, h9, _⟩ := ho.form
  injection e9 with e9
  subst e9
  exact ⟨h9, rfl⟩
/-- what small has made when it begins -/
theorem SmI.start (w : World) (A : Option Addr) (len c z : Nat) (hz : w.heap.size = z) :
    SmI w z (z + 1 + 1 + 1) (z + 1 + 1 + 1 + 1) A len c (z + 1 + 1) (z + 1) [] none 0
      ((((((w.alloc (.cells #[.slice A len c] 50)).alloc (.map #[] 0)).alloc (.cells #[.slice none 0 0, .map (some (z + 1))] 69)).alloc (.cells #[.pointer (some ⟨z + 1 + 1, 0, none⟩)] 66)).alloc (.cells #[.nilFunc] 92)).setCell ⟨z + 1 + 1 + 1 + 1, 0, none⟩
        (.func (.func 54) #[] #[.pointer (some ⟨z, 0, none⟩), .pointer (some ⟨z + 1 + 1 + 1 + 1, 0, none⟩), .pointer (some ⟨z + 1 + 1 + 1, 0, none⟩)])) := by
  have k1 : Kept w (w.alloc (.cells #[.slice A len c] 50)) := (Kept.refl _).alloc _
  have r0 : Row w (w.alloc (.cells #[.slice A len c] 50)) z 50 [.slice A len c] := Row.new (Kept.refl w) _ [.slice A len c] z hz
  have s1 : (w.alloc (.cells #[.slice A len c] 50)).heap.size = z + 1 := by rw [World.size_alloc, hz]
  generalize w.alloc (.cells #[.slice A len c] 50) = w1 at k1 r0 s1 ⊢
  have m3 : MkG 69 [] w ((w1.alloc (.map #[] 0)).alloc (.cells #[.slice none 0 0, .map (some (z + 1))] 69)) (z + 1 + 1) (z + 1) [] none 0 := MkG.new k1 69 [] (z + 1) (z + 1 + 1) s1 (by rw [World.size_alloc, s1])
  have s3 : ((w1.alloc (.map #[] 0)).alloc (.cells #[.slice none 0 0, .map (some (z + 1))] 69)).heap.size = z + 1 + 1 + 1 := by rw [World.size_alloc, World.size_alloc, s1]
  have r03 := (r0.kept ((Kept.refl w1).alloc (.map #[] 0))).kept ((Kept.refl _).alloc (.cells #[.slice none 0 0, .map (some (z + 1))] 69))
  generalize (w1.alloc (.map #[] 0)).alloc (.cells #[.slice none 0 0, .map (some (z + 1))] 69) = w3 at m3 s3 r03 ⊢
  have r6 : Row w (w3.alloc (.cells #[.pointer (some ⟨z + 1 + 1, 0, none⟩)] 66)) (z + 1 + 1 + 1) 66 [.pointer (some ⟨z + 1 + 1, 0, none⟩)] := Row.new m3.kept0 _ [.pointer (some ⟨z + 1 + 1, 0, none⟩)] _ s3
  have s4 : (w3.alloc (.cells #[.pointer (some ⟨z + 1 + 1, 0, none⟩)] 66)).heap.size = z + 1 + 1 + 1 + 1 := by rw [World.size_alloc, s3]
  have m4 := m3.kept ((Kept.refl w3).alloc (.cells #[.pointer (some ⟨z + 1 + 1, 0, none⟩)] 66))
  have r04 := r03.kept ((Kept.refl w3).alloc (.cells #[.pointer (some ⟨z + 1 + 1, 0, none⟩)] 66))
  generalize w3.alloc (.cells #[.pointer (some ⟨z + 1 + 1, 0, none⟩)] 66) = w4 at r6 s4 m4 r04 ⊢
  have r7 : Row w (w4.alloc (.cells #[.nilFunc] 92)) (z + 1 + 1 + 1 + 1) 92 [.nilFunc] := Row.new m4.kept0 _ [.nilFunc] _ s4
  have m5 := m4.kept ((Kept.refl w4).alloc (.cells #[.nilFunc] 92))
  have r05 := r04.kept ((Kept.refl w4).alloc (.cells #[.nilFunc] 92))
  have r65 := r6.kept ((Kept.refl w4).alloc (.cells #[.nilFunc] 92))
  generalize w4.alloc (.cells #[.nilFunc] 92) = w5 at r7 m5 r05 r65 ⊢
  have hg : w5.grownBy (w5.setCell ⟨z + 1 + 1 + 1 + 1, 0, none⟩ (.func (.func 54) #[] #[.pointer (some ⟨z, 0, none⟩), .pointer (some ⟨z + 1 + 1 + 1 + 1, 0, none⟩), .pointer (some ⟨z + 1 + 1 + 1, 0, none⟩)])) (some (z + 1 + 1 + 1 + 1)) := grown_set w5 ⟨z + 1 + 1 + 1 + 1, 0, none⟩ _
  have kk : ∀ k, some (z + 1 + 1 + 1 + 1) = some k → w.heap.size ≤ k := fun k hk => by injection hk with hk; omega
  have nn : ∀ {B : Nat}, B ≠ z + 1 + 1 + 1 + 1 → some B ≠ some (z + 1 + 1 + 1 + 1) := fun h e => h (by injection e)
  refine ⟨m5.grown hg (by omega) (by omega) (by intro e; cases e) (by omega), r05.grown hg (nn (by omega)) kk, r65.grown hg (nn (by omega)) kk, r7.set 0 _, ⟨by omega, by omega, by intro e; cases e⟩, ⟨by omega, by omega, by intro e; cases e⟩, ⟨by omega, by omega, by intro e; cases e⟩⟩
set_option maxRecDepth 100000 in
set_option maxHeartbeats 4000000 in
theorem small_any {n : Nat} {l : List Bn} (hn : n ≤ 4) (hl : TreeOk n l) (A : Option Addr) (len c : Nat) (k : Nat) (w : World) (sl : SlBn w A len l) (hk : k ≤ len + 1) (h1 : len ≤ 200) :
    Calls Try.prog 45 #[.slice A len c, .int .i64 k] w fun e w' => ∃ A2 c2, e = .returned (.tuple #[.slice A2 (smF l k k []).1.length c2, .int .i64 (smF l k k []).2]) ∧ SlBn w' A2 (smF l k k []).1.length (smF l k k []).1 ∧ Kept w w' := by
  have hmm := @run_makeMap Try.prog
  have hkl : k ≤ l.length + 1 := by rw [sl.2]; exact hk
  have hp16 := pow_le4 n hn
  obtain ⟨z, hz⟩ : ∃ z, w.heap.size = z := ⟨_, rfl⟩
  have HI := Lib.hid (SmI.start w A len c z hz)
  have HGO := Lib.hid (fun w' => go_any (w0 := w) (B0 := z) (B6 := z + 1 + 1 + 1) (B7 := z + 1 + 1 + 1 + 1) (M := z + 1 + 1) (bm := z + 1) (c1 := c) hn hl sl h1 n 0 k k [] none 0 w' (by omega) ⟨hkl, fun _ => Nat.zero_le _⟩ (Nat.le_refl _) (TreeOk.nil n) (by simp; omega))
  have HW5 := Lib.hid (show ((((w.alloc (.cells #[.slice A len c] 50)).alloc (.map #[] 0)).alloc (.cells #[.slice none 0 0, .map (some (z + 1))] 69)).alloc (.cells #[.pointer (some ⟨z + 1 + 1, 0, none⟩)] 66)).heap.size = z + 1 + 1 + 1 + 1 by simp only [World.size_alloc, hz])
  obtain ⟨r, hr⟩ : ∃ r, smF l k k [] = r := ⟨_, rfl⟩
  rw [hr] at HGO ⊢
  have KL := Lib.hid hkl
  obtain ⟨w4, hw4⟩ : ∃ w4, (((w.alloc (.cells #[.slice A len c] 50)).alloc (.map #[] 0)).alloc (.cells #[.slice none 0 0, .map (some (z + 1))] 69)).alloc (.cells #[.pointer (some ⟨z + 1 + 1, 0, none⟩)] 66) = w4 := ⟨_, rfl⟩
  rw [hw4] at HI HW5
  have R7 := Lib.hid (Row.new (Kept.refl w4) 92 [.nilFunc] _ HW5.out)
  obtain ⟨w5, hw5⟩ : ∃ w5, w4.alloc (.cells #[.nilFunc] 92) = w5 := ⟨_, rfl⟩
  rw [hw5] at HI
  have R7 : Hid (Row w4 w5 (z + 1 + 1 + 1 + 1) 92 [.nilFunc]) := Lib.hid (hw5 ▸ R7.out)
  have c7 := R7.out.cell 0 rfl
  have f7 := R7.out.free 0
  obtain ⟨w6, hw6⟩ : ∃ w6, w5.setCell ⟨z + 1 + 1 + 1 + 1, 0, none⟩ (.func (.func 54) #[] #[.pointer (some ⟨z, 0, none⟩), .pointer (some ⟨z + 1 + 1 + 1 + 1, 0, none⟩), .pointer (some ⟨z + 1 + 1 + 1, 0, none⟩)]) = w6 := ⟨_, rfl⟩
  rw [hw6] at HI
  have m7 := HI.out.r7.cell 0 rfl
  have hs4 := HW5.out
  clear hl hk h1 hp16 hr hkl sl
  go_enter Try.func45, Try.ntmps45
  go_wp2_with fail
  refine (HGO.out w6 HI.out).mono ?_
  rintro e w8 ⟨rfl, A8, c8, hm8, hf8⟩
  have hI8 := HI.out.moved hm8 hf8
  have m6 := hI8.r6.cell 0 rfl
  have b0 := hm8.1.1.cell 0 rfl
  have FIN := Lib.hid (show SlBn w8 A8 r.1.length r.1 from hm8.sl)
  have KF := Lib.hid hm8.kept0
  clear hI8 hm8 hf8 c7 f7 hw6 hw5 hw4
  go_wp2_with fail
  go_ret2
  exact ⟨A8, c8, rfl, FIN.out, KF.out⟩
end Go.Proofs.Ytjliabifaohfjaa
