/- The walk of choice.And. -/
import Derived.Test.YtjliabifaohfjaaChoice12
import Derived.Test.YtjliabifaohfjaaTruth2
namespace Go.Proofs.Ytjliabifaohfjaa
open Go Go.RowKit
set_option linter.unusedVariables false
set_option linter.unusedSimpArgs false

def andT (n : Nat) (f g : List Bool) : List Bool := tabTo (fun s => bat f s && bat g s) (2 ^ n)
theorem andT_read {n : Nat} {l r m : List Bn} {x y k : Nat} (h : AndK n l r m x y k) : readF n m k = andT n (readF n l x) (readF n r y) := by
  apply bat_ext (by simp [readF, andT, tabTo])
  intro s hs
  have hs : s < 2 ^ n := by simpa [readF] using hs
  unfold andT
  rw [bat_tabTo _ _ _ hs]
  unfold readF
  rw [bat_map_range _ _ _ hs, bat_map_range _ _ _ hs, bat_map_range _ _ _ hs]
  exact h.2 s
theorem AndI.start {w0 w : World} (hk : Kept w0 w) (n : Nat) (l r : List Bn) (A1 : Option Addr) (n1 c1 : Nat) (A2 : Option Addr) (n2 c2 z : Nat) (hz : w.heap.size = z) :
    AndI n l r (restA A1 n1 c1 A2 n2 c2 (z + 1)) w0 (z + 1 + 1) z (z + 1) [] none 0 0 0
      (((w.alloc (.map #[] 0)).alloc (.map #[] 0)).alloc (.cells #[.slice none 0 0, .map (some z), .slice A1 n1 c1, .slice A2 n2 c2, .map (some (z + 1))] 78)) := by
  have hz0 := hk.size
  have k1 : Kept w0 (w.alloc (.map #[] 0)) := hk.alloc _
  have s1 : (w.alloc (.map #[] 0)).heap.size = z + 1 := by rw [World.size_alloc, hz]
  have m1 := MapK.made w Try.prog 74 (fun _ => undef) z hz
  generalize w.alloc (.map #[] 0) = w1 at k1 s1 m1 ⊢
  have k2 : Kept w0 (w1.alloc (.map #[] 0)) := k1.alloc _
  have s2 : (w1.alloc (.map #[] 0)).heap.size = z + 1 + 1 := by rw [World.size_alloc, s1]
  have m2 := m1.alloc (.map #[] 0)
  have d2 := MapK.made w1 Try.prog 89 (fun _ => undef) (z + 1) s1
  generalize w1.alloc (.map #[] 0) = w2 at k2 s2 m2 d2 ⊢
  refine ⟨⟨⟨Row.new k2 78 (.slice none 0 0 :: .map (some z) :: restA A1 n1 c1 A2 n2 c2 (z + 1)) (z + 1 + 1) s2, Own.start (k2.alloc _)⟩, ⟨fun _ => undef, m2.alloc _, (fun b hb => by cases hb)⟩, by omega, (fun b hb => by cases hb), by simp⟩, TreeOk.nil n, ⟨[], fun _ => undef, d2.alloc _, (fun q hq => by cases hq), by simp⟩, by simp, by omega, by omega⟩
set_option maxRecDepth 100000 in
set_option maxHeartbeats 4000000 in
theorem andx_good {n : Nat} {l r : List Bn} (hn : n ≤ 4) (hl : TreeOk n l) (hr : TreeOk n r) (A1 : Option Addr) (n1 c1 : Nat) (A2 : Option Addr) (n2 c2 : Nat) (x y : Nat) (w : World) (sl : SlBn w A1 n1 l) (sr : SlBn w A2 n2 r) (h1 : n1 ≤ 20) (h2 : n2 ≤ 20) (hx : x ≤ n1 + 1) (hy : y ≤ n2 + 1)
    (B : List Bn) (K : Nat) (hB : buildF n (andT n (readF n l x) (readF n r y)) = (B, K)) :
    Calls Try.prog 28 #[.int .i64 n, .slice A1 n1 c1, .int .i64 x, .slice A2 n2 c2, .int .i64 y] w fun e w' => ∃ A3 m3 c3, e = .returned (.tuple #[.slice A3 m3 c3, .int .i64 K, .int .i64 0]) ∧ SlBn w' A3 m3 B ∧ Kept w w' := by
  have hmm := @run_makeMap Try.prog
  have HB := Lib.hid hB
  have HP := Lib.hid (pow_le4 n hn)
  have d1 : decide ((n : Int) < 0) = false := decide_eq_false (by omega)
  have d2 : decide (4 < (n : Int)) = false := decide_eq_false (by omega)
  have d3 : decide (20 < (n1 : Int)) = false := decide_eq_false (by omega)
  have d4 : decide (20 < (n2 : Int)) = false := decide_eq_false (by omega)
  have W1 := Lib.hid (wrong_ok n hn A1 n1 c1 l x w sl hl hx h1)
  have W2 := Lib.hid (fun w' (k : Kept w w') => wrong_ok n hn A2 n2 c2 r y w' (sr.kept k) hr hy h2)
  have HAND := Lib.hid (fun (w0 : World) (k : Kept w w0) (M bm dm : Nat) => and_any (A1 := A1) (n1 := n1) (c1 := c1) (A2 := A2) (n2 := n2) (c2 := c2) (w0 := w0) (M := M) (bm := bm) (dm := dm) hn hl hr (sl.kept k) (sr.kept k) h1 h2 n x y 0 0 [] none 0)
  have HX := Lib.hid hx
  have HY := Lib.hid hy
  clear hB hl hr sl sr hx hy
  go_enter Try.func28, Try.ntmps28
  go_wp2_with fail
  refine W1.out.mono ?_
  rintro e w1 ⟨rfl, k1⟩
  go_wp2_with fail
  refine (W2.out w1 k1).mono ?_
  rintro e w2 ⟨rfl, k2⟩
  have q2 := Lib.hid (k1.trans k2)
  clear k1 k2
  obtain ⟨z, hz⟩ : ∃ z, w2.heap.size = z := ⟨_, rfl⟩
  have HI := Lib.hid (AndI.start (Kept.refl w2) n l r A1 n1 c1 A2 n2 c2 z hz)
  go_wp2_with fail
  have HP' := HP.out
  refine (HAND.out w2 q2.out (z + 1 + 1) z (z + 1) _ (by omega) HX.out HY.out (by omega) (by omega) HI.out).mono ?_
  rintro e w3 ⟨k, m, A3, c3, rfl, hI3, hk3⟩
  rw [List.nil_append] at hI3 hk3
  have hkm : k ≤ m.length + 1 := hk3.1.1
  have hml : m.length ≤ 200 := by have := hI3.len; omega
  have b0 := hI3.row.cell 0 rfl
  have k3 := hI3.mkg.kept0
  have HK3 := Lib.hid (q2.out.trans k3)
  have hread := andT_read hk3
  have hsm := sm_build hI3.tree hkm
  rw [hread, HB.out] at hsm
  have SM := Lib.hid (small_any hn hI3.tree A3 m.length c3 k w3 hI3.mkg.sl hkm hml)
  rw [hsm] at SM
  clear hsm hread hI3 hk3 k3 hmm hz hkm hml HP'
  go_wp2_with fail
  refine SM.out.mono ?_
  rintro e w4 ⟨A4, c4, rfl, s4, k4⟩
  have HK4 := Lib.hid (HK3.out.trans k4)
  have S4 := Lib.hid s4
  clear s4 k4 b0
  go_wp2_with fail
  go_ret3
  exact ⟨A4, _, c4, rfl, S4.out, HK4.out⟩
end Go.Proofs.Ytjliabifaohfjaa
