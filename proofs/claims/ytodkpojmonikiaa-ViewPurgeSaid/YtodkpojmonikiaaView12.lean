/- Leaky; the shortest word that leaks is short. -/
import Derived.Test.YtodkpojmonikiaaView11
namespace Go.Proofs.Ytodkpojmonikiaa
open Go Go.RowKit
set_option linter.unusedVariables false
set_option linter.unusedSimpArgs false

theorem runP_append (nx : Nx) (hid : BitVec 32) (p : Nat × Nat) (v w : List Ac) : runP nx hid p (v ++ w) = runP nx hid (runP nx hid p v) w := by
  unfold runP
  rw [List.foldl_append]
theorem runP_lt {nx : Nx} {N U A : Nat} {hid : BitVec 32} (hN : 0 < N) (hnx : ∀ s u a, s < N → u < U → a < A → nx s u a < N) (w : List Ac) (hw : WordOk U A w) : (runP nx hid (0, 0) w).1 < N ∧ (runP nx hid (0, 0) w).2 < N := by
  rw [run_leads]
  refine ⟨leads_lt hnx w 0 hw hN, leads_lt hnx (purge hid w) 0 (fun a ha => hw a (List.mem_filter.1 ha).1) hN⟩
theorem leaks_short {N U A : Nat} {nx : Nx} {se : Nat → Nat → Int} {hid : BitVec 32} {l : List Ac} (hN : 0 < N) (hN6 : N ≤ 6) (hnx : ∀ s u a, s < N → u < U → a < A → nx s u a < N) (h : Leaks U A nx se hid l) : l.length ≤ 36 := by
  have hw := h.1
  have hpre : ∀ i, WordOk U A (l.take i) := fun i a ha => hw a (List.mem_of_mem_take ha)
  have hb := nodup_bdV 36 ((List.range (l.length + 1)).map fun i => (runP nx hid (0, 0) (l.take i)).1 * 6 + (runP nx hid (0, 0) (l.take i)).2) (by
    unfold List.Nodup
    rw [List.pairwise_map]
    refine List.Pairwise.imp_of_mem ?_ (List.pairwise_lt_range (n := l.length + 1))
    intro i j hi hj hij e
    rw [List.mem_range] at hi hj
    have h1 := runP_lt hN hnx (l.take i) (hpre i) (hid := hid)
    have h2 := runP_lt hN hnx (l.take j) (hpre j) (hid := hid)
    have he : runP nx hid (0, 0) (l.take i) = runP nx hid (0, 0) (l.take j) := Prod.ext (by omega) (by omega)
    have hok : WordOk U A (l.take i ++ l.drop j) := fun a ha => by
      rcases List.mem_append.1 ha with ha | ha
      · exact hpre i a ha
      · exact hw a (List.mem_of_mem_drop ha)
    have hrun : runP nx hid (0, 0) (l.take i ++ l.drop j) = runP nx hid (0, 0) l := by
      rw [runP_append, he, ← runP_append, List.take_append_drop]
    rw [run_leads, run_leads] at hrun
    injection hrun with r1 r2
    have := h.2.2 (l.take i ++ l.drop j) hok (by rw [r1, r2]; exact h.2.1)
    rw [List.length_append, List.length_take, List.length_drop] at this
    omega) (fun x hx => by
    obtain ⟨i, _, rfl⟩ := List.mem_map.1 hx
    have h1 := runP_lt hN hnx (l.take i) (hpre i) (hid := hid)
    omega)
  simp at hb
  omega
theorem acN_acI (l : List Ac) : (l.map acI).map acN = l := by
  rw [List.map_map]
  have : (acN ∘ acI) = (id : Ac → Ac) := by
    funext x
    obtain ⟨a, b⟩ := x
    unfold acN acI
    simp
  rw [this, List.map_id]
theorem acI_ok {U A : Nat} {l : List Ac} (h : WordOk U A l) : (l.map acI).all (aiOk U A) = true := by
  rw [List.all_eq_true]
  intro x hx
  obtain ⟨y, hy, rfl⟩ := List.mem_map.1 hx
  have := h y hy
  unfold acI
  exact aiOk_iff.2 ⟨⟨by dsimp only; omega, by dsimp only; omega⟩, by dsimp only; omega, by dsimp only; omega⟩
theorem PurgI.sl {w w' : World} {hid : BitVec 32} {ls : List Ai} {v : Value} (h : PurgI w hid ls v w') : ∃ A c, v = .slice A (purgeI hid ls).length c ∧ SlAct w' A (purgeI hid ls).length (purgeI hid ls) ∧ Kept w w' := by
  obtain ⟨A, c, e, hs, _⟩ := Own.form h
  exact ⟨A, c, e, ⟨hs, rfl⟩, Own.kept0 h⟩
set_option maxRecDepth 100000 in
set_option maxHeartbeats 4000000 in
theorem leaky_any (m : Mc) (N U A : Nat) (hid : BitVec 32) (B : Option Addr) (n c : Nat) (ls : List Ai) (w : World) (hg : MachG w m N U A) (hs : SlAct w B n ls) (hn : n ≤ 1000) (hok : ls.all (aiOk U A) = true) :
    Calls Try.prog 44 #[.agg (mcA m), .int .u32 (W hid), .slice B n c] w fun e w' => e = .returned (.bool (!sameTo (seF m) hid (leads (nxF m) 0 (ls.map acN)) (leads (nxF m) 0 (purge hid (ls.map acN))) U)) ∧ Kept w w' := by
  have hka : Kept w (w.alloc (.cells (mcA m) 72)) := (Kept.refl _).alloc _
  have bx := Box.new w (mcA m) 72 w.heap.size rfl
  have HG := Lib.hid (hg.kept hka)
  have HKA := Lib.hid hka
  have HSL := Lib.hid (hs.kept hka)
  obtain ⟨w1, hw1⟩ : ∃ w1, w.alloc (.cells (mcA m) 72) = w1 := ⟨_, rfl⟩
  rw [hw1] at bx HG HKA HSL
  have b0 : w1.cell? ⟨w.heap.size, 0, none⟩ = some (.int .i64 m.n) := bx.at_ 0 rfl
  have b1 : w1.cell? ⟨w.heap.size, 1, none⟩ = some (.int .i64 m.us) := bx.at_ 1 rfl
  have b2 : w1.cell? ⟨w.heap.size, 2, none⟩ = some (.int .i64 m.as) := bx.at_ 2 rfl
  have b3 := bx.at_ 3 (u := .slice m.next.1 m.next.2.1 m.next.2.2.1) rfl
  have b4 := bx.at_ 4 (u := .slice m.sees.1 m.sees.2.1 m.sees.2.2.1) rfl
  have hN0 : 0 < N := by have := hg.n1; omega
  have hU := hg.u1.2
  have hlen : ls.length = n := hs.2
  have hpl := purgeI_len hid ls
  have h1 := leads_lt hg.lt (ls.map acN) 0 (words_ok hok) hN0
  have h2 := leads_lt hg.lt ((purgeI hid ls).map acN) 0 (words_ok (purgeI_all hok)) hN0
  rw [purge_map (by omega) hok] at h2
  have HP := Lib.hid (fun W A5 c5 (hW : MachG W m N U A) (hk : SlAct W A5 (purgeI hid ls).length (purgeI hid ls)) => by
    have := leads_any m N U A 0 A5 _ c5 (purgeI hid ls) W hW hN0 hk (by omega) (purgeI_all hok)
    rw [purge_map (by omega) hok] at this
    exact this)
  have HW := Lib.hid (fun W (hW : MachG W m N U A) (hk : SlAct W B n ls) => leads_any m N U A 0 B n c ls W hW hN0 hk hn hok)
  have HPU := Lib.hid (fun W (hk : SlAct W B n ls) => purge_any hid B n c ls W hk (by omega))
  generalize leads (nxF m) 0 (ls.map acN) = s1 at h1 HW ⊢
  generalize leads (nxF m) 0 (purge hid (ls.map acN)) = t1 at h2 HP ⊢
  have HSE := Lib.hid (fun W (hW : MachG W m N U A) => refSees_any m N U A hid s1 t1 h1 h2 W hW)
  generalize sameTo (seF m) hid s1 t1 U = sm at HSE ⊢
  clear hka bx hs hg hok h1 h2 hlen hpl hn hU hN0
  unfold mcA at hw1 HP HW HSE ⊢
  go_enter Try.func44, Try.ntmps44
  go_wp2_with fail
  go_region_held3 (fun w' => w'.cell? ⟨w.heap.size, 0, none⟩ = some (.int .i64 m.n) ∧ w'.cell? ⟨w.heap.size, 1, none⟩ = some (.int .i64 m.us) ∧ w'.cell? ⟨w.heap.size, 2, none⟩ = some (.int .i64 m.as) ∧ w'.cell? ⟨w.heap.size, 3, none⟩ = some (.slice m.next.1 m.next.2.1 m.next.2.2.1) ∧ w'.cell? ⟨w.heap.size, 4, none⟩ = some (.slice m.sees.1 m.sees.2.1 m.sees.2.2.1))
    ((refine (fun (k : Kept w1 _) => ⟨(k.cell (cell_lt b0)).trans b0, (k.cell (cell_lt b1)).trans b1, (k.cell (cell_lt b2)).trans b2, (k.cell (cell_lt b3)).trans b3, (k.cell (cell_lt b4)).trans b4⟩) ?_; first | exact KS | exact KL2 | exact KP | exact KL1 | exact (Kept.refl _).drew | exact Kept.refl _))
    ((first
      | (go_at_call_of 81 (Value.slice B n c)
         refine (HW.out _ (HG.out.kept (by first | exact KL2 | exact KP | exact KL1 | exact (Kept.refl _).drew | exact Kept.refl _)) (HSL.out.kept (by first | exact KL2 | exact KP | exact KL1 | exact (Kept.refl _).drew | exact Kept.refl _))).mono ?_
         rintro e w3 ⟨rfl, k3⟩
         have KL1 : Kept w1 w3 := Kept.trans (by first | exact KL2 | exact KP | exact (Kept.refl _).drew | exact Kept.refl _) k3)
      | (go_at_call 45
         refine (HPU.out _ (HSL.out.kept (by first | exact KL1 | exact (Kept.refl _).drew | exact Kept.refl _))).mono ?_
         rintro e w4 ⟨v4, rfl, hp4⟩
         obtain ⟨A5, c5, rfl, hs5, k4⟩ := hp4.sl
         have HS5 := Lib.hid hs5
         clear hp4 hs5
         have KP : Kept w1 w4 := Kept.trans (by first | exact KL1 | exact (Kept.refl _).drew | exact Kept.refl _) k4)
      | (go_at_call_of 81 (Value.slice A5 (purgeI hid ls).length c5)
         refine (HP.out _ A5 c5 (HG.out.kept (by first | exact KL1 | exact KP)) (HS5.out.kept (by first | exact Kept.refl _ | exact k3 | exact (Kept.refl _).drew))).mono ?_
         rintro e w5 ⟨rfl, k5⟩
         have KL2 : Kept w1 w5 := Kept.trans (by first | exact KL1 | exact KP) k5)
      | (go_at_call 47
         refine (HSE.out _ (HG.out.kept (by first | exact KL2 | exact KL1 | exact KP))).mono ?_
         rintro e w6 ⟨rfl, k6⟩
         have KS : Kept w1 w6 := Kept.trans (by first | exact KL2 | exact KL1 | exact KP) k6)
      | fail))
  all_goals
    have KF := Lib.hid (HKA.out.trans KS)
    go_wp2_with fail
    go_ret
    exact ⟨rfl, KF.out⟩
end Go.Proofs.Ytodkpojmonikiaa
