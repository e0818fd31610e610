/- The walk of view.Leak. -/
import Derived.Test.YtjcooagchjjknaaView6
import Derived.Deep.CutRange
namespace Go.Proofs.Ytjcooagchjjknaa
open Go Go.RowKit
set_option linter.unusedVariables false
set_option linter.unusedSimpArgs false

/-- what Leak answers -/
def RetLk (w : World) (m : Mc) (U A : Nat) (hid : BitVec 32) (e : Ending) (w' : World) : Prop :=
  Kept w w' ∧ ((Tight U A (nxF m) (seF m) hid ∧ e = .returned (.tuple #[.slice none 0 0, .int .i64 5])) ∨ ∃ l B c, Leaks U A (nxF m) (seF m) hid l ∧ e = .returned (.tuple #[.slice B l.length c, .int .i64 0]) ∧ SlAct w' B l.length (l.map acI))
theorem vleak_bad (m : Mc) (hid : BitVec 32) (w : World) (h : McOk w m) (h0 : wrongF m hid ≠ 0) :
    Calls Try.prog 29 #[.agg (mcA m), .int .u32 (W hid)] w fun e w' => e = .returned (.tuple #[.slice none 0 0, .int .i64 (wrongF m hid)]) ∧ Kept w w' := by
  have hka : Kept w (w.alloc (.cells (mcA m) 63)) := (Kept.refl _).alloc _
  have bx := Box.new w (mcA m) 63 w.heap.size rfl
  have HM := Lib.hid (h.kept hka)
  have HKA := Lib.hid hka
  obtain ⟨w1, hw1⟩ : ∃ w1, w.alloc (.cells (mcA m) 63) = w1 := ⟨_, rfl⟩
  rw [hw1] at bx HM HKA
  have b0 : w1.cell? ⟨w.heap.size, 0, none⟩ = some (.int .i64 m.n) := bx.at_ 0 rfl
  have b1 : w1.cell? ⟨w.heap.size, 1, none⟩ = some (.int .i64 m.us) := bx.at_ 1 rfl
  have b2 : w1.cell? ⟨w.heap.size, 2, none⟩ = some (.int .i64 m.as) := bx.at_ 2 rfl
  have b3 := bx.at_ 3 (u := .slice m.next.1 m.next.2.1 m.next.2.2.1) rfl
  have b4 := bx.at_ 4 (u := .slice m.sees.1 m.sees.2.1 m.sees.2.2.1) rfl
  have HC := Lib.hid (vwrong_any m hid w1 HM.out)
  have g2 : (wrongF m hid != 0) = true := by rw [bne_iff_ne]; exact h0
  clear h hka bx h0
  unfold mcA at hw1 HC ⊢
  generalize wrongF m hid = vf at g2 HC ⊢
  go_enter Try.func29, Try.ntmps29
  go_wp2_with fail
  refine HC.out.mono ?_
  rintro e w2 ⟨rfl, hk2⟩
  have HK2 := Lib.hid hk2
  clear b0 b1 b2 b3 b4 hk2
  go_wp2_with fail
  go_ret2
  exact ⟨by rfl, HKA.out.trans HK2.out⟩
theorem wpList_insert_run {P : Program} (w : World) {ops : Array Oper} {rest : List Oper} {o : Oper} {a : Act} {Q : Exit → Act → World → Prop} (hgd : o.guard = none) (m x v : Operand) (t : TypeId) (hop : o.op = Op.insert t m x v)
    (mv key val : Value) (hm : a.eval m = mv) (hx : a.eval x = key) (hv : a.eval v = val) {w' : World} (hr : (Instr.mapUpdate t mv key val).run P w = .ok () w') (h : wpList P ops Q rest (a.put o.dst undef) w') : wpList P ops Q (o :: rest) a w := by
  refine wpList_plain hgd fun K hK => ?_
  unfold Oper.wp
  simp [execOp, hop, hm, hx, hv, hr, Result.andThen]
  exact hK _ _ h
/-- a measure for what is told by a number that is not seen -/
theorem measure_ofV {α β : Type} (R : Nat → α → β → Prop) : ∃ M : α → β → Nat, ∀ t w k, R k t w → R (M t w) t w ∧ M t w ≤ k := by
  have least : ∀ (t : α) (w : β) (k : Nat), R k t w → ∃ k0, R k0 t w ∧ ∀ j, R j t w → k0 ≤ j := by
    intro t w k
    induction k using Nat.strongRecOn with
    | ind k ih =>
      intro hk
      by_cases h : ∃ j, j < k ∧ R j t w
      · obtain ⟨j, hj, hr⟩ := h
        exact ih j hj hr
      · exact ⟨k, hk, fun j hj => Nat.le_of_not_lt fun hl => h ⟨j, hl, hj⟩⟩
  have : ∀ x : α × β, ∃ k0, ∀ k, R k x.1 x.2 → R k0 x.1 x.2 ∧ k0 ≤ k := by
    intro x
    by_cases h : ∃ k, R k x.1 x.2
    · obtain ⟨k, hk⟩ := h
      obtain ⟨k0, h0, h1⟩ := least x.1 x.2 k hk
      exact ⟨k0, fun j hj => ⟨h0, h1 j hj⟩⟩
    · exact ⟨0, fun k hk => absurd ⟨k, hk⟩ h⟩
  obtain ⟨f, hf⟩ := Classical.axiomOfChoice this
  exact ⟨fun t w => f (t, w), fun t w k hk => hf (t, w) k hk⟩
/-- at the head of the loop -/
def LkR (w1 : World) (m : Mc) (N U A : Nat) (hid : BitVec 32) (dm : Nat) (n : Nat) (v : Value) (wr : World) : Prop :=
  ∃ (k : Nat) (vis : Vs), n = 36 - k ∧ Kept w1 wr ∧ MapW w1 wr dm vis ∧ QueW w1 wr v vis k ∧ Hid (LkI N U A (nxF m) (seF m) hid vis k 0 0)
/-- within a round: the pair x, the k-th, is looked through; its box is Bp -/
def LkJ (w1 : World) (m : Mc) (N U A : Nat) (hid : BitVec 32) (dm Bp : Nat) (x : (Nat × Nat) × List Ac) (k u a : Nat) (v : Value) (wr : World) : Prop :=
  ∃ vis : Vs, Kept w1 wr ∧ MapW w1 wr dm vis ∧ QueW w1 wr v vis k ∧ blkQ v ≠ some Bp ∧ wr.cell? ⟨Bp, 0, none⟩ = some (.int .i64 x.1.1) ∧ wr.cell? ⟨Bp, 1, none⟩ = some (.int .i64 x.1.2) ∧ vis[k]? = some x ∧ LkI N U A (nxF m) (seF m) hid vis k u a
theorem LkJ.kept {w1 wr w' : World} {m : Mc} {N U A : Nat} {hid : BitVec 32} {dm Bp : Nat} {x : (Nat × Nat) × List Ac} {k u a : Nat} {v : Value} (h : LkJ w1 m N U A hid dm Bp x k u a v wr) (hk : Kept wr w') : LkJ w1 m N U A hid dm Bp x k u a v w' := by
  obtain ⟨vis, h1, h2, h3, h4, h5, h6, h7, h8⟩ := h
  exact ⟨vis, h1.trans hk, h2.kept hk, h3.kept hk, h4, (hk.cell (cell_lt h5)).trans h5, (hk.cell (cell_lt h6)).trans h6, h7, h8⟩
theorem LkJ.add {w1 w10 w' : World} {m : Mc} {N U A : Nat} {hid : BitVec 32} {dm Bp : Nat} {x : (Nat × Nat) × List Ac} {k u a n g o c : Nat} {v' : Value} {vis : Vs} {q : Nat × Nat} {o1 : Obj} (hm : MapW w1 w10 dm (vis ++ [(q, x.2 ++ [(u, a)])])) (hq : Que w1 w10 84 2 (.slice (some ⟨g, o, none⟩) n c) n (quC vis k)) (hl : vis.length = k + n) (hst : stepP (nxF m) hid x.1 (u, a) = q) (hno : stepP (nxF m) hid x.1 (u, a) ∉ vis.map Prod.fst)
    (hI : LkI N U A (nxF m) (seF m) hid vis k u a) (hx : vis[k]? = some x) (hne : blkQ (.slice (some ⟨g, o, none⟩) n c) ≠ some Bp) (p0 : w10.cell? ⟨Bp, 0, none⟩ = some (.int .i64 x.1.1)) (p1 : w10.cell? ⟨Bp, 1, none⟩ = some (.int .i64 x.1.2)) (hu : u < U) (ha : a < A) (hnx : ∀ s, s < N → nxF m s u a < N)
    (hq' : Que w1 w' 84 2 v' (n + 1) (quC vis k ++ prC q)) (hg : (w10.alloc o1).grownBy w' (some g)) (hb : blkQ v' = some g ∨ blkQ v' = some (w10.heap.size + 1)) : LkJ w1 m N U A hid dm Bp x k u (a + 1) v' w' := by
  have hka : Kept w10 (w10.alloc o1) := (Kept.refl _).alloc _
  have hlow : w1.heap.size ≤ g := by
    obtain ⟨g', o', c', e, hb, _⟩ := hq.block
    injection e with e
    injection e with e
    injection e with e
    omega
  have hBg : Bp ≠ g := fun e => hne (by rw [e]; rfl)
  have hBlt : Bp < w10.heap.size := cell_lt p0
  have cell : ∀ i u, w10.cell? ⟨Bp, i, none⟩ = some u → w'.cell? ⟨Bp, i, none⟩ = some u := fun i u h => by
    rw [hg.cell_far ⟨Bp, i, none⟩ (Nat.lt_of_lt_of_le hBlt hka.size) (fun e => by injection e with e; exact hBg e), hka.cell (p := ⟨Bp, i, none⟩) hBlt]
    exact h
  refine ⟨vis ++ [(q, x.2 ++ [(u, a)])], hq'.kept0, (hm.kept hka).que (hq.kept hka) hg hlow, ?_, ?_, cell 0 _ p0, cell 1 _ p1, ?_, ?_⟩
  · obtain ⟨g4, o4, c4, e4, _, _⟩ := hq'.block
    subst e4
    refine ⟨n + 1, g4, o4, c4, by rw [List.length_append, hl]; rfl, rfl, ?_⟩
    rw [quC_snoc (by omega)]
    exact hq'
  · rcases hb with hb | hb
    · rw [hb]
      intro e
      injection e with e
      exact hBg e.symm
    · rw [hb]
      intro e
      injection e with e
      omega
  · rw [List.getElem?_append_left (List.getElem?_eq_some_iff.1 hx).1]
    exact hx
  · have := hI.add hx hu ha hnx hno
    rw [hst] at this
    exact this
set_option maxRecDepth 100000 in
set_option maxHeartbeats 4000000 in
theorem vleak_any (m : Mc) (N U A : Nat) (hid : BitVec 32) (w : World) (hok : McOk w m) (h : MachG w m N U A) (h0 : wrongF m hid = 0) :
    Calls Try.prog 29 #[.agg (mcA m), .int .u32 (W hid)] w (RetLk w m U A hid) := by
  have hka : Kept w (w.alloc (.cells (mcA m) 63)) := (Kept.refl _).alloc _
  have bx := Box.new w (mcA m) 63 w.heap.size rfl
  have HM := Lib.hid (h.kept hka)
  have HOK := Lib.hid (hok.kept hka)
  have HKA := Lib.hid hka
  obtain ⟨w1, hw1⟩ : ∃ w1, w.alloc (.cells (mcA m) 63) = w1 := ⟨_, rfl⟩
  rw [hw1] at bx HM HKA HOK
  have HBX := Lib.hid bx
  have b0 : w1.cell? ⟨w.heap.size, 0, none⟩ = some (.int .i64 m.n) := bx.at_ 0 rfl
  have b1 : w1.cell? ⟨w.heap.size, 1, none⟩ = some (.int .i64 m.us) := bx.at_ 1 rfl
  have b2 : w1.cell? ⟨w.heap.size, 2, none⟩ = some (.int .i64 m.as) := bx.at_ 2 rfl
  have b3 := bx.at_ 3 (u := .slice m.next.1 m.next.2.1 m.next.2.2.1) rfl
  have b4 := bx.at_ 4 (u := .slice m.sees.1 m.sees.2.1 m.sees.2.2.1) rfl
  have HC := Lib.hid (vwrong_any m hid w1 HOK.out)
  have hmm := @run_makeMap Try.prog
  clear h hok hka bx
  rw [h0] at HC
  clear h0
  have HSAME := Lib.hid (fun W (hW : MachG W m N U A) s t hs ht => same_any m N U A hid s t hs ht W hW)
  have e0 := HM.out.n
  have e1 := HM.out.us
  have e2 := HM.out.as
  have e3 := HM.out.ln
  obtain ⟨b, o, en, hb, hcn⟩ := HM.out.next
  unfold mcA at hw1 HC HSAME ⊢
  rw [e0, e1, e2, e3, en] at hw1 HC HSAME ⊢
  rw [e0] at b0
  rw [e1] at b1
  rw [e2] at b2
  rw [e3, en] at b3
  clear e0 e1 e2 e3 en
  go_enter Try.func29, Try.ntmps29
  go_wp2_with fail
  refine HC.out.mono ?_
  rintro e w2 ⟨rfl, hk2⟩
  have HK2 := Lib.hid hk2
  have HM2 := Lib.hid (HM.out.kept hk2)
  obtain ⟨w3, hrun, hk3, hmap3⟩ := leak_map0 hk2 w2.heap.size rfl
  have HK3 := Lib.hid (hk2.trans hk3)
  have hk4 : Kept w3 (w3.alloc (.cells #[.int .i64 0, .int .i64 0] 84)) := (Kept.refl _).alloc _
  have hq4 := leak_que0 (hk2.trans hk3) w3.heap.size rfl
  have hm4 := hmap3.kept hk4
  have HB3 := Lib.hid (show w.heap.size < w1.heap.size from HBX.out.1)
  have HN := Lib.hid hcn
  have HB0 := Lib.hid b0
  have HB4 := Lib.hid b4
  have HQN := Lib.hid hb
  have HQ1 := Lib.hid b1
  have HQ2 := Lib.hid b2
  have HQ3 := Lib.hid b3
  have H0 := Lib.hid (LkI.start (U := U) (A := A) (nx := nxF m) (se := seF m) (hid := hid) HM.out.n1.1)
  have HN6 := Lib.hid HM.out.n1
  have HU3 := Lib.hid HM.out.u1
  have HA2 := Lib.hid HM.out.a1
  have hK4 := HK3.out.trans hk4
  clear b0 b1 b2 b3 b4 hk2 hb hcn hk3 hmap3 hk4
  have HR0 := Lib.hid (show LkR w1 m N U A hid w2.heap.size 36 (.slice (some ⟨w3.heap.size, 0, none⟩) 1 1) (w3.alloc (.cells #[.int .i64 0, .int .i64 0] 84)) from ⟨0, _, rfl, hK4, hm4, hq4, H0⟩)
  obtain ⟨M, hM⟩ := measure_ofV (LkR w1 m N U A hid w2.heap.size)
  have HMM := Lib.hid hM
  clear hK4 hm4 hq4 H0 hM
  go_wp2_with fail
  go_loopw [8] (fun v wr => ∃ n, LkR w1 m N U A hid w2.heap.size n v wr) (fun v wr => M v wr)
  case atStart => exact ⟨36, HR0.out⟩
  case round =>
    obtain ⟨n0, hn0⟩ := hrel
    obtain ⟨hmin, _⟩ := HMM.out _ _ _ hn0
    obtain ⟨k, vis, hn, hkw, hmap, ⟨n, g, og, cg, hl, rfl, hque⟩, HI⟩ := hmin
    have HMN := Lib.hid hn
    have HKW := Lib.hid hkw
    have HMAP := Lib.hid hmap
    have HQUE := Lib.hid hque
    have HL := Lib.hid hl
    have hlen := HI.out.len HN6.out.2
    have HLEN := Lib.hid hlen
    clear hn0 hn HR0
    rcases n with _ | n
    · clear hkw hmap hque hl hlen
      go_wp2_with fail
      go_ret2
      exact ⟨HKA.out.trans HKW.out, .inl ⟨HI.out.none HL.out.symm, rfl⟩⟩
    · obtain ⟨x, hx⟩ : ∃ x, vis[k]? = some x := ⟨vis[k], List.getElem?_eq_getElem (by omega)⟩
      have HX := Lib.hid hx
      obtain ⟨hq0, hq1⟩ := QueW.head hque hx
      have hxo := HI.out.ok x (List.mem_of_getElem? hx)
      have HXO := Lib.hid hxo
      have hx1 := hxo.1
      have hx2 := hxo.2.1
      have hbd := hque.bound
      have hn36 : n ≤ 36 := by omega
      have hp0 : (0 : Int) < ((n + 1 : Nat) : Int) := by omega
      have d0 : decide ((0 : Int) < ((n + 1 : Nat) : Int)) = true := by simp
      have hka1 : Kept wr (wr.alloc (.cells #[.int .i64 (x.1.1 : Int), .int .i64 (x.1.2 : Int)] 84)) := (Kept.refl _).alloc _
      have r0 := (hkw.cell (p := ⟨w.heap.size, 0, none⟩) HB3.out).trans HB0.out
      have r1 := (hkw.cell (p := ⟨w.heap.size, 1, none⟩) HB3.out).trans HQ1.out
      have r2 := (hkw.cell (p := ⟨w.heap.size, 2, none⟩) HB3.out).trans HQ2.out
      have r3 := (hkw.cell (p := ⟨w.heap.size, 3, none⟩) HB3.out).trans HQ3.out
      have r4 := (hkw.cell (p := ⟨w.heap.size, 4, none⟩) HB3.out).trans HB4.out
      have s0 := (hka1.cell (p := ⟨w.heap.size, 0, none⟩) (Nat.lt_of_lt_of_le HB3.out hkw.size)).trans r0
      have s1 := (hka1.cell (p := ⟨w.heap.size, 1, none⟩) (Nat.lt_of_lt_of_le HB3.out hkw.size)).trans r1
      have s2 := (hka1.cell (p := ⟨w.heap.size, 2, none⟩) (Nat.lt_of_lt_of_le HB3.out hkw.size)).trans r2
      have s3 := (hka1.cell (p := ⟨w.heap.size, 3, none⟩) (Nat.lt_of_lt_of_le HB3.out hkw.size)).trans r3
      have s4 := (hka1.cell (p := ⟨w.heap.size, 4, none⟩) (Nat.lt_of_lt_of_le HB3.out hkw.size)).trans r4
      clear r0 r1 r2 r3 r4
      have HSM := Lib.hid (HSAME.out _ (HM.out.kept (hkw.trans hka1)) x.1.1 x.1.2 hx1 hx2)
      have bxp := Box.new wr #[.int .i64 (x.1.1 : Int), .int .i64 (x.1.2 : Int)] 84 wr.heap.size rfl
      have HBXP := Lib.hid bxp
      have HKA1 := Lib.hid hka1
      obtain ⟨LB, lc, hsla, hlook⟩ := hmap.look (List.mem_of_getElem? hx)
      have HSLA := Lib.hid hsla
      have HLOOK := Lib.hid hlook
      clear hkw hmap hque hl hlen hx hxo hka1 bxp hsla hlook
      go_wp2_with fail
      refine HSM.out.mono ?_
      rintro e w6 ⟨rfl, hk6⟩
      have HK6 := Lib.hid (HKA1.out.trans hk6)
      have p0 := (hk6.cell (p := ⟨wr.heap.size, 0, none⟩) HBXP.out.1).trans (HBXP.out.at_ 0 rfl)
      have p1 := (hk6.cell (p := ⟨wr.heap.size, 1, none⟩) HBXP.out.1).trans (HBXP.out.at_ 1 rfl)
      have t1 := (hk6.cell (p := ⟨w.heap.size, 1, none⟩) (cell_lt s1)).trans s1
      clear hk6 s0 s1 s2 s3 s4
      cases hsame : sameTo (seF m) hid x.1.1 x.1.2 U with
      | false =>
        have HF := Lib.hid (HI.out.found HX.out hsame)
        have hlk := HLOOK.out w6 HK6.out false
        clear hsame
        go_wp2_with fail
        go_ret2
        exact ⟨HKA.out.trans (HKW.out.trans HK6.out), .inr ⟨x.2, LB, lc, HF.out, rfl, HSLA.out.kept HK6.out⟩⟩
      | true =>
        have HS := Lib.hid hsame
        have HJ0 : LkJ w1 m N U A hid w2.heap.size wr.heap.size x k 0 0 (.slice (some ⟨g, og, none⟩) (n + 1) cg) w6 := by
          refine ⟨vis, HKW.out.trans HK6.out, HMAP.out.kept HK6.out, ⟨n + 1, g, og, cg, HL.out, rfl, HQUE.out.kept HK6.out⟩, ?_, p0, p1, HX.out, HI.out⟩
          intro e
          injection e with e
          have h1 : g < wr.heap.size := by
            obtain ⟨g', o', c', e', _, hlt⟩ := HQUE.out.block
            injection e' with e'
            injection e' with e'
            injection e' with e'
            omega
          have h2 : g = wr.heap.size := e
          omega
        have HJ := Lib.hid HJ0
        clear hsame HJ0
        generalize hBp : wr.heap.size = Bp at p0 p1 HJ ⊢
        clear hBp
        go_wp2_with fail
        clear p0 p1 t1
        go_loopw [8, 47] (fun v t wq => ∃ u : Nat, u ≤ U ∧ t = .int .i64 (u : Nat) ∧ LkJ w1 m N U A hid w2.heap.size Bp x k u 0 v wq) (fun _ t _ => U - (intOf t).toNat)
        case atStart => exact ⟨0, Nat.zero_le _, rfl, HJ.out⟩
        case round =>
          clear HJ
          obtain ⟨u, hu, rfl, hj⟩ := hrel
          by_cases hlt : u < U
          · have HJU := Lib.hid hj
            have HLT := Lib.hid hlt
            obtain ⟨_, hkq, _⟩ := hj
            have t2 := (hkq.cell (p := ⟨w.heap.size, 2, none⟩) HB3.out).trans HQ2.out
            clear hkq
            go_wp2_with fail
            go_loopw [8, 52] (fun v t wz => ∃ a : Nat, a ≤ A ∧ t = .int .i64 (a : Nat) ∧ LkJ w1 m N U A hid w2.heap.size Bp x k u a v wz) (fun _ t _ => A - (intOf t).toNat)
            case atStart => exact ⟨0, Nat.zero_le _, rfl, HJU.out⟩
            case round =>
              clear HJU t2
              obtain ⟨a, ha, rfl, hj⟩ := hrel
              by_cases hla : a < A
              · obtain ⟨vis2, hkz, hmap2, hque2, hne2, hp0, hp1, hx2, hI2⟩ := hj
                have hxo := HXO.out
                obtain ⟨b1, o1, c1, hb1, k1, hk1⟩ := HN.out x.1.1 hxo.1
                obtain ⟨b2, o2, c2, hb2, k2, hk2⟩ := hk1 u HLT.out
                have k3 := hk2 a hla
                obtain ⟨b4, o4, c4, hb4, k4, hk4⟩ := HN.out x.1.2 hxo.2.1
                obtain ⟨b5, o5, c5, hb5, k5, hk5⟩ := hk4 u HLT.out
                have k6 := hk5 a hla
                have z3 := (hkz.cell (p := ⟨w.heap.size, 3, none⟩) HB3.out).trans HQ3.out
                have z4 := (hkz.cell (p := ⟨b, o + x.1.1, none⟩) HQN.out).trans k1
                have z5 := (hkz.cell (p := ⟨b1, o1 + u, none⟩) hb1).trans k2
                have z6 := (hkz.cell (p := ⟨b2, o2 + a, none⟩) hb2).trans k3
                have HY4 := Lib.hid ((hkz.cell (p := ⟨b, o + x.1.2, none⟩) HQN.out).trans k4)
                have HY5 := Lib.hid ((hkz.cell (p := ⟨b4, o4 + u, none⟩) hb4).trans k5)
                have HY6 := Lib.hid ((hkz.cell (p := ⟨b5, o5 + a, none⟩) hb5).trans k6)
                have HLA := Lib.hid hla
                have HKZ := Lib.hid hkz
                have HMP := Lib.hid hmap2
                have HQU := Lib.hid hque2
                have HNE := Lib.hid hne2
                have HP0 := Lib.hid hp0
                have HP1 := Lib.hid hp1
                have HX2 := Lib.hid hx2
                have HI2 := Lib.hid hI2
                have i1 : (0 : Int) ≤ (x.1.1 : Int) := by omega
                have i2 : (x.1.1 : Int) < (N : Int) := by have := hxo.1; omega
                have i3 : (0 : Int) ≤ (u : Int) := by omega
                have i4 : (u : Int) < (U : Int) := by have := HLT.out; omega
                have i5 : (0 : Int) ≤ (a : Int) := by omega
                have i6 : (a : Int) < (A : Int) := by omega
                clear hkz hmap2 hque2 hne2 hx2 hI2 hxo hk1 hk2 hk4 hk5 k1 k2 k3 k4 k5 k6 hb1 hb2 hb4 hb5
                generalize hnq : nxF m x.1.1 u a = nq0 at z6
                have HNQ := Lib.hid hnq
                clear hnq
                have hkA : Kept wr (wr.alloc (.cells #[.int .i64 0, .int .i64 0] 84)) := (Kept.refl _).alloc _
                have y3 := (hkA.cell (cell_lt z3)).trans z3
                have y4 := (hkA.cell (cell_lt z4)).trans z4
                have y5 := (hkA.cell (cell_lt z5)).trans z5
                have y6 := (hkA.cell (cell_lt z6)).trans z6
                have y7 := (hkA.cell (cell_lt hp0)).trans hp0
                have y8 := (hkA.cell (cell_lt hp1)).trans hp1
                clear hkA
                go_wp2_with fail
                go_region
                have hrow7 := (Row.new (Kept.refl wr) 84 [.int .i64 (nq0 : Int), .int .i64 (x.1.2 : Int)] wr.heap.size rfl).drew
                obtain ⟨Bq, hBq⟩ : ∃ Bq, wr.heap.size = Bq := ⟨_, rfl⟩
                obtain ⟨w7, hw7⟩ : ∃ w7, (wr.alloc (Obj.cells #[.int .i64 (nq0 : Int), .int .i64 (x.1.2 : Int)] 84)).drew = w7 := ⟨_, rfl⟩
                change Row wr (wr.alloc (Obj.cells #[.int .i64 (nq0 : Int), .int .i64 (x.1.2 : Int)] 84)).drew wr.heap.size 84 [.int .i64 (nq0 : Int), .int .i64 (x.1.2 : Int)] at hrow7
                rw [hw7, hBq] at hrow7
                rw [hw7, hBq]
                have HR7 := Lib.hid hrow7
                have hk7 := hrow7.kept0
                have v3 := (hk7.cell (cell_lt z3)).trans z3
                have v4 := (hk7.cell (cell_lt HY4.out)).trans HY4.out
                have v5 := (hk7.cell (cell_lt HY5.out)).trans HY5.out
                have v6 := (hk7.cell (cell_lt HY6.out)).trans HY6.out
                have v8 := (hk7.cell (cell_lt hp1)).trans hp1
                have q0 := hrow7.cell 0 rfl
                have q1 := hrow7.cell 1 rfl
                have qf := hrow7.free 1
                clear hw7 hBq hrow7 hk7 y3 y4 y5 y6 y7 y8 z3 z4 z5 z6
                generalize hnq : nxF m x.1.2 u a = nq1 at v6
                have HNQ1 := Lib.hid hnq
                have j1 : (0 : Int) ≤ (x.1.2 : Int) := by omega
                have j2 : (x.1.2 : Int) < (N : Int) := by have := HXO.out.2.1; omega
                clear hnq
                have hu1 := HLT.out
                have hu3 := HU3.out.2
                go_upto_if 74 with fail
                go_cut [52] from 52 to 111 (fun s52 wx => s52 = .int .i64 (a : Int) ∧ ∃ n1 : Nat, Hid (Row wr wx Bq 84 [.int .i64 (nq0 : Int), .int .i64 (n1 : Int)] ∧ n1 < N ∧ stepP (nxF m) hid x.1 (u, a) = (nq0, n1)))
                case first =>
                  cases hbit : hid.getLsbD u with
                  | true =>
                    have HST := Lib.hid (show stepP (nxF m) hid x.1 (u, a) = (nq0, x.1.2) by unfold stepP; simp only [hbit, if_true]; rw [HNQ.out])
                    go_wp2_with fail
                    go_meet
                    exact ⟨rfl, x.1.2, Lib.hid ⟨HR7.out, HXO.out.2.1, HST.out⟩⟩
                  | false =>
                    have HST := Lib.hid (show stepP (nxF m) hid x.1 (u, a) = (nq0, nq1) by unfold stepP; simp only [hbit, if_false]; rw [HNQ.out, ← HNQ1.out]; rfl)
                    go_wp2_with fail
                    go_meet
                    exact ⟨rfl, nq1, Lib.hid ⟨HR7.out.set 1 _, by rw [← HNQ1.out]; exact HM.out.lt x.1.2 u a HXO.out.2.1 hu1 HLA.out, HST.out⟩⟩
                case rest =>
                  clear v3 v4 v5 v6 v8 q0 q1 qf
                  obtain ⟨rfl, n1, hc⟩ := hcut
                  have HRC := Lib.hid hc.out.1
                  have HN1 := Lib.hid hc.out.2.1
                  have HST := Lib.hid hc.out.2.2
                  clear hc
                  have q0 := HRC.out.cell 0 rfl
                  have q1 := HRC.out.cell 1 rfl
                  by_cases hin : stepP (nxF m) hid x.1 (u, a) ∈ vis2.map Prod.fst
                  · have HJN := Lib.hid (show LkJ w1 m N U A hid w2.heap.size Bp x k u (a + 1) _ wc from LkJ.kept ⟨vis2, HKZ.out, HMP.out, HQU.out, HNE.out, HP0.out, HP1.out, HX2.out, HI2.out.skip HX2.out hin⟩ HRC.out.kept0)
                    rw [HST.out] at hin
                    obtain ⟨y, hy, ey⟩ := List.mem_map.1 hin
                    obtain ⟨yB, yc, _, hlk⟩ := HMP.out.look hy
                    have hlk1 := hlk wc HRC.out.kept0 true
                    rw [ey] at hlk1
                    simp only [if_true] at hlk1
                    have ha3 := HA2.out.2
                    clear hlk hy ey hin
                    go_wp2_with fail
                    go_roundw
                    case rel => first | exact ⟨a + 1, HLA.out, by go_num, HJN.out⟩ | exact ⟨_, ⟨a + 1, HLA.out, by go_num, HJN.out⟩, rfl⟩ | ((repeat apply Exists.intro); exact ⟨⟨a + 1, HLA.out, by go_num, HJN.out⟩, rfl⟩)
                    case measure => have := HLA.out; simp [intOf]; omega
                  · have hmx : N ≤ 6 := HN6.out.2
                    have hb0 : nq0 ≤ 1000 ∧ n1 ≤ 1000 := by
                      have := HM.out.lt x.1.1 u a HXO.out.1 hu1 HLA.out
                      have := HNQ.out
                      have := HN1.out
                      omega
                    have HNI := Lib.hid hin
                    rw [HST.out] at hin
                    have hmiss := HMP.out.miss hin hb0.1 hb0.2 wc HRC.out.kept0
                    have ha3 := HA2.out.2
                    have HBD := Lib.hid hb0
                    clear hin
                    clear q0 q1
                    have hxm := List.mem_of_getElem? HX2.out
                    obtain ⟨LB2, lc2, hsl2, hlk2⟩ := (HMP.out.kept HRC.out.kept0).look hxm
                    have HXM := Lib.hid hxm
                    have HSL2 := Lib.hid hsl2
                    have HLK2 := Lib.hid hlk2
                    have HMISS := Lib.hid hmiss
                    have hlen3 := HI2.out.len HN6.out.2
                    have hidx := HI2.out.idx k x HX2.out
                    have hkl := (List.getElem?_eq_some_iff.1 HX2.out).1
                    have hln : x.2.length ≤ 36 := by omega
                    have HLV := Lib.hid hlen3
                    have hp7 := (HRC.out.kept0.cell (cell_lt HP0.out)).trans HP0.out
                    have hp8 := (HRC.out.kept0.cell (cell_lt HP1.out)).trans HP1.out
                    have hq7 := HRC.out.cell 0 rfl
                    have hq8 := HRC.out.cell 1 rfl
                    clear hsl2 hlk2 hlen3 hidx hkl hxm
                    go_wp2_with fail
                    clear hmiss
                    go_region_held3 (fun w' => w'.cell? ⟨Bq, 0, none⟩ = some (.int .i64 (nq0 : Int)) ∧ w'.cell? ⟨Bq, 1, none⟩ = some (.int .i64 (n1 : Int)) ∧ w'.cell? ⟨Bp, 0, none⟩ = some (.int .i64 (x.1.1 : Int)) ∧ w'.cell? ⟨Bp, 1, none⟩ = some (.int .i64 (x.1.2 : Int)) ∧ (Instr.lookup 85 (.map (some w2.heap.size)) (.agg #[.int .i64 x.1.1, .int .i64 x.1.2]) false).run Try.prog w' = .ok (.slice LB2 x.2.length lc2) w')
                      ((refine ⟨(by first | exact d0 | exact c90 | exact c80 | exact hq7 | exact (Kept.cell (by first | exact (Kept.refl _).drew | exact ((Kept.refl _).drew).alloc _ | exact ((Kept.refl _).alloc _).drew | exact (Kept.refl _).alloc _ | exact hk8.alloc _) (cell_lt hq7)).trans hq7), (by first | exact d1 | exact c91 | exact c81 | exact hq8 | exact (Kept.cell (by first | exact (Kept.refl _).drew | exact ((Kept.refl _).drew).alloc _ | exact ((Kept.refl _).alloc _).drew | exact (Kept.refl _).alloc _ | exact hk8.alloc _) (cell_lt hq8)).trans hq8), (by first | exact d2 | exact c92 | exact c82 | exact hp7 | exact (Kept.cell (by first | exact (Kept.refl _).drew | exact ((Kept.refl _).drew).alloc _ | exact ((Kept.refl _).alloc _).drew | exact (Kept.refl _).alloc _ | exact hk8.alloc _) (cell_lt hp7)).trans hp7), (by first | exact d3 | exact c93 | exact c83 | exact hp8 | exact (Kept.cell (by first | exact (Kept.refl _).drew | exact ((Kept.refl _).drew).alloc _ | exact ((Kept.refl _).alloc _).drew | exact (Kept.refl _).alloc _ | exact hk8.alloc _) (cell_lt hp8)).trans hp8), (by first | exact d4 | exact HLK2.out _ (by repeat first | exact Kept.refl _ | exact hk9 | exact hk8 | refine Kept.alloc ?_ _ | refine Kept.drew ?_) false)⟩))
                      ((first
                        | (go_at_call 49
                           refine (cloneA_any LB2 x.2.length lc2 (x.2.map acI) _ (HSL2.out.kept (by repeat first | exact Kept.refl _ | refine Kept.alloc ?_ _ | refine Kept.drew ?_)) (by omega)).mono ?_
                           rintro e w8 ⟨v8, rfl, hown8⟩
                           have hk8 : Kept wc w8 := Kept.trans (by repeat first | exact Kept.refl _ | refine Kept.alloc ?_ _ | refine Kept.drew ?_) hown8.kept0
                           have hown8b : Own wc w8 90 2 v8 x.2.length (actCells (x.2.map acI)) := hown8.low (by repeat first | exact Kept.refl _ | refine Kept.alloc ?_ _ | refine Kept.drew ?_)
                           try (have hal8 : w8.heap[wc.heap.size]? = some (.cells #[.int .i64 (u : Int), .int .i64 (a : Int)] 90 (0, 0)) := (hown8.kept0.block _ (by simp)).trans (heap_alloc_new _ _))
                           have c80 := (hk8.cell (cell_lt hq7)).trans hq7
                           have c81 := (hk8.cell (cell_lt hq8)).trans hq8
                           have c82 := (hk8.cell (cell_lt hp7)).trans hp7
                           have c83 := (hk8.cell (cell_lt hp8)).trans hp8)
                        | (have hown8c := hown8b
                           refine step_push (by rfl) _ _ 65 (by rfl) 90 Try.underlying65 info_act rfl (by decide) (by decide) _ v8 x.2.length (actCells (x.2.map acI)) (by first | exact hown8b | exact hown8b.alloc _) #[.int .i64 (u : Int), .int .i64 (a : Int)] 90 (0, 0) _ 1 1 (by first | exact hal8 | exact heap_alloc_new w8 _) (by rfl) (by rfl) rfl (one_ai _ _) (by omega) ?_
                           intro v9 w9 hown9 hgr9
                           have hk9 := hown9.kept0
                           have c90 := (hk9.cell (cell_lt hq7)).trans hq7
                           have c91 := (hk9.cell (cell_lt hq8)).trans hq8
                           have c92 := (hk9.cell (cell_lt hp7)).trans hp7
                           have c93 := (hk9.cell (cell_lt hp8)).trans hp8
                           obtain ⟨w10, hr10, hmap10, hque10, hk10, hcel10, hlook10⟩ := ((HMP.out.kept HRC.out.kept0).kept hk9).putQ ((HQU.out.kept HRC.out.kept0).kept hk9) (p := (nq0, n1)) (l := x.2 ++ [(u, a)]) (z := v9) (by have := HNI.out; rw [HST.out] at this; exact this) HBD.out.1 HBD.out.2 (by have := HLV.out; omega)
                            (by rw [List.length_append, List.map_append, actCells_append]; exact hown9.low (HKZ.out.trans HRC.out.kept0))
                           have d0 := hcel10 _ _ c90
                           have d1 := hcel10 _ _ c91
                           have d2 := hcel10 _ _ c92
                           have d3 := hcel10 _ _ c93
                           have d4 := hlook10 x HXM.out _ (HLK2.out _ hk9 false))
                        | fail))
                    all_goals
                      clear hr10 hcel10 hlook10 d4 c80 c81 c82 c83 c90 c91 c92 c93 hown9 hgr9 hk9 hown8 hown8b hk8
                      try clear hal8
                      obtain ⟨n3, g3, o3, c3, hl3, e3, hque3⟩ := hque10
                      subst e3
                      have hn3 : n3 ≤ 36 := by have := HLV.out; omega
                      have HM10 := Lib.hid hmap10
                      have HQ10 := Lib.hid hque3
                      have HL3 := Lib.hid hl3
                      clear hmap10 hl3 hk10
                      go_wp2_with (at_builtin; refine wpList_pushQ rfl _ _ 86 rfl 84 Try.underlying86 info_pair rfl (by decide) (by decide) g3 o3 n3 c3 (quC vis2 k) HQ10.out rfl #[.int .i64 (nq0 : Int), .int .i64 (n1 : Int)] 84 _ 1 rfl rfl rfl (one_ai _ _) (by omega) ?_; intro v11 w11 hq11 hg11 hb11)
                      have HF := Lib.hid (LkJ.add HM10.out HQ10.out HL3.out HST.out HNI.out HI2.out HX2.out HNE.out d2 d3 HLT.out HLA.out (fun s hs => HM.out.lt s u a hs HLT.out HLA.out) hq11 hg11 hb11)
                      clear hque3 hq11 hg11 hb11 d0 d1 d2 d3
                      go_wp2_with fail
                      go_roundw
                      case rel => first | exact ⟨a + 1, HLA.out, by go_num, HF.out⟩ | exact ⟨_, ⟨a + 1, HLA.out, by go_num, HF.out⟩, rfl⟩ | ((repeat apply Exists.intro); exact ⟨⟨a + 1, HLA.out, by go_num, HF.out⟩, rfl⟩)
                      case measure => have := HLA.out; simp [intOf]; omega
              · have HJE : Hid (LkJ w1 m N U A hid w2.heap.size Bp x k (u + 1) 0 _ _) := Lib.hid (by
                  obtain ⟨vis2, h1, h2, h3, h4, h5, h6, h7, h8⟩ := hj
                  obtain rfl : a = A := by omega
                  exact ⟨vis2, h1, h2, h3, h4, h5, h6, h7, h8.user⟩)
                clear hj
                have hu1 := HLT.out
                have hu3 := HU3.out.2
                go_wp2_with fail
                go_roundw
                case rel => exact ⟨u + 1, HLT.out, by go_num, HJE.out⟩
                case measure => have := HLT.out; simp [intOf]; omega
          · obtain rfl : U = u := by omega
            obtain ⟨vis2, hkq, hmap2, ⟨n2, g2, o2, c2, hl2, rfl, hque2⟩, hne2, hp0, hp1, hx2, hI2⟩ := hj
            obtain ⟨n3, rfl⟩ : ∃ n3, n2 = n3 + 1 := ⟨n2 - 1, by have := (List.getElem?_eq_some_iff.1 hx2).1; omega⟩
            have HI3 := Lib.hid (hI2.next hx2 HS.out)
            have hbd := hque2.bound
            have hlen2 := hI2.len HN6.out.2
            have HNX := Lib.hid (QueW.next hque2 hx2 hl2)
            have HK36 := Lib.hid (show k < 36 by omega)
            have HKQ := Lib.hid hkq
            have HMP := Lib.hid hmap2
            clear hkq hmap2 hl2 hque2 hne2 hp0 hp1 hx2 hI2 hlen2
            by_cases hc1 : c2 = 1
            · subst hc1
              obtain rfl : n3 = 0 := by omega
              have HST := Lib.hid (show LkR w1 m N U A hid w2.heap.size (36 - (k + 1)) _ _ from ⟨k + 1, vis2, rfl, HKQ.out, HMP.out, HNX.out.2 rfl, HI3⟩)
              clear hbd
              go_wp2_with fail
              go_roundw
              case rel => exact ⟨_, HST.out⟩
              case measure =>
                have h1 := (HMM.out _ _ _ HST.out).2
                have h2 := HMN.out
                have h3 := HK36.out
                simp at h1 h2 ⊢
                omega
            · obtain ⟨qd, rfl⟩ : ∃ qd, c2 = qd + 1 := ⟨c2 - 1, by omega⟩
              have HST := Lib.hid (show LkR w1 m N U A hid w2.heap.size (36 - (k + 1)) _ _ from ⟨k + 1, vis2, rfl, HKQ.out, HMP.out, HNX.out.1 hc1, HI3⟩)
              have hqd : ¬ qd = 0 := by omega
              clear hc1
              go_wp2_with fail
              go_roundw
              case rel => exact ⟨_, HST.out⟩
              case measure =>
                have h1 := (HMM.out _ _ _ HST.out).2
                have h2 := HMN.out
                have h3 := HK36.out
                simp at h1 h2 ⊢
                omega
end Go.Proofs.Ytjcooagchjjknaa
