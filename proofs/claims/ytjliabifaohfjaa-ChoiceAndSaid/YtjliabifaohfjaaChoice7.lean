/- The walk of a small tree's put, wherever the tree lies: in a struct whose first cells are its own. -/
import Derived.Test.YtjliabifaohfjaaChoice2
import Derived.Test.YtjliabifaohfjaaLat2
namespace Go.Proofs.Ytjliabifaohfjaa
open Go Go.RowKit
set_option linter.unusedVariables false
set_option linter.unusedSimpArgs false

/-- the struct of a tree that grows, at block M, with what lies behind it; its map at block bm -/
def MkG (E : TypeId) (rest : List Value) (w0 w : World) (M bm : Nat) (l : List Bn) (A : Option Addr) (c : Nat) : Prop :=
  (Row w0 w M E (.slice A l.length c :: .map (some bm) :: rest) ∧ Own w0 w 74 3 (.slice A l.length c) l.length (bnCells l)) ∧
  (∃ g, MapK w Try.prog 74 bm (l.map bnV) g ∧ ∀ b ∈ l, g (bnV b) = .int .i64 ((l.idxOf b + 2 : Nat) : Int)) ∧ w0.heap.size ≤ bm ∧ (∀ b ∈ l, bnSmall b) ∧ l.length ≤ 900
theorem MkG.kept {E : TypeId} {rest : List Value} {w0 w w' : World} {M bm : Nat} {l : List Bn} {A : Option Addr} {c : Nat} (h : MkG E rest w0 w M bm l A c) (k : Kept w w') : MkG E rest w0 w' M bm l A c := by
  obtain ⟨⟨h1, h2⟩, ⟨g, h3, h4⟩, h5, h6, h7⟩ := h
  exact ⟨⟨h1.kept k, h2.kept k⟩, ⟨g, h3.kept k, h4⟩, h5, h6, h7⟩
theorem MkG.kept0 {E : TypeId} {rest : List Value} {w0 w : World} {M bm : Nat} {l : List Bn} {A : Option Addr} {c : Nat} (h : MkG E rest w0 w M bm l A c) : Kept w0 w := h.1.1.kept0
/-- what a call on a small tree leaves alone: blocks that are not the tree's -/
def Fr (M bm : Nat) (v v' : Value) (w w' : World) : Prop := w.heap.size ≤ w'.heap.size ∧ ∀ B, B < w.heap.size → B ≠ M → B ≠ bm → some B ≠ v.ownBlock → w'.heap[B]? = w.heap[B]? ∧ some B ≠ v'.ownBlock
theorem Fr.refl (M bm : Nat) (v : Value) (w : World) : Fr M bm v v w w := ⟨Nat.le_refl _, fun B _ _ _ h => ⟨rfl, h⟩⟩
theorem Fr.trans {M bm : Nat} {v v1 v2 : Value} {w w1 w2 : World} (h : Fr M bm v v1 w w1) (k : Fr M bm v1 v2 w1 w2) : Fr M bm v v2 w w2 := ⟨Nat.le_trans h.1 k.1, fun B a b c d => by
  obtain ⟨e1, e2⟩ := h.2 B a b c d
  obtain ⟨f1, f2⟩ := k.2 B (Nat.lt_of_lt_of_le a h.1) b c e2
  exact ⟨f1.trans e1, f2⟩⟩
theorem Fr.kept {M bm : Nat} {v v1 : Value} {w w1 w2 : World} (h : Fr M bm v v1 w w1) (k : Kept w1 w2) : Fr M bm v v1 w w2 := h.trans ⟨k.size, fun B a b c d => ⟨k.block B a, d⟩⟩
theorem Fr.push {M bm : Nat} {v v1 v2 : Value} {w w1 w2 : World} {K : Nat} (h : Fr M bm v v1 w w1) (hg : w1.grownBy w2 v1.ownBlock) (hK : w.heap.size ≤ K) (hat : v2.ownBlock = v1.ownBlock ∨ v2.ownBlock = some K) : Fr M bm v v2 w w2 :=
  ⟨Nat.le_trans h.1 hg.size, fun B a b c d => by
    obtain ⟨e1, e2⟩ := h.2 B a b c d
    refine ⟨(hg.block B (Nat.lt_of_lt_of_le a h.1) e2).trans e1, fun e => ?_⟩
    rcases hat with e3 | e3
    · exact e2 (e.trans e3)
    · rw [e3] at e
      injection e with e
      omega⟩
theorem Fr.set {M bm : Nat} {v v1 : Value} {w w1 : World} (h : Fr M bm v v1 w w1) (k : Nat) (u : Value) : Fr M bm v v1 w (w1.setCell ⟨M, k, none⟩ u) :=
  h.trans ⟨(grown_set w1 ⟨M, k, none⟩ u).size, fun B a b c d => ⟨(grown_set w1 ⟨M, k, none⟩ u).block B a (fun e => b (by injection e)), d⟩⟩
theorem Fr.mapped {M bm : Nat} {v v1 : Value} {w w1 w2 : World} (h : Fr M bm v v1 w w1) (hg : w1.grownBy w2 (some bm)) : Fr M bm v v1 w w2 :=
  h.trans ⟨hg.size, fun B a b c d => ⟨hg.block B a (fun e => c (by injection e)), d⟩⟩
/-- what a call on a small tree hands back -/
def RetG (E : TypeId) (rest : List Value) (w0 w : World) (M bm : Nat) (l : List Bn) (A : Option Addr) (c : Nat) (r : List Bn × Nat) (e : Ending) (w' : World) : Prop :=
  e = .returned (.int .i64 r.2) ∧ ∃ A' c', MkG E rest w0 w' M bm r.1 A' c' ∧ Fr M bm (.slice A l.length c) (.slice A' r.1.length c') w w'
theorem MkG.grow {E : TypeId} {rest : List Value} {w0 w w' : World} {M bm : Nat} {l : List Bn} {A A1 : Option Addr} {c c1 : Nat} {b : Bn} (hm : MkG E rest w0 w M bm l A1 c1) (hr : Row w0 w' M E (.slice A (l.length + 1) c :: .map (some bm) :: rest)) (ho : Own w0 w' 74 3 (.slice A (l.length + 1) c) (l.length + 1) (bnCells l ++ [.int .i64 b.1, .int .i64 b.2.1, .int .i64 b.2.2]))
    {g : Value → Value} (hg : MapK w' Try.prog 74 bm ((l ++ [b]).map bnV) g) (h1 : ∀ x ∈ l, g (bnV x) = .int .i64 ((l.idxOf x + 2 : Nat) : Int)) (h2 : g (bnV b) = .int .i64 ((l.length + 2 : Nat) : Int)) (hb : b ∉ l) (hs : bnSmall b) (hl : l.length + 1 ≤ 900) : MkG E rest w0 w' M bm (l ++ [b]) A c := by
  obtain ⟨_, _, h5, h6, h7⟩ := hm
  refine ⟨⟨by rw [List.length_append]; exact hr, by rw [List.length_append, bnCells_snoc]; exact ho⟩, ⟨g, hg, fun x hx => ?_⟩, h5, fun x hx => ?_, by simp; omega⟩
  · rcases List.mem_append.1 hx with hx | hx
    · rw [h1 x hx, idx_app hx]
    · rw [List.mem_singleton] at hx
      subst hx
      rw [h2, idx_new hb]
  · rcases List.mem_append.1 hx with hx | hx
    · exact h6 x hx
    · rw [List.mem_singleton] at hx
      subst hx
      exact hs
theorem step_pushB {ops : Array Oper} {o : Oper} {a : Act} {K : Act → World → Prop} {P : Program} {Q : Exit → Act → World → Prop} {F : Prop} {w0 : World} (hgd : o.guard = none) (s x : Operand) (t : TypeId)
    (ho : o.op = .call { callee := .builtin .append, args := #[s, x], argTypes := #[t, t] })
    (e : TypeId) {z : Value} {size bytes : Nat} (ht : P.underlying t = some (.slice e)) (hi : (P.info? e).map (fun i => (i.zero, i.size, i.bytes)) = some (some z, size, bytes))
    (hzs : z.cells.size = size) (hsz : 0 < size) (hb1 : bytes ≤ 1000)
    (W : World) (v : Value) (n : Nat) (xs : List Value) (hown : Own w0 W e size v n xs) (cs : Array Value) (t' : TypeId) (fr : Nat × Nat) (B m c : Nat) (hh : W.heap[B]? = some (.cells cs t' fr))
    (hs : a.eval s = v) (hx : a.eval x = .slice (some ⟨B, 0, none⟩) m c) (hl : cs.size = m * size) (h1 : ∀ u ∈ cs.toList, u.oneCell' = true) (hn : n + m ≤ 1000000)
    (h : ∀ v' w', Own w0 w' e size v' (n + m) (xs ++ cs.toList) → W.grownBy w' v.ownBlock → (v'.ownBlock = v.ownBlock ∨ v'.ownBlock = some W.heap.size) → K (a.put o.dst v') w') :
    if Region.wanted o (yielded ops a.tmps) = true then Oper.wp P o a W K Q else F := by
  have hw : Region.wanted o (yielded ops a.tmps) = true := by simp [Region.wanted, hgd]
  rw [if_pos hw]
  obtain ⟨i, hi0, hz, hsize, hby⟩ := info_parts hi
  have hbytes : (n + m) * bytes ≤ 140737488355328 := by
    calc (n + m) * bytes ≤ 1000000 * 1000 := Nat.mul_le_mul hn hb1
      _ ≤ 140737488355328 := by omega
  obtain ⟨v', w', hr, h2, h3, h4, h5⟩ := run_append_own_at (P := P) W w0.heap.size t o.type e i z size bytes ht hi0 hz hsize hby hzs hsz v n xs hown.1 ⟨B, 0, none⟩ m c cs.toList (by simpa using hl) (World.news_of_block hh) h1 (by unfold maxLen; omega) hbytes hown.2.size
  unfold Oper.wp execOp
  simp only [ho, resolve, invoke, builtin, Sem.run_bind, Sem.run_pure, Result.andThen_ok, List.map_toArray, List.map_cons, List.map_nil, hs, hx, hr]
  exact h v' w' ⟨h2, Below.grown hown.2 h3 hown.2.size fun k hk => (World.ownsRow.lt hown.1 k hk).1⟩ h3 h5
set_option maxRecDepth 100000 in
set_option maxHeartbeats 4000000 in
theorem put_gen (E : TypeId) (hE : 74 ≠ E) (rest : List Value) (w0 w : World) (M bm : Nat) (l : List Bn) (A : Option Addr) (c : Nat) (v lo hi : Nat) (hm : MkG E rest w0 w M bm l A c) (hs : bnSmall (v, lo, hi)) (hl : l.length + 1 ≤ 900) :
    Calls Try.prog 51 #[.pointer (some ⟨M, 0, none⟩), .agg #[.int .i64 v, .int .i64 lo, .int .i64 hi]] w (RetG E rest w0 w M bm l A c (putF l (v, lo, hi))) := by
  have hka : Kept w (w.alloc (.cells #[.int .i64 v, .int .i64 lo, .int .i64 hi] 74)) := (Kept.refl _).alloc _
  have bx := Box.new w #[.int .i64 v, .int .i64 lo, .int .i64 hi] 74 w.heap.size rfl
  have b0 := bx.at_ 0 rfl
  have b1 := bx.at_ 1 rfl
  have b2 := bx.at_ 2 rfl
  have hbl := bx.1
  have HP := Lib.hid (show putF l (v, lo, hi) = if lo = hi then (l, lo) else if (v, lo, hi) ∈ l then (l, l.idxOf (v, lo, hi) + 2) else (l ++ [(v, lo, hi)], l.length + 2) from rfl)
  have HM := Lib.hid (hm.kept hka)
  have HM0 := Lib.hid hm
  have KA0 := Lib.hid hka
  have HK := Lib.hid ((Fr.refl M bm (.slice A l.length c) w).kept hka)
  have hK0 := hm.kept0
  have BX := Lib.hid (Row.new hK0 74 [.int .i64 v, .int .i64 lo, .int .i64 hi] w.heap.size rfl)
  obtain ⟨w1, hw1⟩ : ∃ w1, w.alloc (.cells #[.int .i64 v, .int .i64 lo, .int .i64 hi] 74) = w1 := ⟨_, rfl⟩
  have BX : Hid (Row w0 w1 w.heap.size 74 [.int .i64 v, .int .i64 lo, .int .i64 hi]) := Lib.hid (hw1 ▸ BX.out)
  rw [hw1] at b0 b1 b2 hbl HM HK KA0
  clear bx hm hka hK0
  obtain ⟨r, hr⟩ : ∃ r, putF l (v, lo, hi) = r := ⟨_, rfl⟩
  rw [hr] at HP ⊢
  clear hr
  by_cases he : lo = hi
  · have HV := Lib.hid (show r = (l, lo) by rw [HP.out, if_pos he])
    subst he
    have g1 : ((lo : Int) == (lo : Int)) = true := by simp
    go_enter Try.func51, Try.ntmps51
    go_wp2_with fail
    go_ret
    refine ⟨by rw [HV.out]; rfl, A, c, ?_, ?_⟩ <;> rw [HV.out]
    · exact HM.out
    · exact HK.out
  · have g1 : ((lo : Int) == (hi : Int)) = false := by rw [beq_eq_false_iff_ne]; omega
    have HNE := Lib.hid he
    clear he
    obtain ⟨⟨hrow0, hown0⟩, ⟨g, hmap0, hidx⟩, hbm, hsm, hll⟩ := HM0.out
    have hrow := hrow0.kept KA0.out
    have hown := hown0.kept KA0.out
    have hmap := hmap0.kept KA0.out
    have HXFAR := Lib.hid (show some w.heap.size ≠ (Value.slice A l.length c).ownBlock from fun h => by
      have := (World.ownsRow.lt hown0.1 _ h.symm).2
      omega)
    have HXM := Lib.hid (show w.heap.size ≠ M from fun h => by
      have := hrow0.lt
      omega)
    clear hrow0 hown0 hmap0
    have m0 := hrow.cell 0 rfl
    have m1 := hrow.cell 1 rfl
    obtain ⟨kl, hkl⟩ := bn_key (v, lo, hi) hs
    have HKL := Lib.hid hkl
    by_cases hmem : (v, lo, hi) ∈ l
    · have HV := Lib.hid (show r = (l, l.idxOf (v, lo, hi) + 2) by rw [HP.out, if_neg HNE.out, if_pos hmem])
      have hlook : ∀ m : Nat, (Instr.lookup 67 (.map (some bm)) (.agg #[.int .i64 v, .int .i64 lo, .int .i64 hi]) true).run Try.prog (w1.drewN m) = .ok (.tuple #[.int .i64 ((l.idxOf (v, lo, hi) + 2 : Nat) : Int), .bool true]) (w1.drewN m) := fun m => by
        have := (hmap.kept ((Kept.refl w1).drewN m)).look brKeyed Try.underlying67 (zero_int _) (x := bnV (v, lo, hi)) (List.mem_map.2 ⟨_, hmem, rfl⟩) true
        rw [hidx _ hmem] at this
        exact this
      have KQ := Lib.hid (fun m => (HM.out.kept ((Kept.refl w1).drewN m)))
      have KK := Lib.hid (fun m => HK.out.kept ((Kept.refl w1).drewN m))
      clear hrow hown hmap hidx hmem hkl hsm
      go_enter Try.func51, Try.ntmps51
      go_wp2_with fail
      go_quiet (fail)
      go_wp2_with fail
      go_ret
      refine ⟨by rw [HV.out]; rfl, A, c, ?_, ?_⟩ <;> rw [HV.out]
      · exact KQ.out _
      · exact KK.out _
    · have HV := Lib.hid (show r = (l ++ [(v, lo, hi)], l.length + 2) by rw [HP.out, if_neg HNE.out, if_neg hmem])
      have hnm : bnV (v, lo, hi) ∉ l.map bnV := fun h => by
        obtain ⟨x, hx, e⟩ := List.mem_map.1 h
        rw [bnV_inj e] at hx
        exact hmem hx
      have hlook : ∀ m : Nat, (Instr.lookup 67 (.map (some bm)) (.agg #[.int .i64 v, .int .i64 lo, .int .i64 hi]) true).run Try.prog (w1.drewN m) = .ok (.tuple #[.int .i64 0, .bool false]) (w1.drewN m) := fun m => by
        have := (hmap.kept ((Kept.refl w1).drewN m)).miss brKeyed Try.underlying67 (zero_int _) hkl hnm true
        exact this
      have HMEM := Lib.hid hmem
      have HNM := Lib.hid hnm
      have HHK := Lib.hid (fun m => HK.out.kept ((Kept.refl w1).drewN m))
      have HMQ := Lib.hid (fun m => (HM.out.kept ((Kept.refl w1).drewN m)))
      have HQ := Lib.hid (fun m => And.intro (hrow.kept ((Kept.refl w1).drewN m)) (And.intro (hown.kept ((Kept.refl w1).drewN m)) (And.intro (hmap.kept ((Kept.refl w1).drewN m)) (BX.out.kept ((Kept.refl w1).drewN m)))))
      have HIDX := Lib.hid hidx
      clear hrow hown hmap hidx hmem hkl hnm hsm m0 m1 b0 b1 b2
      have q0 := fun m => (HQ.out m).1.cell 0 rfl
      have q1 := fun m => (HQ.out m).1.cell 1 rfl
      have x0 := fun m => (HQ.out m).2.2.2.cell 0 rfl
      have x1 := fun m => (HQ.out m).2.2.2.cell 1 rfl
      have x2 := fun m => (HQ.out m).2.2.2.cell 2 rfl
      have y0 := BX.out.cell 0 rfl
      have y1 := BX.out.cell 1 rfl
      have y2 := BX.out.cell 2 rfl
      go_enter Try.func51, Try.ntmps51
      go_wp2_with fail
      go_quiet (fail)
      go_wp2_with fail
      obtain ⟨w2, hw2⟩ : ∃ w2, w1.drewN nq = w2 := ⟨_, rfl⟩
      have HQ2 := Lib.hid (HQ.out nq)
      have HK2 := Lib.hid (HHK.out nq)
      have HM2 := Lib.hid (HMQ.out nq)
      rw [hw2] at HQ2 HK2 HM2 ⊢
      clear hlook q0 q1 x0 x1 x2 hw2 y0 y1 y2
      have hown2 := HQ2.out.2.1
      have hkd : Kept w2 (w2.alloc (.cells #[.int .i64 v, .int .i64 lo, .int .i64 hi] 74)).drew := ((Kept.refl _).alloc _).drew
      have RA := Lib.hid (HQ2.out.1.kept hkd)
      have OA := Lib.hid (HQ2.out.2.1.kept hkd)
      have PA := Lib.hid (HQ2.out.2.2.1.kept hkd)
      have XA := Lib.hid (HQ2.out.2.2.2.kept hkd)
      have HFAR := Lib.hid (OA.out.far RA.out hE)
      have HFARM := Lib.hid (PA.out.far OA.out)
      have FA := Lib.hid (HK2.out.kept hkd)
      have a0 := RA.out.cell 0 rfl
      have b0 := XA.out.cell 0 rfl
      have b1 := XA.out.cell 1 rfl
      have b2 := XA.out.cell 2 rfl
      have d0 := HQ2.out.1.cell 0 rfl
      have e0 := HQ2.out.2.2.2.cell 0 rfl
      have e1 := HQ2.out.2.2.2.cell 1 rfl
      have e2 := HQ2.out.2.2.2.cell 2 rfl
      clear hkd
      go_region_law
        ((refine step_pushB (by rfl) _ _ 50 (by rfl) 74 Try.underlying50 info_branch rfl (by decide) (by decide) _ _ _ _ ((hown2.alloc _).drew) #[.int .i64 v, .int .i64 lo, .int .i64 hi] 74 (0, 0) w2.heap.size 1 1 (heap_alloc_new w2 _) (by rfl) (by rfl) rfl (one_bn _ _ _) (by omega) ?_; intro v7 w7 hown7 hgr7 hat7; have FR7 := Lib.hid (FA.out.push hgr7 FA.out.1 hat7); obtain ⟨A7, c7, rfl, hsl7⟩ := hown7.form; have R7 := Lib.hid (RA.out.grown hgr7 HFAR.out OA.out.since); have P7 := Lib.hid (PA.out.grown hgr7 HFARM.out); have B7 := Lib.hid (XA.out.grown hgr7 HXFAR.out OA.out.since); have m7 := R7.out.cell 0 rfl; have f7 := R7.out.free 0))
      all_goals
        have R8 := Lib.hid (R7.out.set 0 (.slice A7 (l.length + 1) c7))
        have O8 := Lib.hid (hown7.setRow R7.out hE 0 (.slice A7 (l.length + 1) c7))
        have P8 := Lib.hid (P7.out.grown (grown_set w7 ⟨M, 0, none⟩ (.slice A7 (l.length + 1) c7)) (fun e => P7.out.ne R7.out (by injection e)))
        have B8 := Lib.hid (B7.out.other (p := ⟨M, 0, none⟩) (.slice A7 (l.length + 1) c7) HXM.out R7.out.2.1)
        have K8 := Lib.hid (FR7.out.set 0 (.slice A7 (l.length + 1) c7))
        obtain ⟨w8, hw8⟩ : ∃ w8, w7.setCell ⟨M, 0, none⟩ (.slice A7 (l.length + 1) c7) = w8 := ⟨_, rfl⟩
        rw [hw8] at R8 O8 P8 B8 K8 ⊢
        clear hgr7 hown7 hat7 hw8 m7 f7 hown2 a0 b0 b1 b2 d0 e0 e1 e2
        have m8 := R8.out.cell 0 rfl
        have m81 := R8.out.cell 1 rfl
        have x0 := B8.out.cell 0 rfl
        have x1 := B8.out.cell 1 rfl
        have x2 := B8.out.cell 2 rfl
        go_wp2_with fail
        go_still_tail 6, (by kernel_rfl)
        obtain ⟨w9, hrun, hmap9, hg9⟩ := (P8.out.drew).put brKeyed Try.underlying67 (by rw [List.length_map]; unfold maxLen; omega) (v := .int .i64 ((l.length : Int) + 1 + 1)) HKL.out HNM.out
        have FIN := Lib.hid (show MkG E rest w0 w9 M bm (l ++ [(v, lo, hi)]) A7 c7 from HM2.out.grow (b := (v, lo, hi)) ((R8.out.drew).grown hg9 (fun e => P8.out.ne R8.out (by injection e with e; exact e.symm)) (fun k hk => by injection hk with hk; omega)) ((O8.out.drew).grown hg9 (by
            rcases hob : (Value.slice A7 (l.length + 1) c7).ownBlock with _ | k
            · exact .inl rfl
            · refine .inr fun e => P8.out.far O8.out ?_
              rw [hob, e]) (fun k hk => by injection hk with hk; omega)) (by rw [List.map_append]; exact hmap9) (fun x hx => by
            rw [updK_other (fun e => HMEM.out (by rw [← bnV_inj e]; exact hx))]
            exact HIDX.out x hx) (by rw [updK_same]; congr 1) HMEM.out hs hl)
        have FINK := Lib.hid (show Fr M bm (.slice A l.length c) (.slice A7 (l ++ [(v, lo, hi)]).length c7) w w9 from by
          rw [List.length_append]
          exact (K8.out.kept (Kept.refl _).drew).mapped hg9)
        refine wpList_mapUpdate_run _ rfl _ _ _ 67 rfl _ _ _ rfl rfl rfl hrun ?_
        clear hrun hmap9 hg9
        go_wp2_with fail
        go_ret
        refine ⟨by rw [HV.out]; rfl, A7, c7, ?_, ?_⟩ <;> rw [HV.out]
        · exact FIN.out
        · exact FINK.out
end Go.Proofs.Ytjliabifaohfjaa
