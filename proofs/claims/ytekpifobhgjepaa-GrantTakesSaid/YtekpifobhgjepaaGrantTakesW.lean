/- GrantTakes: the walk of the statement. -/
import Derived.Test.YtekpifobhgjepaaGrantD
namespace Go.Proofs.Ytekpifobhgjepaa.grantTakesDone
open Go Go.RowKit
set_option linter.unusedVariables false
set_option linter.unusedSimpArgs false

theorem wpList_pushR {P : Program} {ops : Array Oper} {rest : List Oper} {o : Oper} {a : Act} {Q : Exit → Act → World → Prop} {w0 : World} (hgd : o.guard = none) (s x : Operand) (t : TypeId)
    (ho : o.op = .call { callee := .builtin .append, args := #[s, x], argTypes := #[t, t] })
    (e : TypeId) {z : Value} {size bytes : Nat} (ht : P.underlying t = some (.slice e)) (hi : (P.info? e).map (fun i => (i.zero, i.size, i.bytes)) = some (some z, size, bytes))
    (hzs : z.cells.size = size) (hsz : 0 < size) (hb0 : 0 < bytes)
    (wr : World) (v : Value) (n : Nat) (xs : List Value) (hown : Own w0 wr e size v n xs) (cs : Array Value) (t' : TypeId) (B m c : Nat)
    (hs : a.eval s = v) (hx : a.eval x = .slice (some ⟨B, 0, none⟩) m c) (hB : wr.heap.size = B) (hl : cs.size = m * size) (h1 : ∀ u ∈ cs.toList, u.oneCell' = true) (hn : (n + m) * bytes ≤ 140737488355328)
    (h : ∀ v' w', Own w0 w' e size v' (n + m) (xs ++ cs.toList) → (wr.alloc (.cells cs t')).grownBy w' v.ownBlock → wpList P ops Q rest (a.put o.dst v') w') : wpList P ops Q (o :: rest) a (wr.alloc (.cells cs t')) := by
  obtain ⟨i, hi0, hz, hsize, hby⟩ := info_parts hi
  subst hB
  have hnm : n + m ≤ (n + m) * bytes := Nat.le_mul_of_pos_right _ hb0
  refine wpList_append_own _ hgd s x t ho w0.heap.size e i z size bytes ht hi0 hz hsize hby hzs hsz v n xs hs (World.ownsRow.alloc hown.1 _) ⟨wr.heap.size, 0, none⟩ m c cs.toList hx (by simpa using hl) ?_ h1
    (by unfold maxLen; omega) hn (Nat.le_trans hown.2.size (by simp)) ?_
  · intro j u hu
    have hc := (Sl.new wr cs t' size m hl).2
    have hadd : (⟨wr.heap.size, 0, none⟩ : Addr).add j = ⟨wr.heap.size, j, none⟩ := by
      unfold Addr.add
      split
      · rename_i h0; subst h0; rfl
      · simp
    rw [hadd, cell_of_row _ _ _ cs t' (0, 0) (heap_alloc_new wr _)]
    simpa using hu
  · intro v' w' hown' hg _
    refine h v' w' ⟨hown', Below.grown (hown.2.alloc _) hg (Nat.le_trans hown.2.size (by simp)) fun k hk => (World.ownsRow.lt hown.1 k hk).1⟩ hg
theorem can_code (n : Int) (A : Option Addr) (len c : Nat) (es : List Ed) (x y : Int) (rt : BitVec 32) (w : World) (hs : SlE w A len es) :
    Calls Try.prog 31 #[.int .i64 n, .slice A len c, .int .i64 x, .int .i64 y, .int .u32 (W rt)] w fun e w' => Kept w w' ∧ ∃ v, e = .returned (.tuple #[.bool v, .int .i64 (canF n es x y rt)]) ∧ (canF n es x y rt = 0 → v = canB n.toNat (gE es) x.toNat y.toNat rt) :=
  (can_any n A len c es x y rt w hs).mono fun e w' ⟨k, h⟩ => by
    rcases h with ⟨h0, rfl⟩ | ⟨hne, rfl⟩
    · exact ⟨k, _, by rw [h0], fun _ => rfl⟩
    · exact ⟨k, _, rfl, fun h0 => by rw [h0] at hne; cases hne⟩
theorem canF_bit {n : Int} {es : List Ed} {a b : Int} {k : Nat} (h0 : edgeF n es = 0) (hk : k < 8) : canF n es a b (1#32 <<< k) = if a < 0 ∨ b < 0 ∨ n ≤ a ∨ n ≤ b ∨ a = b then 2 else 0 := by
  unfold canF
  rw [if_neg (by omega), one_bit_pop ⟨k, hk⟩]
  simp
/-- what one of the deeds that drop no rights is -/
def FilR (w : World) (k : Nat) (ds : List De) (v : Value) (wr : World) : Prop := Own w wr 71 6 v ((ds.take k).filter keepsB).length (deCells ((ds.take k).filter keepsB))
set_option maxRecDepth 100000 in
set_option maxHeartbeats 8000000 in
theorem grantTakes_walk (n : Int) (A : Option Addr) (len cp : Nat) (es : List Ed) (A3 : Option Addr) (nd c3 : Nat) (ds : List De) (a b bit : Int) (w : World) (_wn : (Lit.int .i64 n).wf = true) (hl : len ≤ maxLen) (hs : SlE w A len es) (hld : nd ≤ maxLen) (hd : SlD w A3 nd ds) (_wa : (Lit.int .i64 a).wf = true) (_wb : (Lit.int .i64 b).wf = true) (wbit : (Lit.int .u8 bit).wf = true) (hsz : nd * 48 ≤ 140737488351232) :
    Calls Try.prog 11 #[.int .i64 n, .slice A len cp, .slice A3 nd c3, .int .i64 a, .int .i64 b, .int .u8 bit] w fun e w' => e = .returned (.bool true) ∧ Kept w w' := by
  have hb8 : 0 ≤ bit ∧ bit ≤ 255 := by
    have h := wbit
    simp [Lit.wf, IntKind.min, IntKind.max, IntKind.signed, IntKind.bits] at h
    omega
  obtain ⟨bn, rfl⟩ := Int.eq_ofNat_of_zero_le hb8.1
  obtain ⟨k, hk, hk8⟩ : ∃ k : Nat, bn % 8 = k ∧ k < 8 := ⟨bn % 8, rfl, by omega⟩
  have r1 : (bn : Int) % 8 = (k : Int) := by omega
  have r3 : (bn : Int).tmod 8 = (k : Int) := by rw [Int.tmod_eq_emod_of_nonneg (by omega)]; exact r1
  have r4 : IntKind.u8.wrap (k : Int) = (k : Int) := by
    show (k : Int) % 256 = k
    omega
  have hk31 : k ≤ 31 := by omega
  have HLD := Lib.hid hd.2
  have HD := Lib.hid hd
  have HK8 := Lib.hid hk8
  have HSZ := Lib.hid hsz
  have hndb : nd ≤ 2932031007317 := by omega
  clear hb8 wbit hk hd hsz _wn _wa _wb hl hld
  have hb0 : (0 : Int) ≤ (bn : Int) := by omega
  go_enter Try.func11, Try.ntmps11
  go_wp2_with fail
  go_loopw [13, 23] (fun v t wr => ∃ q : Nat, q ≤ nd ∧ t = .int .i64 (q : Nat) ∧ FilR w q ds v wr) (fun _ t _ => nd - (intOf t).toNat)
  case atStart => exact ⟨0, Nat.zero_le _, rfl, Own.start (Kept.refl _)⟩
  case round =>
    obtain ⟨q, hq, rfl, hf⟩ := hrel
    have hown : Own w wr 71 6 _ _ _ := hf
    by_cases hlt : q < nd
    · obtain ⟨b1, off, hkq, rfl, hb, d0, d1, d2, d3, d4, d5⟩ := (HD.out.kept hown.kept0).get q hlt
      have HS := Lib.hid (keeps_snoc ds q hkq)
      have HKB := Lib.hid (show keepsB ds[q] = decide (ds[q].1 ≠ 4) from rfl)
      have HLEN := Lib.hid (show ((ds.take q).filter keepsB).length ≤ q from Nat.le_trans (List.length_filter_le _ _) (List.length_take_le _ _))
      have HF := Lib.hid hown
      generalize ds[q] = d at d0 d1 d2 d3 d4 d5 HS HKB
      obtain ⟨kd, by_, to_, lv, pt, vl⟩ := d
      simp only at d0 d1 d2 d3 d4 d5
      obtain ⟨Al, cl, rfl, _, _⟩ := hown.form
      have hq1 : (0 : Int) ≤ (q : Int) := by omega
      have hq2 : (q : Int) < (nd : Int) := by omega
      by_cases h4 : kd = 4
      · have g4 : (kd != 4) = false := by rw [h4]; rfl
        have HE := Lib.hid (show (ds.take (q + 1)).filter keepsB = (ds.take q).filter keepsB by rw [HS.out, HKB.out, h4]; simp)
        clear h4 hown hf
        go_wp2_with fail
        go_roundw
        case rel => exact ⟨q + 1, by omega, by go_num, by unfold FilR; rw [HE.out]; exact HF.out.alloc _⟩
        case measure => simp [intOf]; omega
      · have g4 : (kd != 4) = true := by rw [bne_iff_ne]; exact h4
        have HE := Lib.hid (show (ds.take (q + 1)).filter keepsB = (ds.take q).filter keepsB ++ [(kd, by_, to_, lv, pt, vl)] by rw [HS.out, HKB.out, decide_eq_true h4]; simp)
        have hA := HF.out.alloc (.cells #[.int .i64 kd, .int .i64 by_, .int .i64 to_, .int .i64 lv, .int .u32 (W pt), .int .i64 vl] 71)
        have hnb : (((ds.take q).filter keepsB).length + 1) * 48 ≤ 140737488355328 := by
          have h1 := HLEN.out
          have h2 := HSZ.out
          omega
        clear h4 hown hf
        go_wp2_with (at_builtin; refine wpList_pushR rfl _ _ 67 rfl 71 Try.underlying67 info_deedG rfl (by decide) (by decide) _ _ _ _ hA #[.int .i64 kd, .int .i64 by_, .int .i64 to_, .int .i64 lv, .int .u32 (W pt), .int .i64 vl] _ _ 1 1 rfl rfl (by simp) rfl (one_deedG _ _ _ _ _ _) hnb ?_; intro v7 w7 hown7 hgr7)
        go_roundw
        case rel => exact ⟨q + 1, by omega, by go_num, by unfold FilR; rw [HE.out, deCells_snoc, List.length_append]; exact hown7⟩
        case measure => simp [intOf]; omega
    · have HTK := Lib.hid (show ds.take q = ds from take_all ds q (by rw [HLD.out]; omega))
      unfold FilR at hf
      rw [HTK.out] at hf
      obtain ⟨L, hL⟩ : ∃ L, ds.filter keepsB = L := ⟨_, rfl⟩
      have HL4 := Lib.hid (show ∀ d ∈ L, d.1 ≠ 4 from fun d hd => by
        rw [← hL] at hd
        have := (List.mem_filter.1 hd).2
        unfold keepsB at this
        simpa using this)
      rw [hL] at hf
      obtain ⟨Al, cl, rfl, hsl, _⟩ := hf.form
      have HSD := Lib.hid (show SlD wr Al L.length L from ⟨hsl, rfl⟩)
      have HKW := Lib.hid hf.kept0
      clear hL hsl hf hown
      by_cases hbad : 30 < L.length ∨ edgeF n es ≠ 0
      · have HBAD := Lib.hid hbad
        clear hbad
        go_wp2_with fail
        refine (play_bad n A len cp es Al L.length cl _ (hs.kept HKW.out) HBAD.out).mono ?_
        rintro e w1 ⟨k1, code, hcode, rfl⟩
        have Q1 := Lib.hid ((HKW.out.trans k1).alloc (.cells #[.slice none 0 0, .int .i64 0, .slice none 0 0] 74))
        clear k1
        go_wp2_with fail
        refine (can_code n _ _ _ es a b (1#32 <<< k) _ (hs.kept Q1.out)).mono ?_
        rintro e w2 ⟨k2, v, rfl, _⟩
        have Q2 := Lib.hid (Q1.out.trans k2)
        clear k2
        go_wp2_with fail
        refine (edgesCheck_any n _ _ _ es _ (hs.kept Q2.out)).mono ?_
        rintro e w3 ⟨rfl, k3⟩
        have Q3 := Lib.hid (Q2.out.trans k3)
        clear k3
        by_cases h0 : edgeF n es = 0
        · have HH := Lib.hid h0
          have hll := HBAD.out.resolve_right (fun h => h h0)
          have d30 : decide (30 < (L.length : Int)) = true := by simp; omega
          rw [HH.out]
          clear h0 hll
          go_wp2_with fail
          go_ret
          exact ⟨rfl, Q3.out⟩
        · have hne : (edgeF n es != 0) = true := by simpa using h0
          clear h0
          go_wp2_with fail
          go_ret
          exact ⟨rfl, Q3.out⟩
      · have h0 : edgeF n es = 0 := Decidable.byContradiction fun h => hbad (.inr h)
        have h30 : L.length ≤ 30 := by omega
        obtain ⟨nn, rfl⟩ := Int.eq_ofNat_of_zero_le (show 0 ≤ n by have := (edgeF_zero h0).1; omega)
        have H0 := Lib.hid h0
        have d30 : decide (30 < (L.length : Int)) = false := by simp; omega
        have HCF := Lib.hid (canF_bit (a := a) (b := b) h0 HK8.out)
        clear hbad h0
        go_wp2_with fail
        refine (play_good nn A len cp es Al L.length cl L _ (hs.kept HKW.out) HSD.out H0.out h30 HL4.out).mono ?_
        rintro e w1 ⟨k1, AC, AE, cC, cE, N, m, rep, rfl, hse, hinv, hN⟩
        have Q1 := Lib.hid ((HKW.out.trans k1).alloc (.cells #[.slice AC L.length cC, .int .i64 N, .slice AE (edL m 14 N).length cE] 74))
        have BX := Lib.hid (Box.new w1 #[.slice AC L.length cC, .int .i64 N, .slice AE (edL m 14 N).length cE] 74 w1.heap.size rfl)
        have HSE := Lib.hid (fun (w' : World) (q : Kept (w1.alloc (.cells #[.slice AC L.length cC, .int .i64 N, .slice AE (edL m 14 N).length cE] 74)) w') => hse.kept (((Kept.refl w1).alloc _).trans q))
        have HINV := Lib.hid hinv
        have HEL := Lib.hid (show (edL m 14 N).length ≤ 1000 from by have := edL_len m 14 N; omega)
        obtain ⟨wb, hwb⟩ : ∃ wb, w1.alloc (.cells #[.slice AC L.length cC, .int .i64 N, .slice AE (edL m 14 N).length cE] 74) = wb := ⟨_, rfl⟩
        rw [hwb] at Q1 BX HSE
        clear k1 hse hinv
        go_wp2_with fail
        refine (can_code nn _ _ _ es a b (1#32 <<< k) _ (hs.kept Q1.out)).mono ?_
        rintro e w2 ⟨k2, v, rfl, hv⟩
        have Q2 := Lib.hid (Q1.out.trans k2)
        have HV := Lib.hid hv
        have BX2 := Lib.hid (BX.out.kept k2)
        have HSE2 := Lib.hid (HSE.out w2 k2)
        rw [HCF.out]
        rw [HCF.out] at HV
        clear k2 hv hwb
        by_cases hc : a < 0 ∨ b < 0 ∨ (nn : Int) ≤ a ∨ (nn : Int) ≤ b ∨ a = b
        · rw [if_pos hc]
          have hq : decide (a < 0) = true ∨ (decide (a < 0) = false ∧ (decide (b < 0) = true ∨ (decide (b < 0) = false ∧ (decide ((nn : Int) ≤ a) = true ∨ (decide ((nn : Int) ≤ a) = false ∧ (decide ((nn : Int) ≤ b) = true ∨ (decide ((nn : Int) ≤ b) = false ∧ (a == b) = true))))))) := by
            simp only [decide_eq_true_eq, decide_eq_false_iff_not, beq_iff_eq]
            omega
          clear hc
          go_wp2_with fail
          refine (edgesCheck_any nn _ _ _ es _ (hs.kept Q2.out)).mono ?_
          rintro e w3 ⟨rfl, k3⟩
          rw [H0.out]
          have Q3 := Lib.hid (Q2.out.trans k3)
          have c0 := (BX2.out.kept k3).at_ 0 rfl
          have hll : ((L.length : Int) != (L.length : Int)) = false := by simp
          clear k3
          rcases hq with g | ⟨g1, g | ⟨g2, g | ⟨g3, g | ⟨g4, g⟩⟩⟩⟩
          all_goals
            go_wp2_with fail
            go_ret
            exact ⟨rfl, Q3.out⟩
        · rw [if_neg hc]
          rw [if_neg hc] at HV
          obtain ⟨aa, rfl⟩ := Int.eq_ofNat_of_zero_le (show 0 ≤ a by omega)
          obtain ⟨bb, rfl⟩ := Int.eq_ofNat_of_zero_le (show 0 ≤ b by omega)
          have ha : aa < nn := by omega
          have hb : bb < nn := by omega
          have g1 : decide ((aa : Int) < 0) = false := by simp
          have g2 : decide ((bb : Int) < 0) = false := by simp
          have g3 : decide (nn ≤ aa) = false := by simp; omega
          have g4 : decide (nn ≤ bb) = false := by simp; omega
          have g5 : ((aa : Int) == (bb : Int)) = false := by simp; omega
          have HVV := Lib.hid (show subB (1#32 <<< k) (overF (edL m 14 N) aa bb) = true → v = true from fun hsub => by
            rw [sub_bit (by have := HK8.out; omega)] at hsub
            have hle := HINV.out.le
            rw [edL_over m (show aa < N by omega) (show bb < 14 by omega)] at hsub
            have h1 := HINV.out.can ha hb (by have := HK8.out; omega) hsub
            have h2 := HV.out rfl
            simp only [Int.toNat_natCast] at h2
            rw [h2, h1])
          clear hc ha hb
          go_wp2_with fail
          refine (edgesCheck_any nn _ _ _ es _ (hs.kept Q2.out)).mono ?_
          rintro e w3 ⟨rfl, k3⟩
          rw [H0.out]
          have Q3 := Lib.hid (Q2.out.trans k3)
          have c0 := (BX2.out.kept k3).at_ 0 rfl
          have c2 := (BX2.out.kept k3).at_ 2 rfl
          have HSE3 := Lib.hid (HSE2.out.kept k3)
          have hll : ((L.length : Int) != (L.length : Int)) = false := by simp
          clear k3
          go_wp2_with fail
          refine (over_any _ _ _ (edL m 14 N) aa bb _ HSE3.out HEL.out).mono ?_
          rintro e w4 ⟨rfl, k4⟩
          have Q4 := Lib.hid (Q3.out.trans k4)
          clear k4
          go_wp2_with fail
          refine (inO_any _ _ _).mono ?_
          rintro e w5 ⟨rfl, rfl⟩
          obtain ⟨sb, hsb⟩ : ∃ sb, subB (1#32 <<< k) (overF (edL m 14 N) aa bb) = sb := ⟨_, rfl⟩
          have HVV := HVV.out
          rw [hsb] at HVV ⊢
          have hcase : sb = false ∨ (sb = true ∧ v = true) := by
            cases sb
            · exact .inl rfl
            · exact .inr ⟨rfl, HVV rfl⟩
          clear hsb HVV
          rcases hcase with rfl | ⟨rfl, rfl⟩
          all_goals
            go_wp2_with fail
            go_ret
            exact ⟨rfl, Q4.out⟩
end Go.Proofs.Ytekpifobhgjepaa.grantTakesDone
