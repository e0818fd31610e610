/- PenBack: the walk of the statement. -/
import Derived.Test.YtjcooagchjjknaaPenPageW
import Derived.Test.YtjcooagchjjknaaQuiet
namespace Go.Proofs.Ytjcooagchjjknaa.penBackDone
open Go Go.RowKit penPageDone
set_option linter.unusedVariables false

theorem pen3 {rs : List Lf} {who : Lab} {ps : List Int} {tx t : Int} {i : Nat} (hf : fndF rs who ps = ((i : Int), 0)) (hl : (lfAt rs i).2 = (t, who)) : penC rs ⟨3, who, ps, tx⟩ = (0, dropL rs i) := by
  unfold penC
  have e1 : (fndF rs who ps).1.toNat = i := by rw [hf]; rfl
  have e2 : (fndF rs who ps).2 = 0 := by rw [hf]
  have e3 : lab (lfAt rs i) = who := by unfold lab; rw [hl]
  simp [e1, e2, e3]
/-- leaves do not lie in a stroke's block -/
theorem leaf_far {w : World} {B : Nat} {a b d : Int} {c : BitVec 32} {A2 : Option Addr} {m c2 : Nat} {t : TypeId} {fr : Nat × Nat} (h : w.heap[B]? = some (.cells #[.int .i64 a, .int .i64 b, .int .u32 (W c), .slice A2 m c2, .int .i64 d] t fr)) {A : Option Addr} {n : Nat} {ls : List Lf} (hs : SlL w A n ls) (hn : 0 < n) :
    ∀ b9 o9, A = some ⟨b9, o9, none⟩ → b9 ≠ B := by
  intro b9 o9 hA e
  subst e
  obtain ⟨b, off, e1, _, c0, _, _, c3⟩ := hs.getN 0 hn
  rw [hA] at e1
  injection e1 with e1
  injection e1 with e1 e2
  subst e1 e2
  have h3 := cell_of_row w b9 (o9 + 0 * 4 + 3) _ _ _ h
  rw [h3] at c3
  match o9, c3 with
  | 0, h => simp at h
  | 1, h => simp at h
  | k + 2, h =>
    rw [Array.getElem?_eq_none (by simp)] at h
    cases h
theorem setOtherL {w : World} {A : Option Addr} {n : Nat} {ls : List Lf} (h : SlL w A n ls) {B k : Nat} (hne : 0 < n → ∀ b9 o9, A = some ⟨b9, o9, none⟩ → b9 ≠ B) (u : Value) : SlL (w.setCell ⟨B, k, none⟩ u) A n ls := by
  refine ⟨⟨h.1.1, fun hn => ?_⟩, h.2⟩
  obtain ⟨b, off, e, hb, hc⟩ := h.1.2 hn
  refine ⟨b, off, e, by simpa [World.setCell] using hb, fun j v hv => ?_⟩
  rw [World.cell?_of_block (w := w) (a := ⟨b, off + j, none⟩) (heap_setCell_other w _ b u (hne hn b off e))]
  exact hc j v hv
set_option maxHeartbeats 4000000 in
theorem penBack_walk (A : Option Addr) (n c : Nat) (ls : List Lf) (a : Lab) (A2 : Option Addr) (m c2 : Nat) (ps : List Int) (tx : Int) (w : World) (hn : n ≤ maxLen) (hs : SlL w A n ls) (wa : (Lit.int .i64 a.1).wf = true) (hm : m ≤ maxLen ∧ m ≤ c2) (hpp : SlI w A2 m ps ∧ ∀ x ∈ ps, (Lit.int .i64 x).wf = true) (wt : (Lit.int .i64 tx).wf = true) :
    Calls Try.prog 8 #[.slice A n c, .agg #[.int .i64 a.1, .int .u32 (W a.2)], .slice A2 m c2, .int .i64 tx] w fun e w' => e = .returned (.bool true) ∧ Below w.heap.size w w' := by
  suffices h : Calls Try.prog 8 #[.slice A n c, .agg #[.int .i64 a.1, .int .u32 (W a.2)], .slice A2 m c2, .int .i64 tx] w fun e w' => e = .returned (.bool true) ∧ Kept w w' from h.mono fun e w' ⟨h1, h2⟩ => ⟨h1, h2.below⟩
  obtain ⟨lv, pt⟩ := a
  obtain ⟨hm, hmc⟩ := hm
  have hp := hpp.1
  clear hpp wa wt
  have hka : Kept w ((w.alloc (.cells #[.int .i64 lv, .int .u32 (W pt)] 25)).alloc (.cells #[.int .i64 1, .int .i64 lv, .int .u32 (W pt), .slice A2 m c2, .int .i64 tx] 48)) := ((Kept.refl _).alloc _).alloc _
  have hb2 := boxes2 (Kept.refl ((w.alloc (.cells #[.int .i64 lv, .int .u32 (W pt)] 25)).alloc (.cells #[.int .i64 1, .int .i64 lv, .int .u32 (W pt), .slice A2 m c2, .int .i64 tx] 48)))
  have HRS := Lib.hid (Row.new ((Kept.refl w).alloc (.cells #[.int .i64 lv, .int .u32 (W pt)] 25)) 48 [.int .i64 1, .int .i64 lv, .int .u32 (W pt), .slice A2 m c2, .int .i64 tx] (w.heap.size + 1) (by simp))
  have hblk : ((w.alloc (.cells #[.int .i64 lv, .int .u32 (W pt)] 25)).alloc (.cells #[.int .i64 1, .int .i64 lv, .int .u32 (W pt), .slice A2 m c2, .int .i64 tx] 48)).heap[w.heap.size + 1]? = some (.cells #[.int .i64 1, .int .i64 lv, .int .u32 (W pt), .slice A2 m c2, .int .i64 tx] 48 (0, 0)) := by
    have h := heap_alloc_new (w.alloc (.cells #[.int .i64 lv, .int .u32 (W pt)] 25)) (.cells #[.int .i64 1, .int .i64 lv, .int .u32 (W pt), .slice A2 m c2, .int .i64 tx] 48)
    simpa using h
  have HN := Lib.hid hn
  have HBK := Lib.hid hblk
  clear hblk
  have hdo := Lib.hid (do_any A n c ls 1 lv pt A2 m c2 ps tx _ (hs.kept hka) (hp.kept hka) hn hm hmc)
  have HNO := Lib.hid (fun h => penF_no (ls := ls) (s := ⟨1, (lv, pt), ps, tx⟩) h)
  have HYES := Lib.hid (fun h => (penF_yes (ls := ls) (s := ⟨1, (lv, pt), ps, tx⟩) h).trans (show penC ls ⟨1, (lv, pt), ps, tx⟩ = putF ls (lv, pt) ps tx by unfold penC; rw [if_pos rfl]))
  have HLN := Lib.hid hs.2
  go_enter Try.func8, Try.ntmps8
  go_wp2_with fail
  refine hdo.out.mono ?_
  rintro e w1 ⟨A1, c1, rfl, h1, k1⟩
  have q1 := hka.trans k1
  have b1 := hb2.1.kept k1
  have HR1 := Lib.hid (HRS.out.kept k1)
  have HK1 := Lib.hid ((k1.block (w.heap.size + 1) (by simp)).trans HBK.out)
  have HB2 := Lib.hid (show w.heap.size ≤ w.heap.size + 1 by omega)
  have HBB := Lib.hid (show w.heap.size + 1 ≠ w.heap.size by omega)
  clear hb2 hka hdo k1 HRS HBK
  have e0 := b1.at_ 0 rfl
  have e1 := b1.at_ 1 rfl
  generalize hfr : penF ls ⟨1, (lv, pt), ps, tx⟩ = r at *
  obtain ⟨code, rs⟩ := r
  simp only at h1 HNO ⊢
  generalize hrl : rs.length = rn at h1 ⊢
  have HRL := Lib.hid hrl
  clear hrl hfr
  generalize w.heap.size + 1 = B2 at HR1 HK1 HB2 HBB ⊢
  have HSZ := HB2.out
  generalize hBw : w.heap.size = B at b1 e0 e1 HBB ⊢
  have HBW := Lib.hid hBw
  clear hBw HSZ
  cases hpa : pagedB ls (lv, pt)
  · obtain ⟨hcz, hr⟩ := HNO.out hpa
    have hne : (code != 0) = true := by simpa using hcz
    have HP := Lib.hid hpa
    clear hpa hcz
    go_wp2_with fail
    refine (paged_any A n c ls lv pt _ (hs.kept q1) HN.out).mono ?_
    rintro e w2 ⟨rfl, k2⟩
    rw [HP.out]
    go_wp2_with fail
    go_ret
    exact ⟨rfl, q1.trans k2⟩
  · have HE := Lib.hid (HYES.out hpa)
    have hpq := pagedB_iff.1 hpa
    have HPO := Lib.hid (pageF_zero.1 hpq.1)
    have HLO := Lib.hid hpq.2
    have HP := Lib.hid hpa
    clear hpa hpq
    go_wp2_with fail
    refine (paged_any A n c ls lv pt _ (hs.kept q1) HN.out).mono ?_
    rintro e w2 ⟨rfl, k2⟩
    rw [HP.out]
    have q2 := q1.trans k2
    have b2 := b1.kept k2
    have HR2 := Lib.hid (HR1.out.kept k2)
    have HR1L := Lib.hid HR1.out.lt
    have h1b := h1.kept k2
    clear e0 e1 b1 HR1 h1
    have e0 := b2.at_ 0 rfl
    have e1 := b2.at_ 1 rfl
    by_cases hc0 : code = 0
    · subst hc0
      have hz : (putF ls (lv, pt) ps tx).1 = 0 := by rw [← HE.out]
      have hok := putF_ok HPO.out HLO.out hz
      have hback := pen_back HPO.out hz
      rw [← HE.out] at hok hback
      simp only [HRL.out] at hok hback
      obtain ⟨i, hi, hfi, hlf, hdr⟩ := hback
      have HRO := Lib.hid hok.1
      have hr40 : rn ≤ 40 := by have := hok.1.1; rw [HRL.out] at this; exact this
      have hrm : rn ≤ maxLen := by unfold maxLen; omega
      have hpg : pagedB rs (lv, pt) = true := pagedB_iff.2 ⟨pageF_zero.2 HRO.out, HLO.out⟩
      have hvz : viewF rs (lv, pt) = 0 := viewF_iff.2 hpg
      have hfind := fun w9 h9 h8 => find_any A1 rn c1 rs lv pt A2 m c2 ps w9 h9 h8 hrm hm
      rw [find_is hvz, hfi] at hfind
      have HFIND := Lib.hid hfind
      have hdo3 := fun w9 h9 h8 => do_any A1 rn c1 rs 3 lv pt A2 m c2 ps tx w9 h9 h8 hrm hm hmc
      have hpen3 : penF rs ⟨3, (lv, pt), ps, tx⟩ = (0, ls) := by
        rw [penF_yes hpg, pen3 hfi hlf, hdr]
      rw [hpen3] at hdo3
      have HDO3 := Lib.hid hdo3
      have HLF := Lib.hid hlf
      have hi1 : (0 : Int) ≤ (i : Int) := by omega
      have hi2 : (i : Int) < (rn : Int) := by omega
      have hi3 : decide (i < rn) = true := by simpa using hi
      clear hok hfi hlf hdr hfind hdo3 hpen3 hpg hvz hz
      go_wp2_with fail
      refine (HFIND.out w2 h1b (hp.kept q2)).mono ?_
      rintro e w3 ⟨rfl, k3⟩
      have q3 := q2.trans k3
      have b3 := b2.kept k3
      have h1c := h1b.kept k3
      have R3 := HR2.out.kept k3
      clear e0 e1 b2 HR2 h1b
      have s1 := R3.cell 0 (u := .int .i64 1) rfl
      have f1 := R3.free 0
      have R4 := R3.set 0 (.int .i64 3)
      have t0 := R4.cell 0 (u := .int .i64 3) rfl
      have t1 := R4.cell 1 (u := .int .i64 lv) rfl
      have t2 := R4.cell 2 (u := .int .u32 (W pt)) rfl
      have t3 := R4.cell 3 (u := .slice A2 m c2) rfl
      have t4 := R4.cell 4 (u := .int .i64 tx) rfl
      go_wp2_with fail
      have q4 : Kept w (w3.setCell ⟨B2, 0, none⟩ (.int .i64 3)) := q3.setCell (p := ⟨B2, 0, none⟩) (by exact HB2.out) _
      have h1d : SlL (w3.setCell ⟨B2, 0, none⟩ (.int .i64 3)) A1 rn rs := setOtherL h1c (fun hn9 => leaf_far (((k2.trans k3).block B2 (HR1L.out)).trans HK1.out) h1c hn9) _
      have b4 := b3.setOther (B := B2) (k := 0) HBB.out (.int .i64 3)
      clear s1 f1 R3 R4 t0 t1 t2 t3 t4 b3 h1c
      refine (HDO3.out _ h1d (hp.kept q4)).mono ?_
      rintro e w5 ⟨A5, c5, rfl, h5, k5⟩
      have q5 := q4.trans k5
      have b5 := b4.kept k5
      have h1e := h1d.kept k5
      clear b4 h1d q4
      simp only [HLN.out] at h5 ⊢
      obtain ⟨b9, o9, rfl, hb9, c0, c1', c2', c3⟩ := h1e.getN i hi
      have hlf1 : (lfAt rs i).2.1 = tx := by rw [HLF.out]
      have hlf2 : (lfAt rs i).2.2 = (lv, pt) := by rw [HLF.out]
      rw [hlf1] at c1'
      rw [hlf2] at c2' c3
      have e0 := b5.at_ 0 rfl
      have e1 := b5.at_ 1 rfl
      have z1 := kw_cell e0
      have z2 := kw_cell e1
      have y1 := kw_cell c1'
      have y2 := kw_cell c2'
      have y3 := kw_cell c3
      have HLS := Lib.hid (fun x : KW w5 => leaves_same A5 n c5 A c ls x.val (h5.kept x.kept) (hs.kept (q5.trans x.kept)) (by have := HPO.out.1; rw [HLN.out] at this; omega))
      clear hlf1 hlf2 h5 h1e
      go_wp2_with fail
      refine wp_region_kept (by kernel_rfl) (by kernel_rfl) ?_
      repeat (go_big_quiet_step ((go_at_call 17; exact kept_of (HLS.out _))))
      refine wpQuiet_nil ?_
      intro w6 k6
      go_wp2_with fail
      go_ret
      exact ⟨rfl, q5.trans k6⟩
    · have hnz := putF_nz (ls := ls) (who := (lv, pt)) (ps := ps) (t := tx) (by rw [← HE.out]; exact hc0)
      rw [← HE.out] at hnz
      have hne : (code != 0) = true := by simpa using hc0
      clear hc0
      have hrn : rn = 0 ∧ (code = 5 ∨ code = 1) := by
        rcases hnz with h | h
        · injection h with h1 h2
          exact ⟨by rw [← HRL.out, h2]; rfl, .inl h1⟩
        · injection h with h1 h2
          exact ⟨by rw [← HRL.out, h2]; rfl, .inr h1⟩
      obtain ⟨rfl, h51⟩ := hrn
      rcases h51 with rfl | rfl
      all_goals
        go_wp2_with fail
        go_ret
        exact ⟨rfl, q2⟩
end Go.Proofs.Ytjcooagchjjknaa.penBackDone
