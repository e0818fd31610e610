/- The walk of package wall: a read that is allowed, with its code. -/
import Derived.Test.YtnnddjanbfamkaaWall5
import Derived.Test.YtnnddjanbfamkaaFewP
import Derived.StillTailTactics
namespace Go.Proofs.Ytnnddjanbfamkaa
open Go Go.RowKit
set_option linter.unusedVariables false

/-- what an allowed read leaves -/
def RetRd (w0 w : World) (S R K : Nat) (AF : Option Addr) (cf : Nat) (Af : Option Addr) (lf c1 : Nat) (Ac : Option Addr) (m cc who : Nat) (firm clss : List Int) (r f : Nat → BitVec 32) (u t : Nat) (e : Ending) (w' : World) : Prop :=
  ∃ k : Nat → BitVec 32, e = .returned (.int .i64 0) ∧ WSt w0 w' S R K AF cf Af lf c1 Ac m cc who (updN r u (r u ||| 1#32 <<< t)) k f ∧ WInv firm clss (updN r u (r u ||| 1#32 <<< t)) k f ∧ Keeps w0 w w'
set_option maxRecDepth 100000 in
set_option maxHeartbeats 8000000 in
theorem do_readOk (S R K : Nat) (AF : Option Addr) (cf : Nat) (Af : Option Addr) (lf c1 : Nat) (Ac : Option Addr) (m cc who : Nat) (r k f : Nat → BitVec 32) (firm clss : List Int) (u t : Nat) (lv : Int) (pt : BitVec 32) (vl : Int) (w0 w : World) (hw : WSt w0 w S R K AF cf Af lf c1 Ac m cc who r k f) (hi : WInv firm clss r k f)
    (hf : SlI w0 Af lf firm) (hc : SlI w0 Ac m clss) (hl8 : lf ≤ 8) (hok : ∀ x ∈ firm, -1 ≤ x ∧ x < m) (hu : u < who) (ht : t < lf) (hpos0 : 0 ≤ frm firm t) (hno0 : anyF firm (r u) (oddsF clss (frm firm t)) lf = false) :
    Calls Try.prog 59 #[.pointer (some ⟨S, 0, none⟩), .agg #[.int .i64 1, .int .i64 u, .int .i64 t, .int .i64 lv, .int .u32 (W pt), .int .i64 vl]] w (RetRd w0 w S R K AF cf Af lf c1 Ac m cc who firm clss r f u t) := by
  have HPOS := Lib.hid hpos0
  have HNO0 := Lib.hid hno0
  clear hpos0 hno0
  have HW := Lib.hid hw
  have HI := Lib.hid hi
  have HLF := Lib.hid hf.2
  have HCL := Lib.hid hc.2
  have hka : Kept w ((w.alloc (.cells #[.pointer (some ⟨S, 0, none⟩)] 94)).alloc (.cells #[.int .i64 1, .int .i64 u, .int .i64 t, .int .i64 lv, .int .u32 (W pt), .int .i64 vl] 75)) := ((Kept.refl _).alloc _).alloc _
  have hbx := boxes2 (Kept.refl ((w.alloc (.cells #[.pointer (some ⟨S, 0, none⟩)] 94)).alloc (.cells #[.int .i64 1, .int .i64 u, .int .i64 t, .int .i64 lv, .int .u32 (W pt), .int .i64 vl] 75)))
  obtain ⟨w2b, hw2b⟩ : ∃ w2b, (w.alloc (.cells #[.pointer (some ⟨S, 0, none⟩)] 94)).alloc (.cells #[.int .i64 1, .int .i64 u, .int .i64 t, .int .i64 lv, .int .u32 (W pt), .int .i64 vl] 75) = w2b := ⟨_, rfl⟩
  obtain ⟨b, off, hkf, rfl, hb, cf0⟩ := hf.get t ht
  have HF := Lib.hid (fun w' (kk : Kept w w') => hf.kept (hw.st.kept0.trans kk))
  have HC := Lib.hid (fun w' (kk : Kept w w') => hc.kept (hw.st.kept0.trans kk))
  have HFR := Lib.hid (frm_eq hkf)
  have hown := hok _ (List.getElem_mem hkf)
  have HOK := Lib.hid hok
  obtain ⟨own, ho⟩ : ∃ own, firm[t] = own := ⟨_, rfl⟩
  rw [ho] at cf0 hown HFR
  have hu1 : (0 : Int) ≤ (u : Int) := by omega
  have hu2 : (u : Int) < (who : Int) := by omega
  have ht1 : (0 : Int) ≤ (t : Int) := by omega
  have ht2 : (t : Int) < (lf : Int) := by omega
  have g1 : decide ((u : Int) < 0) = false := by simp
  have g2 : decide (who ≤ u) = false := by simp; omega
  have g3 : decide ((t : Int) < 0) = false := by simp
  have g4 : decide (lf ≤ t) = false := by simp; omega
  have HFACT := Lib.hid (fun w' (kk : Kept w2b w') => show w'.cell? ⟨w.heap.size, 0, none⟩ = some (.pointer (some ⟨S, 0, none⟩)) ∧ w'.cell? ⟨w.heap.size + 1, 0, none⟩ = some (.int .i64 1) ∧ w'.cell? ⟨w.heap.size + 1, 1, none⟩ = some (.int .i64 u) ∧ w'.cell? ⟨w.heap.size + 1, 2, none⟩ = some (.int .i64 t) from by
    rw [← hw2b] at kk
    exact ⟨(kk.cell (cell_lt (hbx.1.at_ 0 rfl))).trans (hbx.1.at_ 0 rfl), (kk.cell (cell_lt (hbx.2.at_ 0 rfl))).trans (hbx.2.at_ 0 rfl), (kk.cell (cell_lt (hbx.2.at_ 1 rfl))).trans (hbx.2.at_ 1 rfl), (kk.cell (cell_lt (hbx.2.at_ 2 rfl))).trans (hbx.2.at_ 2 rfl)⟩)
  have HK := Lib.hid (show Kept w w2b from hw2b ▸ hka)
  have HCF := Lib.hid (fun w' (kk : Kept w2b w') => ((hw.st.kept0.trans (HK.out.trans kk)).cell (p := ⟨b, off + t, none⟩) hb).trans cf0)
  obtain ⟨p0, d0, d1, d2⟩ := HFACT.out _ (Kept.refl _)
  have s0 := (hw.st.kept HK.out).cell 0 rfl
  have s2 := (hw.st.kept HK.out).cell 2 rfl
  have PB := Lib.hid (show Row w0 w2b w.heap.size 94 [.pointer (some ⟨S, 0, none⟩)] from hw2b ▸ (Row.new hw.st.kept0 94 [.pointer (some ⟨S, 0, none⟩)] _ rfl).kept ((Kept.refl _).alloc _))
  have DB := Lib.hid (show Row w0 w2b (w.heap.size + 1) 75 [.int .i64 1, .int .i64 u, .int .i64 t, .int .i64 lv, .int .u32 (W pt), .int .i64 vl] from hw2b ▸ Row.new (hw.st.kept0.alloc (.cells #[.pointer (some ⟨S, 0, none⟩)] 94)) 75 [.int .i64 1, .int .i64 u, .int .i64 t, .int .i64 lv, .int .u32 (W pt), .int .i64 vl] _ (by simp))
  have HNE := Lib.hid (show R < w.heap.size ∧ K < w.heap.size from ⟨hw.rd.lt, hw.kn.lt⟩)
  have HFLT := Lib.hid (hw.fr.since)
  clear hw hi hbx hka hok hf hc cf0
  go_enter Try.func59, Try.ntmps59
  go_wp2_with fail
  go_quiet (fail)
  have k3 := (Kept.refl w2b).drewN (nq + 1)
  have HW3 := Lib.hid (HW.out.kept (HK.out.trans k3))
  obtain ⟨p0', d0', d1', d2'⟩ := HFACT.out _ k3
  have s0' := HW3.out.st.cell 0 rfl
  have c0' := HCF.out _ k3
  have k3a := k3.alloc (.cells #[.int .i64 0] 3)
  obtain ⟨p0a, d0a, d1a, d2a⟩ := HFACT.out _ k3a
  have s0a := (HW.out.kept (HK.out.trans k3a)).st.cell 0 rfl
  have c0a := HCF.out _ k3a
  have bxo := Box.new (w2b.drewN (nq + 1)) #[.int .i64 0] 3 w2b.heap.size (by simp)
  have o0 := bxo.at_ 0 rfl
  have fo0 := bxo.2.2 0
  clear bxo
  clear p0 d0 d1 d2 s0 s2 hw2b
  go_wp2_with fail
  go_region
  obtain ⟨w5, hw5⟩ : ∃ w5, ((w2b.drewN (nq + 1)).alloc (.cells #[.int .i64 0] 3)).setCell ⟨w2b.heap.size, 0, none⟩ (.int .i64 own) = w5 := ⟨_, rfl⟩
  rw [hw5]
  have K5 := Lib.hid (show Kept w2b w5 from hw5 ▸ k3a.setCell (p := ⟨w2b.heap.size, 0, none⟩) (Nat.le_refl _) _)
  have OB5 := Lib.hid (show Row w0 w5 w2b.heap.size 3 [.int .i64 own] from hw5 ▸ (Row.new (PB.out.kept0.trans k3) 3 [.int .i64 0] _ (by simp)).set 0 (.int .i64 own))
  have PB5 := Lib.hid (PB.out.kept K5.out)
  have DB5 := Lib.hid (DB.out.kept K5.out)
  have HW5 := Lib.hid (HW.out.kept (HK.out.trans K5.out))
  have HX := Lib.hid (show w.heap.size + 1 < w2b.heap.size from DB.out.lt)
  have KP5 := Lib.hid (show Keeps w0 w w5 from Keeps.of (HK.out.trans K5.out))
  generalize w2b.heap.size = X at OB5 HX ⊢
  clear hw5 k3 k3a p0' d0' d1' d2' s0' c0' p0a d0a d1a d2a s0a c0a o0 fo0 HW3
  have o0 := OB5.out.cell 0 rfl
  have p0 := PB5.out.cell 0 rfl
  have d0 := DB5.out.cell 0 rfl
  have d1 := DB5.out.cell 1 rfl
  have d2 := DB5.out.cell 2 rfl
  have hrest : ∀ w6, Kept w5 w6 → frm firm t < 0 ∨ anyF firm (r u) (oddsF clss (frm firm t)) firm.length = false → True := fun _ _ _ => trivial
  clear hrest
  cases hown0 : decide (0 ≤ own)
  · exact absurd HPOS.out (by rw [HFR.out]; simpa using hown0)
  · have hpos : 0 ≤ own := by simpa using hown0
    obtain ⟨on, rfl⟩ := Int.eq_ofNat_of_zero_le hpos
    have hon : on < m := by omega
    have x2 := HW5.out.st.cell 2 rfl
    have x0 := HW5.out.st.cell 0 rfl
    have x1 := HW5.out.st.cell 1 rfl
    have xr := HW5.out.rd.cell u (rowsV_at r hu)
    have hst := HW5.out.st.lt
    have hpl := PB5.out.lt
    have hol := OB5.out.lt
    have HANY := Lib.hid (anyOdds_any ⟨X, 0, none⟩ ⟨w.heap.size, 0, none⟩ (oddsF clss on) S R (some ⟨b, off, none⟩) lf c1 who who firm u (r u) w5 x0 x2 xr hu (HF.out _ (HK.out.trans K5.out)) hl8 (fun f' w' kk hf0 hmem => by
      obtain ⟨fn, rfl⟩ := Int.eq_ofNat_of_zero_le hf0
      have := (HOK.out _ hmem).2
      exact odds_any ⟨X, 0, none⟩ ⟨w.heap.size, 0, none⟩ S Ac m cc clss on fn w' ((kk.cell (p := ⟨X, 0, none⟩) hol).trans o0) ((kk.cell (p := ⟨w.heap.size, 0, none⟩) hpl).trans p0) ((kk.cell (p := ⟨S, 1, none⟩) hst).trans x1) (HC.out _ ((HK.out.trans K5.out).trans kk)) hon (by omega)))
    clear x2 x0 x1 xr hst hpl hol
    have hbb : anyF firm (r u) (oddsF clss on) lf = false := by
      have := HNO0.out
      rw [HFR.out] at this
      exact this
    rw [hbb] at HANY
    have HBB := Lib.hid hbb
    clear hbb
    go_wp2_with fail
    refine HANY.out.mono ?_
    rintro e w6 ⟨rfl, k6⟩
    have HW6 := Lib.hid (HW5.out.kept k6)
    have KP6 := Lib.hid (KP5.out.trans (Keeps.of k6))
    have PB6 := Lib.hid (PB5.out.kept k6)
    have DB6 := Lib.hid (DB5.out.kept k6)
    clear k6 p0 d0 d1 d2 o0
    have p0 := PB6.out.cell 0 rfl
    have d0 := DB6.out.cell 0 rfl
    have d1 := DB6.out.cell 1 rfl
    have d2 := DB6.out.cell 2 rfl
    have o0 := True.intro
    · have HNO := Lib.hid (show anyF firm (r u) (oddsF clss (frm firm t)) firm.length = false by rw [HFR.out, HLF.out]; exact HBB.out)
      have s2 := HW6.out.st.cell 2 rfl
      have s3 := HW6.out.st.cell 3 rfl
      have s4 := HW6.out.st.cell 4 rfl
      have r0 := HW6.out.rd.cell u (rowsV_at r hu)
      have rf := HW6.out.rd.free u
      go_wp2_with fail
      go_region
      obtain ⟨w7, hw7⟩ : ∃ w7, (w6.setCell ⟨R, u, none⟩ (.int .u32 (W (r u ||| 1#32 <<< t)))).drew = w7 := ⟨_, rfl⟩
      rw [hw7]
      have HW7 := Lib.hid (show WSt w0 w7 S R K AF cf (some ⟨b, off, none⟩) lf c1 Ac m cc who (updN r u (r u ||| 1#32 <<< t)) k f from hw7 ▸ (HW6.out.setR u (r u ||| 1#32 <<< t)).kept (Kept.refl _).drew)
      have KP7 := Lib.hid (show Keeps w0 w w7 from hw7 ▸ (KP6.out.trans (Keeps.setRow HW6.out.rd u _)).trans (Keeps.of (Kept.refl _).drew))
      have PB7 := Lib.hid (show Row w0 w7 w.heap.size 94 [.pointer (some ⟨S, 0, none⟩)] from hw7 ▸ (PB6.out.other (p := ⟨R, u, none⟩) _ (Nat.ne_of_gt HNE.out.1) HW6.out.rd.2.1).drew)
      have DB7 := Lib.hid (show Row w0 w7 (w.heap.size + 1) 75 [.int .i64 1, .int .i64 u, .int .i64 t, .int .i64 lv, .int .u32 (W pt), .int .i64 vl] from hw7 ▸ (DB6.out.other (p := ⟨R, u, none⟩) _ (Nat.ne_of_gt (Nat.lt_succ_of_lt HNE.out.1)) HW6.out.rd.2.1).drew)
      clear hw7 s2 s3 s4 r0 rf p0 d0 d1 d2
      have p0 := PB7.out.cell 0 rfl
      have d1 := DB7.out.cell 1 rfl
      have d2 := DB7.out.cell 2 rfl
      have s3 := HW7.out.st.cell 3 rfl
      have s4 := HW7.out.st.cell 4 rfl
      have q0 := HW7.out.kn.cell u (rowsV_at k hu)
      have qf := HW7.out.kn.free u
      obtain ⟨g, rfl, _, _⟩ := HW7.out.fr.block (by omega)
      have y0 := HW7.out.fr.cell t (rowsV_at f ht)
      clear o0
      go_wp2_with fail
      go_still_tail 18, (by kernel_rfl)
      go_wp2_with fail
      have KP8 := Lib.hid ((KP7.out.trans (Keeps.setRow HW7.out.kn u (.int .u32 (W (k u ||| f t))))).trans (Keeps.of (Kept.refl _).drew))
      have HW8 := Lib.hid ((HW7.out.setK u (k u ||| f t)).kept (Kept.refl _).drew)
      have HI8 := Lib.hid (HI.out.read (u := u) (t := t) (by rw [HLF.out]; exact hl8) (by rw [HLF.out]; exact ht) (.inr HNO.out))
      go_ret
      exact ⟨_, rfl, HW8.out, HI8.out, KP8.out⟩
end Go.Proofs.Ytnnddjanbfamkaa
