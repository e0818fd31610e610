/- PenPage: the walk of the statement. -/
import Derived.Test.YtjcooagchjjknaaPen5
namespace Go.Proofs.Ytjcooagchjjknaa.penPageDone
open Go Go.RowKit
set_option linter.unusedVariables false

theorem penF_no {ls : List Lf} {s : Sk} (h : pagedB ls s.who = false) : (penF ls s).1 ≠ 0 ∧ (penF ls s).2 = [] := by
  have hv : viewF ls s.who ≠ 0 := fun h2 => by rw [viewF_iff.1 h2] at h; cases h
  unfold penF
  rw [if_pos hv]
  exact ⟨hv, rfl⟩
theorem penF_yes {ls : List Lf} {s : Sk} (h : pagedB ls s.who = true) : penF ls s = penC ls s := by
  unfold penF
  rw [if_neg (by rw [viewF_iff.2 h]; simp)]
set_option maxHeartbeats 4000000 in
theorem penPage_walk (A : Option Addr) (n c : Nat) (ls : List Lf) (x : Sk × Option Addr × Nat × Nat) (w : World) (hn : n ≤ maxLen) (hs : SlL w A n ls) (hx : x.2.2.1 ≤ maxLen ∧ x.2.2.1 ≤ x.2.2.2 ∧ SlI w x.2.1 x.2.2.1 x.1.path) :
    Calls Try.prog 7 #[.slice A n c, .agg #[.int .i64 x.1.kind, .int .i64 x.1.who.1, .int .u32 (W x.1.who.2), .slice x.2.1 x.2.2.1 x.2.2.2, .int .i64 x.1.text]] w fun e w' => e = .returned (.bool true) ∧ Below w.heap.size w w' := by
  suffices h : Calls Try.prog 7 #[.slice A n c, .agg #[.int .i64 x.1.kind, .int .i64 x.1.who.1, .int .u32 (W x.1.who.2), .slice x.2.1 x.2.2.1 x.2.2.2, .int .i64 x.1.text]] w fun e w' => e = .returned (.bool true) ∧ Kept w w' from h.mono fun e w' ⟨h1, h2⟩ => ⟨h1, h2.below⟩
  obtain ⟨⟨kind, ⟨lv, pt⟩, ps, tx⟩, A2, m, c2⟩ := x
  obtain ⟨hm, hmc, hp⟩ := hx
  simp only at hm hmc hp ⊢
  have hka : Kept w (w.alloc (.cells #[.int .i64 kind, .int .i64 lv, .int .u32 (W pt), .slice A2 m c2, .int .i64 tx] 48)) := (Kept.refl _).alloc _
  have bx := Box.new w #[.int .i64 kind, .int .i64 lv, .int .u32 (W pt), .slice A2 m c2, .int .i64 tx] 48 w.heap.size rfl
  have HN := Lib.hid hn
  have hdo := Lib.hid (do_any A n c ls kind lv pt A2 m c2 ps tx _ (hs.kept hka) (hp.kept hka) hn hm hmc)
  have HNO := Lib.hid (fun h => penF_no (ls := ls) (s := ⟨kind, (lv, pt), ps, tx⟩) h)
  have HYES := Lib.hid (fun h => penF_yes (ls := ls) (s := ⟨kind, (lv, pt), ps, tx⟩) h)
  have HOK := Lib.hid (fun (h : PageOk ls) (hw : labOk (lv, pt) = true) => penC_ok h (s := ⟨kind, (lv, pt), ps, tx⟩) hw)
  have HNZ := Lib.hid (fun h => penC_nz (ls := ls) (s := ⟨kind, (lv, pt), ps, tx⟩) h)
  simp only at HOK
  have HLN := Lib.hid hs.2
  go_enter Try.func7, Try.ntmps7
  go_wp2_with fail
  refine hdo.out.mono ?_
  rintro e w1 ⟨A1, c1, rfl, h1, k1⟩
  have q1 := hka.trans k1
  have b1 := bx.kept k1
  clear bx hka hdo k1 hp
  have e1 := b1.at_ 1 rfl
  have e2 := b1.at_ 2 rfl
  generalize penF ls ⟨kind, (lv, pt), ps, tx⟩ = r at *
  obtain ⟨code, rs⟩ := r
  simp only at h1 HNO ⊢
  generalize hrl : rs.length = rn at h1 ⊢
  have HRL := Lib.hid hrl
  clear hrl
  generalize w.heap.size = B at b1 e1 e2 ⊢
  cases hpa : pagedB ls (lv, pt)
  · obtain ⟨hcz, hr⟩ := HNO.out hpa
    have hne : (code != 0) = true := by simpa using hcz
    have HP := Lib.hid hpa
    clear hpa hcz
    go_wp2_with fail
    refine (paged_any A n c ls lv pt _ (hs.kept q1) HN.out).mono ?_
    rintro e w2 ⟨rfl, k2⟩
    rw [HP.out]
    go_wp2_with fail
    go_ret
    exact ⟨rfl, q1.trans k2⟩
  · have HE := Lib.hid (HYES.out hpa)
    have hpq := pagedB_iff.1 hpa
    have HPO := Lib.hid (pageF_zero.1 hpq.1)
    have HLO := Lib.hid hpq.2
    have HP := Lib.hid hpa
    clear hpa hpq
    go_wp2_with fail
    refine (paged_any A n c ls lv pt _ (hs.kept q1) HN.out).mono ?_
    rintro e w2 ⟨rfl, k2⟩
    rw [HP.out]
    have q2 := q1.trans k2
    have b2 := b1.kept k2
    clear e1 e2 b1
    have e0 := b2.at_ 0 rfl
    by_cases hc0 : code = 0
    · subst hc0
      have hk := HOK.out HPO.out HLO.out (by rw [← HE.out])
      rw [← HE.out] at hk
      have HRP := Lib.hid (pageF_zero.2 hk.1)
      have h40 := hk.1.1
      have hcase := hk.2
      simp only [HRL.out, HLN.out] at h40 hcase
      clear hk
      have hrm : rn ≤ maxLen := by unfold maxLen; omega
      have h1b := h1.kept k2
      go_wp2_with fail
      refine (pageCheck_any _ _ _ rs _ h1b hrm).mono ?_
      rintro e w3 ⟨rfl, k3⟩
      rw [HRP.out]
      have q3 := q2.trans k3
      have b3 := b2.kept k3
      clear e0 b2
      have e0 := b3.at_ 0 rfl
      have hn40 : n ≤ 40 := by have := HPO.out.1; rw [HLN.out] at this; exact this
      have hw9 : IntKind.i64.wrap ((n : Int) + 1) = (n : Int) + 1 := by rw [IntKind.wrap_i64]; rcases hcase with h | h | h <;> omega
      rcases hcase with ⟨rfl, hl⟩ | ⟨rfl, hl⟩ | ⟨rfl, hl⟩
      · have t1 : ((rn : Int) == (n : Int) + 1) = true := by simp; omega
        go_wp2_with fail
        go_ret
        exact ⟨by first | rfl | simp [hl], q3⟩
      · subst hl
        go_wp2_with fail
        go_ret
        exact ⟨by first | rfl | simp, q3⟩
      · have t1 : decide (rn < n) = true := by simpa using hl
        go_wp2_with fail
        go_ret
        exact ⟨by first | rfl | simp [hl], q3⟩
    · have hr := HNZ.out (by rw [← HE.out]; exact hc0)
      rw [← HE.out] at hr
      simp only at hr
      have hrn : rn = 0 := by rw [← HRL.out, hr]; rfl
      subst hrn
      have hne : (code != 0) = true := by simpa using hc0
      clear hc0
      go_wp2_with fail
      go_ret
      exact ⟨rfl, q2⟩
end Go.Proofs.Ytjcooagchjjknaa.penPageDone
