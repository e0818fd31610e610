/- PlaceBack: the walk of the statement. -/
import Derived.Test.YtjcooagchjjknaaPath2
import Derived.Test.YtjcooagchjjknaaPenP
namespace Go.Proofs.Ytjcooagchjjknaa.placeBackDone
open Go Go.RowKit
set_option linter.unusedVariables false

theorem find_two {ls : List Lf} {who : Lab} {q : List Int} (h : viewF ls who = 0) : findF ls who q = (0, 5) ∨ ∃ i : Nat, findF ls who q = ((i : Int), 0) ∧ goF ls who (-1) q = some (i : Int) ∧ pathE ls who (i : Int) = 0 := by
  have e : findF ls who q = fndF ls who q := by
    unfold findF
    rw [if_neg (by simp [h])]
    rfl
  rw [e]
  by_cases hz : (fndF ls who q).2 = 0
  · obtain ⟨_, i, h1, h2, h3, h4⟩ := fnd_zero hz
    refine .inr ⟨i, Prod.ext h4 hz, h1, ?_⟩
    unfold pathE
    have h3' : seen who (lfAt ls i) = true := h3
    rw [if_neg (by simp [h]), if_neg (by omega), Int.toNat_natCast, if_neg (by simp [h3'])]
  · exact .inl (fnd_nz hz)
theorem find_of {ls : List Lf} {who : Lab} {ps : List Int} {k0 : Nat} (h : viewF ls who = 0) (hg : goF ls who (-1) ps = some (k0 : Int)) : findF ls who ps = ((k0 : Int), 0) ∧ 0 < ps.length := by
  have hne : ps ≠ [] := fun e => by
    rw [e] at hg
    have : (-1 : Int) = (k0 : Int) := Option.some.inj hg
    omega
  refine ⟨?_, List.length_pos_iff.2 hne⟩
  unfold findF
  rw [if_neg (by simp [h]), if_neg hne, hg]
set_option maxHeartbeats 8000000 in
theorem back_un (A : Option Addr) (n c : Nat) (ls : List Lf) (lv : Int) (pt : BitVec 32) (k : Int) (A2 : Option Addr) (m c2 : Nat) (qs : List Int) (w : World) (hn : n ≤ maxLen) (hs : SlL w A n ls) (hm : m ≤ maxLen) (hp : SlI w A2 m qs) (hP : pagedB ls (lv, pt) = false) :
    Calls Try.prog 6 #[.slice A n c, .agg #[.int .i64 lv, .int .u32 (W pt)], .int .i64 k, .slice A2 m c2] w fun e w' => e = .returned (.bool true) ∧ Kept w w' := by
  have hka : Kept w (w.alloc (.cells #[.int .i64 lv, .int .u32 (W pt)] 25)) := (Kept.refl _).alloc _
  have bx := Box.new w #[.int .i64 lv, .int .u32 (W pt)] 25 w.heap.size rfl
  have e0 := bx.at_ 0 rfl
  have e1 := bx.at_ 1 rfl
  have HN := Lib.hid hn
  have HM := Lib.hid hm
  have hv : viewF ls (lv, pt) ≠ 0 := fun h2 => by rw [viewF_iff.1 h2] at hP; cases hP
  have hpe : pathE ls (lv, pt) k = viewF ls (lv, pt) := by unfold pathE; rw [if_pos hv]
  have hfe : findF ls (lv, pt) qs = (0, viewF ls (lv, pt)) := by unfold findF; rw [if_pos hv]
  have HPA := Lib.hid (path_no A n c ls lv pt k _ (hs.kept hka) hn (by rw [hpe]; exact hv))
  have HFI := Lib.hid (fun w9 h9 h8 => find_any A n c ls lv pt A2 m c2 qs w9 h9 h8 hn hm)
  rw [hpe] at HPA
  rw [hfe] at HFI
  have hne : (viewF ls (lv, pt) != 0) = true := by simpa using hv
  have HP := Lib.hid hP
  clear hP hpe hfe hv
  go_enter Try.func6, Try.ntmps6
  go_wp2_with fail
  refine HPA.out.mono ?_
  rintro e w1 ⟨rfl, k1⟩
  have q0 := hka
  have b0 := bx
  have q1 := q0.trans k1
  have b1 := b0.kept k1
  clear e0 e1
  have e0 := b1.at_ 0 rfl
  have e1 := b1.at_ 1 rfl
  go_wp2_with fail
  refine (HFI.out _ (hs.kept q1) (hp.kept q1)).mono ?_
  rintro e w2 ⟨rfl, k2⟩
  have q2 := q1.trans k2
  have b2 := b1.kept k2
  clear e0 e1
  have e0 := b2.at_ 0 rfl
  have e1 := b2.at_ 1 rfl
  go_wp2_with fail
  refine (paged_any A n c ls lv pt _ (hs.kept q2) HN.out).mono ?_
  rintro e w3 ⟨rfl, k3⟩
  rw [HP.out]
  go_wp2_with fail
  go_ret
  exact ⟨rfl, q2.trans k3⟩
set_option maxHeartbeats 8000000 in
theorem back_yes (A : Option Addr) (n c : Nat) (ls : List Lf) (lv : Int) (pt : BitVec 32) (k : Nat) (A2 : Option Addr) (m c2 : Nat) (qs : List Int) (w : World) (hn : n ≤ maxLen) (hs : SlL w A n ls) (hm : m ≤ maxLen) (hp : SlI w A2 m qs) (hP : pagedB ls (lv, pt) = true)  (hE : pathE ls (lv, pt) (k : Int) = 0) :
    Calls Try.prog 6 #[.slice A n c, .agg #[.int .i64 lv, .int .u32 (W pt)], .int .i64 (k : Int), .slice A2 m c2] w fun e w' => e = .returned (.bool true) ∧ Kept w w' := by
  have hka : Kept w (w.alloc (.cells #[.int .i64 lv, .int .u32 (W pt)] 25)) := (Kept.refl _).alloc _
  have bx := Box.new w #[.int .i64 lv, .int .u32 (W pt)] 25 w.heap.size rfl
  have e0 := bx.at_ 0 rfl
  have e1 := bx.at_ 1 rfl
  have HN := Lib.hid hn
  have HM := Lib.hid hm
  have hv := viewF_iff.2 hP
  have HV := Lib.hid hv
  have HLN := Lib.hid hs.2
  have HOK := Lib.hid (pageF_zero.1 (pagedB_iff.1 hP).1)
  have HP := Lib.hid hP
  have HMQ := Lib.hid hp.2
  clear hP
  rcases find_two (q := qs) hv with hfe | ⟨i, hfe, hgq, hpi⟩
  · have HFI := Lib.hid (fun w9 h9 h8 => find_any A n c ls lv pt A2 m c2 qs w9 h9 h8 hn hm)
    rw [hfe] at HFI
    clear hfe hv
    go_enter Try.func6, Try.ntmps6
    go_wp2_with fail
    refine (path_yes A n c ls lv pt k _ (hs.kept hka) hn hE).mono ?_
    rintro e w1 ⟨A1, c1, ps, rfl, h1, hl1, g1, k1⟩
    obtain ⟨hfp, hpos⟩ := find_of HV.out g1
    have HFP := Lib.hid (fun w9 h9 h8 => find_any A n c ls lv pt A1 ps.length c1 ps w9 h9 h8 hn (by unfold maxLen; omega))
    rw [hfp] at HFP
    have hz : ((ps.length : Int) == 0) = false := by simp; intro e; rw [e] at hpos; simp at hpos
    have hz' : (ps.length == 0) = false := by simp; intro e; rw [e] at hpos; simp at hpos
    generalize hgl : ps.length = pl at h1 hz hz' HFP ⊢
    clear hgl hpos hl1 hfp g1
    have q0 := hka
    have b0 := bx
    have q1 := q0.trans k1
    have b1 := b0.kept k1
    clear e0 e1
    have e0 := b1.at_ 0 rfl
    have e1 := b1.at_ 1 rfl
    go_wp2_with fail
    refine (HFI.out _ (hs.kept q1) (hp.kept q1)).mono ?_
    rintro e w2 ⟨rfl, k2⟩
    have q2 := q1.trans k2
    have b2 := b1.kept k2
    clear e0 e1
    have e0 := b2.at_ 0 rfl
    have e1 := b2.at_ 1 rfl
    go_wp2_with fail
    refine (paged_any A n c ls lv pt _ (hs.kept q2) HN.out).mono ?_
    rintro e w3 ⟨rfl, k3⟩
    rw [HP.out]
    have q3 := q2.trans k3
    have b3 := b2.kept k3
    clear e0 e1
    have e0 := b3.at_ 0 rfl
    have e1 := b3.at_ 1 rfl
    go_wp2_with fail
    refine (HFP.out _ (hs.kept q3) (h1.kept (k2.trans k3))).mono ?_
    rintro e w4 ⟨rfl, k4⟩
    have q4 := q3.trans k4
    have b4 := b3.kept k4
    clear e0 e1
    have e0 := b4.at_ 0 rfl
    have e1 := b4.at_ 1 rfl
    go_wp2_with fail
    go_ret
    exact ⟨rfl, q4⟩
  · have HFI := Lib.hid (fun w9 h9 h8 => find_any A n c ls lv pt A2 m c2 qs w9 h9 h8 hn hm)
    rw [hfe] at HFI
    have HGQ := Lib.hid hgq
    have HPB := Lib.hid (fun w9 h9 => path_yes A n c ls lv pt i w9 h9 hn hpi)
    clear hgq hpi
    clear hfe hv
    go_enter Try.func6, Try.ntmps6
    go_wp2_with fail
    refine (path_yes A n c ls lv pt k _ (hs.kept hka) hn hE).mono ?_
    rintro e w1 ⟨A1, c1, ps, rfl, h1, hl1, g1, k1⟩
    obtain ⟨hfp, hpos⟩ := find_of HV.out g1
    have HFP := Lib.hid (fun w9 h9 h8 => find_any A n c ls lv pt A1 ps.length c1 ps w9 h9 h8 hn (by unfold maxLen; omega))
    rw [hfp] at HFP
    have hz : ((ps.length : Int) == 0) = false := by simp; intro e; rw [e] at hpos; simp at hpos
    have hz' : (ps.length == 0) = false := by simp; intro e; rw [e] at hpos; simp at hpos
    generalize hgl : ps.length = pl at h1 hz hz' HFP ⊢
    clear hgl hpos hl1 hfp g1
    have q0 := hka
    have b0 := bx
    have q1 := q0.trans k1
    have b1 := b0.kept k1
    clear e0 e1
    have e0 := b1.at_ 0 rfl
    have e1 := b1.at_ 1 rfl
    go_wp2_with fail
    refine (HFI.out _ (hs.kept q1) (hp.kept q1)).mono ?_
    rintro e w2 ⟨rfl, k2⟩
    have q2 := q1.trans k2
    have b2 := b1.kept k2
    clear e0 e1
    have e0 := b2.at_ 0 rfl
    have e1 := b2.at_ 1 rfl
    go_wp2_with fail
    refine (paged_any A n c ls lv pt _ (hs.kept q2) HN.out).mono ?_
    rintro e w3 ⟨rfl, k3⟩
    rw [HP.out]
    have q3 := q2.trans k3
    have b3 := b2.kept k3
    clear e0 e1
    have e0 := b3.at_ 0 rfl
    have e1 := b3.at_ 1 rfl
    go_wp2_with fail
    refine (HFP.out _ (hs.kept q3) (h1.kept (k2.trans k3))).mono ?_
    rintro e w4 ⟨rfl, k4⟩
    have q4 := q3.trans k4
    have b4 := b3.kept k4
    clear e0 e1
    have e0 := b4.at_ 0 rfl
    have e1 := b4.at_ 1 rfl
    go_wp2_with fail
    refine (HPB.out _ (hs.kept q4)).mono ?_
    rintro e w7 ⟨A7, c7, ps7, rfl, h7, _, g7, k7⟩
    have e7 : ps7 = qs := go_uniq _ ps7 qs _ rfl g7 HGQ.out
    subst e7
    have hml := HMQ.out
    subst hml
    clear e0 e1
    go_wp2_with fail
    refine (ints_same A7 _ c7 A2 c2 ps7 _ h7 (hp.kept (q4.trans k7)) hm).mono ?_
    rintro e w8 ⟨rfl, k8⟩
    go_wp2_with fail
    go_ret
    exact ⟨rfl, (q4.trans k7).trans k8⟩
set_option maxHeartbeats 8000000 in
theorem back_neg (A : Option Addr) (n c : Nat) (ls : List Lf) (lv : Int) (pt : BitVec 32) (k : Int) (A2 : Option Addr) (m c2 : Nat) (qs : List Int) (w : World) (hn : n ≤ maxLen) (hs : SlL w A n ls) (hm : m ≤ maxLen) (hp : SlI w A2 m qs) (hP : pagedB ls (lv, pt) = true) (hE : pathE ls (lv, pt) k ≠ 0) (hk : k < 0) :
    Calls Try.prog 6 #[.slice A n c, .agg #[.int .i64 lv, .int .u32 (W pt)], .int .i64 k, .slice A2 m c2] w fun e w' => e = .returned (.bool true) ∧ Kept w w' := by
  have hka : Kept w (w.alloc (.cells #[.int .i64 lv, .int .u32 (W pt)] 25)) := (Kept.refl _).alloc _
  have bx := Box.new w #[.int .i64 lv, .int .u32 (W pt)] 25 w.heap.size rfl
  have e0 := bx.at_ 0 rfl
  have e1 := bx.at_ 1 rfl
  have HN := Lib.hid hn
  have HM := Lib.hid hm
  have hv := viewF_iff.2 hP
  have HV := Lib.hid hv
  have HLN := Lib.hid hs.2
  have HOK := Lib.hid (pageF_zero.1 (pagedB_iff.1 hP).1)
  have HP := Lib.hid hP
  have HMQ := Lib.hid hp.2
  clear hP
  have HE := Lib.hid hE
  have d0 : decide (0 ≤ k) = false := by simp; omega
  clear hE hk
  rcases find_two (q := qs) hv with hfe | ⟨i, hfe, hgq, hpi⟩
  · have HFI := Lib.hid (fun w9 h9 h8 => find_any A n c ls lv pt A2 m c2 qs w9 h9 h8 hn hm)
    rw [hfe] at HFI
    clear hfe hv
    go_enter Try.func6, Try.ntmps6
    go_wp2_with fail
    refine (path_no A n c ls lv pt k _ (hs.kept hka) hn HE.out).mono ?_
    rintro e w1 ⟨rfl, k1⟩
    have hne : (pathE ls (lv, pt) k != 0) = true := by have := HE.out; simpa using this
    have hne2 : (pathE ls (lv, pt) k == 0) = false := by have := HE.out; simpa using this
    generalize pathE ls (lv, pt) k = pe at hne hne2 ⊢
    have q0 := hka
    have b0 := bx
    have q1 := q0.trans k1
    have b1 := b0.kept k1
    clear e0 e1
    have e0 := b1.at_ 0 rfl
    have e1 := b1.at_ 1 rfl
    go_wp2_with fail
    refine (HFI.out _ (hs.kept q1) (hp.kept q1)).mono ?_
    rintro e w2 ⟨rfl, k2⟩
    have q2 := q1.trans k2
    have b2 := b1.kept k2
    clear e0 e1
    have e0 := b2.at_ 0 rfl
    have e1 := b2.at_ 1 rfl
    go_wp2_with fail
    refine (paged_any A n c ls lv pt _ (hs.kept q2) HN.out).mono ?_
    rintro e w3 ⟨rfl, k3⟩
    rw [HP.out]
    have q3 := q2.trans k3
    have b3 := b2.kept k3
    clear e0 e1
    have e0 := b3.at_ 0 rfl
    have e1 := b3.at_ 1 rfl
    go_wp2_with fail
    refine wp_region_kept (by kernel_rfl) (by kernel_rfl) ?_
    repeat (go_big_quiet_step (fail))
    refine wpQuiet_nil ?_
    intro w4 k4
    have q4 := q3.trans k4
    have b4 := b3.kept k4
    clear e0 e1
    have e0 := b4.at_ 0 rfl
    have e1 := b4.at_ 1 rfl
    go_wp2_with fail
    go_ret
    exact ⟨rfl, q4⟩
  · have HFI := Lib.hid (fun w9 h9 h8 => find_any A n c ls lv pt A2 m c2 qs w9 h9 h8 hn hm)
    rw [hfe] at HFI
    have HGQ := Lib.hid hgq
    have HPB := Lib.hid (fun w9 h9 => path_yes A n c ls lv pt i w9 h9 hn hpi)
    clear hgq hpi
    clear hfe hv
    go_enter Try.func6, Try.ntmps6
    go_wp2_with fail
    refine (path_no A n c ls lv pt k _ (hs.kept hka) hn HE.out).mono ?_
    rintro e w1 ⟨rfl, k1⟩
    have hne : (pathE ls (lv, pt) k != 0) = true := by have := HE.out; simpa using this
    have hne2 : (pathE ls (lv, pt) k == 0) = false := by have := HE.out; simpa using this
    generalize pathE ls (lv, pt) k = pe at hne hne2 ⊢
    have q0 := hka
    have b0 := bx
    have q1 := q0.trans k1
    have b1 := b0.kept k1
    clear e0 e1
    have e0 := b1.at_ 0 rfl
    have e1 := b1.at_ 1 rfl
    go_wp2_with fail
    refine (HFI.out _ (hs.kept q1) (hp.kept q1)).mono ?_
    rintro e w2 ⟨rfl, k2⟩
    have q2 := q1.trans k2
    have b2 := b1.kept k2
    clear e0 e1
    have e0 := b2.at_ 0 rfl
    have e1 := b2.at_ 1 rfl
    go_wp2_with fail
    refine (paged_any A n c ls lv pt _ (hs.kept q2) HN.out).mono ?_
    rintro e w3 ⟨rfl, k3⟩
    rw [HP.out]
    have q3 := q2.trans k3
    have b3 := b2.kept k3
    clear e0 e1
    have e0 := b3.at_ 0 rfl
    have e1 := b3.at_ 1 rfl
    go_wp2_with fail
    refine wp_region_kept (by kernel_rfl) (by kernel_rfl) ?_
    repeat (go_big_quiet_step (fail))
    refine wpQuiet_nil ?_
    intro w4 k4
    have q4 := q3.trans k4
    have b4 := b3.kept k4
    clear e0 e1
    have e0 := b4.at_ 0 rfl
    have e1 := b4.at_ 1 rfl
    go_wp2_with fail
    refine (HPB.out _ (hs.kept q4)).mono ?_
    rintro e w7 ⟨A7, c7, ps7, rfl, h7, _, g7, k7⟩
    have e7 : ps7 = qs := go_uniq _ ps7 qs _ rfl g7 HGQ.out
    subst e7
    have hml := HMQ.out
    subst hml
    clear e0 e1
    go_wp2_with fail
    refine (ints_same A7 _ c7 A2 c2 ps7 _ h7 (hp.kept (q4.trans k7)) hm).mono ?_
    rintro e w8 ⟨rfl, k8⟩
    go_wp2_with fail
    go_ret
    exact ⟨rfl, (q4.trans k7).trans k8⟩
set_option maxHeartbeats 8000000 in
theorem back_out (A : Option Addr) (n c : Nat) (ls : List Lf) (lv : Int) (pt : BitVec 32) (k : Nat) (A2 : Option Addr) (m c2 : Nat) (qs : List Int) (w : World) (hn : n ≤ maxLen) (hs : SlL w A n ls) (hm : m ≤ maxLen) (hp : SlI w A2 m qs) (hP : pagedB ls (lv, pt) = true) (hE : pathE ls (lv, pt) (k : Int) ≠ 0) (hk : n ≤ k) :
    Calls Try.prog 6 #[.slice A n c, .agg #[.int .i64 lv, .int .u32 (W pt)], .int .i64 (k : Int), .slice A2 m c2] w fun e w' => e = .returned (.bool true) ∧ Kept w w' := by
  have hka : Kept w (w.alloc (.cells #[.int .i64 lv, .int .u32 (W pt)] 25)) := (Kept.refl _).alloc _
  have bx := Box.new w #[.int .i64 lv, .int .u32 (W pt)] 25 w.heap.size rfl
  have e0 := bx.at_ 0 rfl
  have e1 := bx.at_ 1 rfl
  have HN := Lib.hid hn
  have HM := Lib.hid hm
  have hv := viewF_iff.2 hP
  have HV := Lib.hid hv
  have HLN := Lib.hid hs.2
  have HOK := Lib.hid (pageF_zero.1 (pagedB_iff.1 hP).1)
  have HP := Lib.hid hP
  have HMQ := Lib.hid hp.2
  clear hP
  have HE := Lib.hid hE
  have d0 : decide ((0 : Int) ≤ (k : Int)) = true := by simp
  have d1 : decide (k < n) = false := by simp; omega
  have d2 : decide ((k : Int) < (n : Int)) = false := by simp; omega
  clear hE hk
  rcases find_two (q := qs) hv with hfe | ⟨i, hfe, hgq, hpi⟩
  · have HFI := Lib.hid (fun w9 h9 h8 => find_any A n c ls lv pt A2 m c2 qs w9 h9 h8 hn hm)
    rw [hfe] at HFI
    clear hfe hv
    go_enter Try.func6, Try.ntmps6
    go_wp2_with fail
    refine (path_no A n c ls lv pt (k : Int) _ (hs.kept hka) hn HE.out).mono ?_
    rintro e w1 ⟨rfl, k1⟩
    have hne : (pathE ls (lv, pt) (k : Int) != 0) = true := by have := HE.out; simpa using this
    have hne2 : (pathE ls (lv, pt) (k : Int) == 0) = false := by have := HE.out; simpa using this
    generalize pathE ls (lv, pt) (k : Int) = pe at hne hne2 ⊢
    have q0 := hka
    have b0 := bx
    have q1 := q0.trans k1
    have b1 := b0.kept k1
    clear e0 e1
    have e0 := b1.at_ 0 rfl
    have e1 := b1.at_ 1 rfl
    go_wp2_with fail
    refine (HFI.out _ (hs.kept q1) (hp.kept q1)).mono ?_
    rintro e w2 ⟨rfl, k2⟩
    have q2 := q1.trans k2
    have b2 := b1.kept k2
    clear e0 e1
    have e0 := b2.at_ 0 rfl
    have e1 := b2.at_ 1 rfl
    go_wp2_with fail
    refine (paged_any A n c ls lv pt _ (hs.kept q2) HN.out).mono ?_
    rintro e w3 ⟨rfl, k3⟩
    rw [HP.out]
    have q3 := q2.trans k3
    have b3 := b2.kept k3
    clear e0 e1
    have e0 := b3.at_ 0 rfl
    have e1 := b3.at_ 1 rfl
    go_wp2_with fail
    refine wp_region_kept (by kernel_rfl) (by kernel_rfl) ?_
    repeat (go_big_quiet_step (fail))
    refine wpQuiet_nil ?_
    intro w4 k4
    have q4 := q3.trans k4
    have b4 := b3.kept k4
    clear e0 e1
    have e0 := b4.at_ 0 rfl
    have e1 := b4.at_ 1 rfl
    go_wp2_with fail
    go_ret
    exact ⟨rfl, q4⟩
  · have HFI := Lib.hid (fun w9 h9 h8 => find_any A n c ls lv pt A2 m c2 qs w9 h9 h8 hn hm)
    rw [hfe] at HFI
    have HGQ := Lib.hid hgq
    have HPB := Lib.hid (fun w9 h9 => path_yes A n c ls lv pt i w9 h9 hn hpi)
    clear hgq hpi
    clear hfe hv
    go_enter Try.func6, Try.ntmps6
    go_wp2_with fail
    refine (path_no A n c ls lv pt (k : Int) _ (hs.kept hka) hn HE.out).mono ?_
    rintro e w1 ⟨rfl, k1⟩
    have hne : (pathE ls (lv, pt) (k : Int) != 0) = true := by have := HE.out; simpa using this
    have hne2 : (pathE ls (lv, pt) (k : Int) == 0) = false := by have := HE.out; simpa using this
    generalize pathE ls (lv, pt) (k : Int) = pe at hne hne2 ⊢
    have q0 := hka
    have b0 := bx
    have q1 := q0.trans k1
    have b1 := b0.kept k1
    clear e0 e1
    have e0 := b1.at_ 0 rfl
    have e1 := b1.at_ 1 rfl
    go_wp2_with fail
    refine (HFI.out _ (hs.kept q1) (hp.kept q1)).mono ?_
    rintro e w2 ⟨rfl, k2⟩
    have q2 := q1.trans k2
    have b2 := b1.kept k2
    clear e0 e1
    have e0 := b2.at_ 0 rfl
    have e1 := b2.at_ 1 rfl
    go_wp2_with fail
    refine (paged_any A n c ls lv pt _ (hs.kept q2) HN.out).mono ?_
    rintro e w3 ⟨rfl, k3⟩
    rw [HP.out]
    have q3 := q2.trans k3
    have b3 := b2.kept k3
    clear e0 e1
    have e0 := b3.at_ 0 rfl
    have e1 := b3.at_ 1 rfl
    go_wp2_with fail
    refine wp_region_kept (by kernel_rfl) (by kernel_rfl) ?_
    repeat (go_big_quiet_step (fail))
    refine wpQuiet_nil ?_
    intro w4 k4
    have q4 := q3.trans k4
    have b4 := b3.kept k4
    clear e0 e1
    have e0 := b4.at_ 0 rfl
    have e1 := b4.at_ 1 rfl
    go_wp2_with fail
    refine (HPB.out _ (hs.kept q4)).mono ?_
    rintro e w7 ⟨A7, c7, ps7, rfl, h7, _, g7, k7⟩
    have e7 : ps7 = qs := go_uniq _ ps7 qs _ rfl g7 HGQ.out
    subst e7
    have hml := HMQ.out
    subst hml
    clear e0 e1
    go_wp2_with fail
    refine (ints_same A7 _ c7 A2 c2 ps7 _ h7 (hp.kept (q4.trans k7)) hm).mono ?_
    rintro e w8 ⟨rfl, k8⟩
    go_wp2_with fail
    go_ret
    exact ⟨rfl, (q4.trans k7).trans k8⟩
set_option maxHeartbeats 8000000 in
theorem back_hid (A : Option Addr) (n c : Nat) (ls : List Lf) (lv : Int) (pt : BitVec 32) (k : Nat) (A2 : Option Addr) (m c2 : Nat) (qs : List Int) (w : World) (hn : n ≤ maxLen) (hs : SlL w A n ls) (hm : m ≤ maxLen) (hp : SlI w A2 m qs) (hP : pagedB ls (lv, pt) = true) (hE : pathE ls (lv, pt) (k : Int) ≠ 0) (hk : k < n) :
    Calls Try.prog 6 #[.slice A n c, .agg #[.int .i64 lv, .int .u32 (W pt)], .int .i64 (k : Int), .slice A2 m c2] w fun e w' => e = .returned (.bool true) ∧ Kept w w' := by
  have hka : Kept w (w.alloc (.cells #[.int .i64 lv, .int .u32 (W pt)] 25)) := (Kept.refl _).alloc _
  have bx := Box.new w #[.int .i64 lv, .int .u32 (W pt)] 25 w.heap.size rfl
  have e0 := bx.at_ 0 rfl
  have e1 := bx.at_ 1 rfl
  have HN := Lib.hid hn
  have HM := Lib.hid hm
  have hv := viewF_iff.2 hP
  have HV := Lib.hid hv
  have HLN := Lib.hid hs.2
  have HOK := Lib.hid (pageF_zero.1 (pagedB_iff.1 hP).1)
  have HP := Lib.hid hP
  have HMQ := Lib.hid hp.2
  clear hP
  have HE := Lib.hid hE
  have d0 : decide ((0 : Int) ≤ (k : Int)) = true := by simp
  have d1 : decide (k < n) = true := by simpa using hk
  have hi1 : (0 : Int) ≤ (k : Int) := by omega
  have hi2 : (k : Int) < (n : Int) := by omega
  have HSE := Lib.hid (show leB (lfAt ls k).2.2 (lv, pt) = false by
    cases h : leB (lfAt ls k).2.2 (lv, pt)
    · rfl
    · exfalso
      apply hE
      have h2 : seen (lv, pt) (lfAt ls k) = true := h
      unfold pathE
      rw [if_neg (by simp [hv]), if_neg (by have := hs.2; omega), Int.toNat_natCast, if_neg (by simp [h2])])
  clear hE
  rcases find_two (q := qs) hv with hfe | ⟨i, hfe, hgq, hpi⟩
  · have HFI := Lib.hid (fun w9 h9 h8 => find_any A n c ls lv pt A2 m c2 qs w9 h9 h8 hn hm)
    rw [hfe] at HFI
    clear hfe hv
    go_enter Try.func6, Try.ntmps6
    go_wp2_with fail
    refine (path_no A n c ls lv pt (k : Int) _ (hs.kept hka) hn HE.out).mono ?_
    rintro e w1 ⟨rfl, k1⟩
    have hne : (pathE ls (lv, pt) (k : Int) != 0) = true := by have := HE.out; simpa using this
    have hne2 : (pathE ls (lv, pt) (k : Int) == 0) = false := by have := HE.out; simpa using this
    generalize pathE ls (lv, pt) (k : Int) = pe at hne hne2 ⊢
    have q0 := hka
    have b0 := bx
    have q1 := q0.trans k1
    have b1 := b0.kept k1
    clear e0 e1
    have e0 := b1.at_ 0 rfl
    have e1 := b1.at_ 1 rfl
    go_wp2_with fail
    refine (HFI.out _ (hs.kept q1) (hp.kept q1)).mono ?_
    rintro e w2 ⟨rfl, k2⟩
    have q2 := q1.trans k2
    have b2 := b1.kept k2
    clear e0 e1
    have e0 := b2.at_ 0 rfl
    have e1 := b2.at_ 1 rfl
    go_wp2_with fail
    refine (paged_any A n c ls lv pt _ (hs.kept q2) HN.out).mono ?_
    rintro e w3 ⟨rfl, k3⟩
    rw [HP.out]
    have q3 := q2.trans k3
    have b3 := b2.kept k3
    clear e0 e1
    have e0 := b3.at_ 0 rfl
    have e1 := b3.at_ 1 rfl
    obtain ⟨b9, o9, rfl, hb9, c0, c1, c2', c3⟩ := (hs.kept q3).getN k hk
    generalize lfAt ls k = x at c0 c1 c2' c3 HSE
    obtain ⟨up, tx, lx, px⟩ := x
    simp only at c0 c1 c2' c3 HSE
    have z0 := kw_cell e0
    have z1 := kw_cell e1
    have z2 := kw_cell c2'
    have z3 := kw_cell c3
    go_wp2_with fail
    refine wp_region_kept (by kernel_rfl) (by kernel_rfl) ?_
    repeat (go_big_quiet_step ((go_at_call 22; exact kept_of (refBelow_is lx lv px pt false HSE.out _))))
    refine wpQuiet_nil ?_
    intro w4 k4
    have q4 := q3.trans k4
    have b4 := b3.kept k4
    clear e0 e1
    have e0 := b4.at_ 0 rfl
    have e1 := b4.at_ 1 rfl
    go_wp2_with fail
    go_ret
    exact ⟨rfl, q4⟩
  · have HFI := Lib.hid (fun w9 h9 h8 => find_any A n c ls lv pt A2 m c2 qs w9 h9 h8 hn hm)
    rw [hfe] at HFI
    have HGQ := Lib.hid hgq
    have HPB := Lib.hid (fun w9 h9 => path_yes A n c ls lv pt i w9 h9 hn hpi)
    clear hgq hpi
    clear hfe hv
    go_enter Try.func6, Try.ntmps6
    go_wp2_with fail
    refine (path_no A n c ls lv pt (k : Int) _ (hs.kept hka) hn HE.out).mono ?_
    rintro e w1 ⟨rfl, k1⟩
    have hne : (pathE ls (lv, pt) (k : Int) != 0) = true := by have := HE.out; simpa using this
    have hne2 : (pathE ls (lv, pt) (k : Int) == 0) = false := by have := HE.out; simpa using this
    generalize pathE ls (lv, pt) (k : Int) = pe at hne hne2 ⊢
    have q0 := hka
    have b0 := bx
    have q1 := q0.trans k1
    have b1 := b0.kept k1
    clear e0 e1
    have e0 := b1.at_ 0 rfl
    have e1 := b1.at_ 1 rfl
    go_wp2_with fail
    refine (HFI.out _ (hs.kept q1) (hp.kept q1)).mono ?_
    rintro e w2 ⟨rfl, k2⟩
    have q2 := q1.trans k2
    have b2 := b1.kept k2
    clear e0 e1
    have e0 := b2.at_ 0 rfl
    have e1 := b2.at_ 1 rfl
    go_wp2_with fail
    refine (paged_any A n c ls lv pt _ (hs.kept q2) HN.out).mono ?_
    rintro e w3 ⟨rfl, k3⟩
    rw [HP.out]
    have q3 := q2.trans k3
    have b3 := b2.kept k3
    clear e0 e1
    have e0 := b3.at_ 0 rfl
    have e1 := b3.at_ 1 rfl
    obtain ⟨b9, o9, rfl, hb9, c0, c1, c2', c3⟩ := (hs.kept q3).getN k hk
    generalize lfAt ls k = x at c0 c1 c2' c3 HSE
    obtain ⟨up, tx, lx, px⟩ := x
    simp only at c0 c1 c2' c3 HSE
    have z0 := kw_cell e0
    have z1 := kw_cell e1
    have z2 := kw_cell c2'
    have z3 := kw_cell c3
    go_wp2_with fail
    refine wp_region_kept (by kernel_rfl) (by kernel_rfl) ?_
    repeat (go_big_quiet_step ((go_at_call 22; exact kept_of (refBelow_is lx lv px pt false HSE.out _))))
    refine wpQuiet_nil ?_
    intro w4 k4
    have q4 := q3.trans k4
    have b4 := b3.kept k4
    clear e0 e1
    have e0 := b4.at_ 0 rfl
    have e1 := b4.at_ 1 rfl
    go_wp2_with fail
    refine (HPB.out _ (hs.kept q4)).mono ?_
    rintro e w7 ⟨A7, c7, ps7, rfl, h7, _, g7, k7⟩
    have e7 : ps7 = qs := go_uniq _ ps7 qs _ rfl g7 HGQ.out
    subst e7
    have hml := HMQ.out
    subst hml
    clear e0 e1
    go_wp2_with fail
    refine (ints_same A7 _ c7 A2 c2 ps7 _ h7 (hp.kept (q4.trans k7)) hm).mono ?_
    rintro e w8 ⟨rfl, k8⟩
    go_wp2_with fail
    go_ret
    exact ⟨rfl, (q4.trans k7).trans k8⟩
theorem placeBack_walk (A : Option Addr) (n c : Nat) (ls : List Lf) (a : Lab) (k : Int) (A2 : Option Addr) (m c2 : Nat) (qs : List Int) (w : World) (hn : n ≤ maxLen) (hs : SlL w A n ls) (wa : (Lit.int .i64 a.1).wf = true) (wk : (Lit.int .i64 k).wf = true) (hm : m ≤ maxLen) (hpp : SlI w A2 m qs ∧ ∀ x ∈ qs, (Lit.int .i64 x).wf = true) :
    Calls Try.prog 6 #[.slice A n c, .agg #[.int .i64 a.1, .int .u32 (W a.2)], .int .i64 k, .slice A2 m c2] w fun e w' => e = .returned (.bool true) ∧ Below w.heap.size w w' := by
  suffices h : Calls Try.prog 6 #[.slice A n c, .agg #[.int .i64 a.1, .int .u32 (W a.2)], .int .i64 k, .slice A2 m c2] w fun e w' => e = .returned (.bool true) ∧ Kept w w' from h.mono fun e w' ⟨h1, h2⟩ => ⟨h1, h2.below⟩
  obtain ⟨lv, pt⟩ := a
  cases hP : pagedB ls (lv, pt)
  · exact back_un A n c ls lv pt k A2 m c2 qs w hn hs hm hpp.1 hP
  · by_cases hk : k < 0
    · refine back_neg A n c ls lv pt k A2 m c2 qs w hn hs hm hpp.1 hP ?_ hk
      unfold pathE
      rw [if_neg (by simp [viewF_iff.2 hP]), if_pos (.inl hk)]
      decide
    · obtain ⟨kn, rfl⟩ := Int.eq_ofNat_of_zero_le (show 0 ≤ k by omega)
      by_cases hE : pathE ls (lv, pt) (kn : Int) = 0
      · exact back_yes A n c ls lv pt kn A2 m c2 qs w hn hs hm hpp.1 hP hE
      · by_cases hkn : kn < n
        · exact back_hid A n c ls lv pt kn A2 m c2 qs w hn hs hm hpp.1 hP hE hkn
        · exact back_out A n c ls lv pt kn A2 m c2 qs w hn hs hm hpp.1 hP hE (by omega)
end Go.Proofs.Ytjcooagchjjknaa.placeBackDone
