/- The walk of both.and. -/
import Derived.Test.YtjliabifaohfjaaChoice9
import Derived.Test.YtjliabifaohfjaaQuiet
import Derived.Deep.RegionWith
namespace Go.Proofs.Ytjliabifaohfjaa
open Go Go.RowKit
set_option linter.unusedVariables false
set_option linter.unusedSimpArgs false

/-- what both.and hands back -/
def RetAnd (n : Nat) (l r : List Bn) (rest : List Value) (w0 : World) (M bm dm : Nat) (acc : List Bn) (x y S T : Nat) (e : Ending) (w' : World) : Prop :=
  ∃ (k : Nat) (m : List Bn) (A' : Option Addr) (c' : Nat), e = .returned (.int .i64 k) ∧ AndI n l r rest w0 M bm dm (acc ++ m) A' c' S T w' ∧ AndK n l r (acc ++ m) x y k
section
variable {n : Nat} {l r : List Bn} {A1 A2 : Option Addr} {n1 c1 n2 c2 : Nat} {w0 : World} {M bm dm : Nat} {acc : List Bn} {A : Option Addr} {c S T : Nat} {w : World}
set_option maxHeartbeats 2000000 in
theorem and_zero {x y : Nat} (h0 : x = 0 ∨ y = 0) (hI : AndI n l r (restA A1 n1 c1 A2 n2 c2 dm) w0 M bm dm acc A c S T w) :
    Calls Try.prog 44 #[.pointer (some ⟨M, 0, none⟩), .int .i64 x, .int .i64 y, .int .i64 n] w (RetAnd n l r (restA A1 n1 c1 A2 n2 c2 dm) w0 M bm dm acc x y S T) := by
  have FIN := Lib.hid (show RetAnd n l r (restA A1 n1 c1 A2 n2 c2 dm) w0 M bm dm acc x y S T (.returned (.int .i64 0)) w from ⟨0, [], A, c, rfl, by rw [List.append_nil]; exact hI, by rw [List.append_nil]; exact AndK.zero h0⟩)
  clear hI
  by_cases hx : x = 0
  · have g1 : ((x : Int) == 0) = true := by rw [hx]; rfl
    clear hx h0
    go_enter Try.func44, Try.ntmps44
    go_wp2_with fail
    go_ret
    exact FIN.out
  · have g1 : ((x : Int) == 0) = false := by rw [beq_eq_false_iff_ne]; omega
    have g2 : ((y : Int) == 0) = true := by rw [h0.resolve_left hx]; rfl
    clear hx h0
    go_enter Try.func44, Try.ntmps44
    go_wp2_with fail
    go_ret
    exact FIN.out
set_option maxHeartbeats 4000000 in
theorem and_one {x y : Nat} (hl : TreeOk n l) (hr : TreeOk n r) (sl : SlBn w0 A1 n1 l) (sr : SlBn w0 A2 n2 r) (h1 : n1 ≤ 20) (h2 : n2 ≤ 20) (hx : x ≤ n1 + 1) (hy : y ≤ n2 + 1) (hx0 : x ≠ 0) (hy0 : y ≠ 0) (hv : n ≤ min (topF l x n) (topF r y n)) (hn : n ≤ 4)
    (hI : AndI n l r (restA A1 n1 c1 A2 n2 c2 dm) w0 M bm dm acc A c S T w) :
    Calls Try.prog 44 #[.pointer (some ⟨M, 0, none⟩), .int .i64 x, .int .i64 y, .int .i64 n] w (RetAnd n l r (restA A1 n1 c1 A2 n2 c2 dm) w0 M bm dm acc x y S T) := by
  have FIN := Lib.hid (fun w' (k : Kept w w') => show RetAnd n l r (restA A1 n1 c1 A2 n2 c2 dm) w0 M bm dm acc x y S T (.returned (.int .i64 1)) w' from ⟨1, [], A, c, rfl, by rw [List.append_nil]; exact hI.kept k, by rw [List.append_nil]; exact AndK.one hl hr (by rw [sl.2]; exact hx) (by rw [sr.2]; exact hy) hx0 hy0 hv⟩)
  have et : topF l x n = n := by have := topF_le hl (k := x) (by rw [sl.2]; exact hx); omega
  have eu : topF r y n = n := by have := topF_le hr (k := y) (by rw [sr.2]; exact hy); omega
  have g1 : ((x : Int) == 0) = false := by rw [beq_eq_false_iff_ne]; omega
  have g2 : ((y : Int) == 0) = false := by rw [beq_eq_false_iff_ne]; omega
  have k0 := hI.mkg.kept0
  have SL := Lib.hid (fun z : KW w => sl.kept (k0.trans z.kept))
  have SR := Lib.hid (fun z : KW w => sr.kept (k0.trans z.kept))
  have m2 := kw_cell (hI.row.cell 2 rfl)
  have m3 := kw_cell (hI.row.cell 3 rfl)
  have HX := Lib.hid hx
  have HY := Lib.hid hy
  have TT := Lib.hid (fun z : KW w => show Calls Try.prog 52 #[.slice A1 n1 c1, .int .i64 x, .int .i64 n] z.val fun e w' => e = .returned (.int .i64 n) ∧ z.val = w' from by
    have := top_any n A1 n1 c1 l x z.val (SL.out z) hx h1
    rw [et] at this
    exact this)
  have TU := Lib.hid (fun z : KW w => show Calls Try.prog 52 #[.slice A2 n2 c2, .int .i64 y, .int .i64 n] z.val fun e w' => e = .returned (.int .i64 n) ∧ z.val = w' from by
    have := top_any n A2 n2 c2 r y z.val (SR.out z) hy h2
    rw [eu] at this
    exact this)
  clear hI hx0 hy0 hv sl sr hx hy et eu k0
  have g3 : ((n : Int) == (n : Int)) = true := by simp
  go_enter Try.func44, Try.ntmps44
  go_wp2_with fail
  refine wp_region_kept (by kernel_rfl) (by kernel_rfl) ?_
  repeat (go_big_quiet_step (first | (go_at_call_of 52 (Value.slice A1 n1 c1); exact kept_of_same (TT.out _)) | (go_at_call_of 52 (Value.slice A2 n2 c2); exact kept_of_same (TU.out _))))
  refine wpQuiet_nil ?_
  intro w3 k3
  go_wp2_with fail
  go_ret
  exact FIN.out _ k3
theorem RetAnd.mono {rest : List Value} {x y S' T' : Nat} (hS : S ≤ S') (hT : T ≤ T') {e : Ending} {w' : World} (h : RetAnd n l r rest w0 M bm dm acc x y S T e w') : RetAnd n l r rest w0 M bm dm acc x y S' T' e w' := by
  obtain ⟨k, m, A', c', h1, h2, h3⟩ := h
  exact ⟨k, m, A', c', h1, h2.mono hS hT, h3⟩
end
set_option maxRecDepth 100000 in
set_option maxHeartbeats 8000000 in
theorem and_any {n : Nat} {l r : List Bn} {A1 A2 : Option Addr} {n1 c1 n2 c2 : Nat} {w0 : World} {M bm dm : Nat} (hn : n ≤ 4) (hl : TreeOk n l) (hr : TreeOk n r) (sl : SlBn w0 A1 n1 l) (sr : SlBn w0 A2 n2 r) (h1 : n1 ≤ 20) (h2 : n2 ≤ 20) :
    ∀ (d x y S T : Nat) (acc : List Bn) (A : Option Addr) (c : Nat) (w : World), n ≤ min (topF l x n) (topF r y n) + d → x ≤ n1 + 1 → y ≤ n2 + 1 → S + 2 ^ d ≤ 100 → T + 2 ^ d ≤ 100 → AndI n l r (restA A1 n1 c1 A2 n2 c2 dm) w0 M bm dm acc A c S T w →
    Calls Try.prog 44 #[.pointer (some ⟨M, 0, none⟩), .int .i64 x, .int .i64 y, .int .i64 n] w (RetAnd n l r (restA A1 n1 c1 A2 n2 c2 dm) w0 M bm dm acc x y (S + 2 ^ d - 1) (T + 2 ^ d - 1)) := by
  intro d
  induction d with
  | zero =>
    intro x y S T acc A c w hv hx hy hS hT hI
    by_cases h0 : x = 0 ∨ y = 0
    · exact (and_zero h0 hI).mono fun _ _ h => h.mono (by simp) (by simp)
    · exact (and_one hl hr sl sr h1 h2 hx hy (fun e => h0 (.inl e)) (fun e => h0 (.inr e)) (by omega) hn hI).mono fun _ _ h => h.mono (by simp) (by simp)
  | succ d ih =>
    intro x y S T acc A c w hv hx hy hS hT hI
    have hp1 : 1 ≤ 2 ^ d := Nat.one_le_two_pow
    have hp2 : 2 ^ (d + 1) = 2 * 2 ^ d := by rw [Nat.pow_succ]; omega
    by_cases h0 : x = 0 ∨ y = 0
    · exact (and_zero h0 hI).mono fun _ _ h => h.mono (by omega) (by omega)
    by_cases hvn : n ≤ min (topF l x n) (topF r y n)
    · exact (and_one hl hr sl sr h1 h2 hx hy (fun e => h0 (.inl e)) (fun e => h0 (.inr e)) hvn hn hI).mono fun _ _ h => h.mono (by omega) (by omega)
    have hx0 : x ≠ 0 := fun e => h0 (.inl e)
    have hy0 : y ≠ 0 := fun e => h0 (.inr e)
    have hlx : x ≤ l.length + 1 := by rw [sl.2]; exact hx
    have hly : y ≤ r.length + 1 := by rw [sr.2]; exact hy
    have HLX := Lib.hid hlx
    have HLY := Lib.hid hly
    obtain ⟨v, hvd⟩ : ∃ v, v = min (topF l x n) (topF r y n) := ⟨_, rfl⟩
    have HVD := Lib.hid hvd
    have hvn : v < n := by omega
    have HVN := Lib.hid hvn
    obtain ⟨x1, x2, x3, x4, _⟩ := down_ok hl hlx (v := v) (by omega) hvn
    obtain ⟨y1, y2, y3, y4, _⟩ := down_ok hr hly (v := v) (by omega) hvn
    have HD1 := Lib.hid (show n ≤ min (topF l (downF l x v).1 n) (topF r (downF r y v).1 n) + d by omega)
    have HD2 := Lib.hid (show n ≤ min (topF l (downF l x v).2 n) (topF r (downF r y v).2 n) + d by omega)
    have HX1 := Lib.hid (show (downF l x v).1 ≤ n1 + 1 by rw [← sl.2]; exact x1)
    have HX2 := Lib.hid (show (downF l x v).2 ≤ n1 + 1 by rw [← sl.2]; exact x2)
    have HY1 := Lib.hid (show (downF r y v).1 ≤ n2 + 1 by rw [← sr.2]; exact y1)
    have HY2 := Lib.hid (show (downF r y v).2 ≤ n2 + 1 by rw [← sr.2]; exact y2)
    have HPUT := Lib.hid (fun (a1 a2 : List Bn) (k1 k2 : Nat) => AndK.put (n := n) (l := l) (r := r) (a := acc) (a1 := a1) (a2 := a2) (k1 := k1) (k2 := k2) hl hr hlx hly hvd hvn)
    clear x1 x2 x3 x4 y1 y2 y3 y4
    obtain ⟨⟨p1, p2⟩, hp⟩ : ∃ p, downF l x v = p := ⟨_, rfl⟩
    obtain ⟨⟨q1, q2⟩, hq⟩ : ∃ q, downF r y v = q := ⟨_, rfl⟩
    rw [hp, hq] at HPUT HD1 HD2
    rw [hp] at HX1 HX2
    rw [hq] at HY1 HY2
    simp only at HPUT HD1 HD2 HX1 HX2 HY1 HY2
    have HP := Lib.hid hp
    have HQ := Lib.hid hq
    have k0 := hI.mkg.kept0
    have K0 := Lib.hid k0
    have SL0 := Lib.hid sl
    have SR0 := Lib.hid sr
    have SL := Lib.hid (fun z : KW w => sl.kept (k0.trans z.kept))
    have SR := Lib.hid (fun z : KW w => sr.kept (k0.trans z.kept))
    have HI := Lib.hid hI
    have m2 := kw_cell (hI.row.cell 2 rfl)
    have m3 := kw_cell (hI.row.cell 3 rfl)
    have g1 : ((x : Int) == 0) = false := by rw [beq_eq_false_iff_ne]; omega
    have g2 : ((y : Int) == 0) = false := by rw [beq_eq_false_iff_ne]; omega
    have g3 : ((v : Int) == (n : Int)) = false := by rw [beq_eq_false_iff_ne]; omega
    have hv4 : v ≤ 4 := by omega
    have hx100 : x ≤ 1000 := by omega
    have hy100 : y ≤ 1000 := by omega
    have HX100 := Lib.hid hx100
    have HY100 := Lib.hid hy100
    obtain ⟨a, ha⟩ : ∃ a, topF l x n = a := ⟨_, rfl⟩
    obtain ⟨b, hb⟩ : ∃ b, topF r y n = b := ⟨_, rfl⟩
    have TT := Lib.hid (fun z : KW w => show Calls Try.prog 52 #[.slice A1 n1 c1, .int .i64 x, .int .i64 n] z.val fun e w' => e = .returned (.int .i64 a) ∧ z.val = w' from by
      have := top_any n A1 n1 c1 l x z.val (SL.out z) hx h1
      rw [ha] at this
      exact this)
    have TU := Lib.hid (fun z : KW w => show Calls Try.prog 52 #[.slice A2 n2 c2, .int .i64 y, .int .i64 n] z.val fun e w' => e = .returned (.int .i64 b) ∧ z.val = w' from by
      have := top_any n A2 n2 c2 r y z.val (SR.out z) hy h2
      rw [hb] at this
      exact this)
    have hab : v = min a b := by rw [hvd, ha, hb]
    have hm1 : (if (b : Int) < (a : Int) then (b : Int) else (a : Int)) = (v : Int) := by split <;> omega
    have hm2 : (if b < a then (b : Int) else (a : Int)) = (v : Int) := by split <;> omega
    obtain ⟨p, hpp⟩ : ∃ p, 2 ^ d = p := ⟨_, rfl⟩
    rw [hp2, hpp] at hS hT ⊢
    rw [hpp] at ih hp1
    have IH := Lib.hid ih
    have HS := Lib.hid hS
    have HT := Lib.hid hT
    have HP1 := Lib.hid hp1
    have HX := Lib.hid hx
    have HY := Lib.hid hy
    clear ih hI hx0 hy0 hv hx hy ha hb hab hvd hp hq k0 hS hT hp1 hp2 hlx hly h0 sl sr hvn hx100 hy100 hpp
    go_enter Try.func44, Try.ntmps44
    go_wp2_with fail
    refine wp_region_kept (by kernel_rfl) (by kernel_rfl) ?_
    repeat (go_big_quiet_step (first | (go_at_call_of 52 (Value.slice A1 n1 c1); exact kept_of_same (TT.out _)) | (go_at_call_of 52 (Value.slice A2 n2 c2); exact kept_of_same (TU.out _))))
    refine wpQuiet_nil ?_
    intro w3 k3
    have hI3 := HI.out.kept k3
    have HI3 := Lib.hid hI3
    have b4 := hI3.row.cell 4 rfl
    rcases hI3.mem.look x y HX100.out HY100.out with ⟨k, hk, hlook⟩ | hlook
    · have FIN := Lib.hid (show RetAnd n l r (restA A1 n1 c1 A2 n2 c2 dm) w0 M bm dm acc x y (S + 2 * p - 1) (T + 2 * p - 1) (.returned (.int .i64 k)) w3 from ⟨k, [], A, c, rfl, by rw [List.append_nil]; exact hI3.mono (by have := HP1.out; omega) (by have := HP1.out; omega), by rw [List.append_nil]; exact hk⟩)
      unfold prV at hlook
      clear hk hI3 m2 m3
      go_wp2_with fail
      go_ret
      exact FIN.out
    · unfold prV at hlook
      have m2 := hI3.row.cell 2 rfl
      have m3 := hI3.row.cell 3 rfl
      clear hI3
      go_wp2_with fail
      refine (down_any A1 n1 c1 l x v _ (SL0.out.kept (K0.out.trans k3)) HX.out h1).mono ?_
      rintro e w4 ⟨rfl, k4⟩
      rw [HP.out]
      have hI4 := HI3.out.kept k4
      have HI4 := Lib.hid hI4
      have e3 := hI4.row.cell 3 rfl
      clear hlook m2 m3 b4 hI4
      go_wp2_with fail
      refine (down_any A2 n2 c2 r y v _ (SR0.out.kept ((K0.out.trans k3).trans k4)) HY.out h2).mono ?_
      rintro e w5 ⟨rfl, k5⟩
      rw [HQ.out]
      have HI5 := Lib.hid (HI4.out.kept k5)
      clear e3 k3 k4 k5
      go_wp2_with fail
      refine (IH.out p1 q1 S T acc A c _ HD1.out HX1.out HY1.out (by have := HS.out; omega) (by have := HT.out; omega) HI5.out).mono ?_
      rintro e w6 ⟨k1, m1, A6, c6, rfl, hI6, hk1⟩
      have HI6 := Lib.hid (hI6.kept (Kept.refl _).drew)
      have HK1 := Lib.hid hk1
      have HT1 := Lib.hid hI6.tree
      clear hI6 hk1
      go_wp2_with fail
      go_region_with (first
        | (go_at_call 44
           refine (IH.out p2 q2 (S + p - 1) (T + p - 1) (acc ++ m1) A6 c6 _ HD2.out HX2.out HY2.out (by have := HS.out; have := HP1.out; omega) (by have := HT.out; have := HP1.out; omega) HI6.out).mono ?_
           rintro e w7 ⟨k2, m2, A7, c7, rfl, hI7, hk2⟩
           have HI7 := Lib.hid hI7
           have HK2 := Lib.hid hk2
           have hkk1 : k1 ≤ 1000 := by have := HK1.out.1.1; have := HI6.out.len; have := HS.out; omega
           have hkk2 : k2 ≤ 1000 := by have := HK2.out.1.1; have := HI7.out.len; have := HS.out; omega
           clear hI7 hk2)
        | (go_at_call 51
           refine (put_gen 78 (by decide) (restA A1 n1 c1 A2 n2 c2 dm) w0 _ M bm (acc ++ m1 ++ m2) A7 c7 v k1 k2 HI7.out.mkg ⟨by show v ≤ 1000; omega, hkk1, hkk2⟩ (by have := HI7.out.len; have := HS.out; omega)).mono ?_
           rintro e w8 ⟨rfl, A8, c8, hmk, hfr⟩
           obtain ⟨⟨ql, qk⟩, hqq⟩ : ∃ q, putF (acc ++ m1 ++ m2) (v, k1, k2) = q := ⟨_, rfl⟩
           rw [hqq] at hmk hfr ⊢
           have HQQ := Lib.hid hqq
           clear hqq
           have HMK := Lib.hid hmk
           have HFR := Lib.hid hfr
           clear hmk hfr))
      obtain ⟨t1, t2, t3⟩ := HPUT.out (acc ++ m1) (acc ++ m1 ++ m2) k1 k2 HT1.out HK1.out ⟨m2, rfl⟩ HI7.out.tree HK2.out
      rw [HQQ.out] at t1 t2 t3
      simp only at t1 t2 t3
      have hI8 := HI7.out.pushed (q := (ql, qk)) HMK.out t1 t3 HFR.out
      obtain ⟨w9, hrun, hI9⟩ := hI8.store t2 HX100.out HY100.out (by have := HT.out; omega)
      have b4 := hI8.row.cell 4 rfl
      have FIN := Lib.hid (show RetAnd n l r (restA A1 n1 c1 A2 n2 c2 dm) w0 M bm dm acc x y (S + 2 * p - 1) (T + 2 * p - 1) (.returned (.int .i64 qk)) w9 from by
        obtain ⟨m3, e3, _⟩ := t3
        have e4 : acc ++ (m1 ++ m2 ++ m3) = ql := by rw [e3]; simp
        refine ⟨_, m1 ++ m2 ++ m3, A8, c8, rfl, ?_, ?_⟩
        · rw [e4]
          exact hI9.mono (by have := HP1.out; omega) (by have := HP1.out; omega)
        · rw [e4]
          exact t2)
      unfold prV at hrun
      clear t1 t2 t3 hI8 hI9
      go_wp2_with fail
      go_ret
      exact FIN.out
end Go.Proofs.Ytjliabifaohfjaa
