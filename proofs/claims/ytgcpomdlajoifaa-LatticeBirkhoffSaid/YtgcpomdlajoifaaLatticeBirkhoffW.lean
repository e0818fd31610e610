/- LatticeBirkhoff: the walk of the statement. -/
import Derived.Test.YtgcpomdlajoifaaLat6
import Derived.Test.YtgcpomdlajoifaaLat7
import Derived.Test.YtgcpomdlajoifaaOrder
import Derived.Test.YtgcpomdlajoifaaTurned
namespace Go.Proofs.Ytgcpomdlajoifaa.latticeBirkhoffDone
open Go Go.RowKit
set_option linter.unusedVariables false

/-! ### the order of two -/
theorem two_under {a b : Nat} (ha : a < 2) (hb : b < 2) : under [((0 : Int), (1 : Int))] a b = decide (a ≤ b) := by
  rw [Bool.eq_iff_iff, under_iff, decide_eq_true_eq]
  constructor
  · intro h
    have := h (fun x => (a : Int) ≤ x) (Int.le_refl _) (by
      intro p hp hs
      simp only [List.mem_singleton] at hp
      subst hp
      simp only at hs ⊢
      omega)
    omega
  · intro h
    by_cases e : a = b
    · subst e; exact Reach.refl _
    · obtain rfl : a = 0 := by omega
      obtain rfl : b = 1 := by omega
      exact Reach.pair (p := ((0 : Int), (1 : Int))) (by simp)
theorem two_ord : ordF 2 [((0 : Int), (1 : Int))] = 0 := by
  refine ordF_of (n := 2) (by omega) (by omega) (by simp) ?_ ?_
  · intro p hp
    simp only [List.mem_singleton] at hp
    subst hp
    simp
  · intro i j hi hj h1 h2
    have hi : i < 2 := by omega
    have hj : j < 2 := by omega
    rw [two_under hi hj, decide_eq_true_eq] at h1
    rw [two_under hj hi, decide_eq_true_eq] at h2
    omega
theorem two_join {a b : Nat} (ha : a < 2) (hb : b < 2) : joinO 2 [((0 : Int), (1 : Int))] a b = some (max a b) := by
  have hm : max a b < 2 := by omega
  refine (Ord.of two_ord).join_of ha hb hm ?_ ?_ ?_
  · rw [two_under ha hm]; simp; omega
  · rw [two_under hb hm]; simp; omega
  · intro c hc h1 h2
    rw [two_under ha hc, decide_eq_true_eq] at h1
    rw [two_under hb hc, decide_eq_true_eq] at h2
    rw [two_under hm hc, decide_eq_true_eq]
    omega
theorem two_meet {a b : Nat} (ha : a < 2) (hb : b < 2) : meetO 2 [((0 : Int), (1 : Int))] a b = some (min a b) := by
  have hm : min a b < 2 := by omega
  refine (Ord.of two_ord).meet_of ha hb hm ?_ ?_ ?_
  · rw [two_under hm ha]; simp; omega
  · rw [two_under hm hb]; simp; omega
  · intro c hc h1 h2
    rw [two_under hc ha, decide_eq_true_eq] at h1
    rw [two_under hc hb, decide_eq_true_eq] at h2
    rw [two_under hc hm, decide_eq_true_eq]
    omega
theorem two_lat : isL 2 [((0 : Int), (1 : Int))] = true := by
  unfold isL
  simp only [List.all_eq_true, List.mem_range]
  intro a ha b hb
  rw [two_join ha hb, two_meet ha hb]
  rfl
theorem two_shared : allR 2 [((0 : Int), (1 : Int))] true = (true, 0) := by
  have h : allL 2 [((0 : Int), (1 : Int))] true = true := by
    refine allL_iff.2 fun a b c ha hb hc _ => ?_
    have hj : ∀ {a b : Nat}, a < 2 → b < 2 → jn 2 [((0 : Int), (1 : Int))] a b = max a b := fun ha hb => by unfold jn; rw [two_join ha hb]; rfl
    have hm : ∀ {a b : Nat}, a < 2 → b < 2 → mt 2 [((0 : Int), (1 : Int))] a b = min a b := fun ha hb => by unfold mt; rw [two_meet ha hb]; rfl
    rw [hj hb hc, hm ha hb, hm ha hc, hm ha (by omega), hj (by omega) (by omega)]
    omega
  have := allR_yes (n := 2) (ps := [((0 : Int), (1 : Int))]) (b := true) two_ord two_lat
  rw [h] at this
  exact this
section
variable {ps : List Pr} {A : Option Addr} {len c : Nat} {w : World}
theorem s_is (n : Int) (b : Bool) (x : Int) (hp : SlP w A len ps) (h : allR n ps true = (b, x)) :
    Calls Try.prog 34 #[.int .i64 n, .slice A len c] w fun e w' => e = .returned (.tuple #[.bool b, .int .i64 x]) ∧ Kept w w' :=
  (shared_any n A len c ps w hp).mono fun e w' ⟨k, he⟩ => ⟨by rw [he, h], k⟩
theorem r_is (n : Int) (s : BitVec 32) (x : Int) (hp : SlP w A len ps) (h : irR n ps = (s, x)) :
    Calls Try.prog 37 #[.int .i64 n, .slice A len c] w fun e w' => e = .returned (.tuple #[.int .u32 (W s), .int .i64 x]) ∧ Kept w w' :=
  (irreducible_any n A len c ps w hp).mono fun e w' ⟨k, he⟩ => ⟨by rw [he, h], k⟩
theorem u_is (n a b : Int) (v : Bool) (hp : SlP w A len ps) (hl : len ≤ 1000) (h : under ps a b = v) :
    Calls Try.prog 38 #[.int .i64 n, .slice A len c, .int .i64 a, .int .i64 b] w fun e w' => e = .returned (.bool v) ∧ Kept w w' :=
  (under_any n A len c ps a b w hp hl).mono fun e w' ⟨he, k⟩ => ⟨by rw [he, h], k⟩
end
theorem one01 (w : World) (t : TypeId) (B : Nat) (h : w.heap.size = B) : SlP (w.alloc (.cells #[.int .i64 0, .int .i64 1] t)) (some ⟨B, 0, none⟩) 1 [((0 : Int), (1 : Int))] := by
  subst h
  exact ⟨Sl.new w _ t 2 1 rfl, rfl⟩
set_option maxHeartbeats 1000000 in
/-- no lattice, or none that is distributive -/
theorem no (n : Int) (A : Option Addr) (len cp : Nat) (ps : List Pr) (w : World) (hp : SlP w A len ps) (er : Int) (s : BitVec 32) (h1 : allR n ps true = (false, er)) (h2 : irR n ps = (s, er)) :
    Calls Try.prog 12 #[.int .i64 n, .slice A len cp] w fun e w' => e = .returned (.bool true) ∧ Kept w w' := by
  have H1 := Lib.hid h1
  have H2 := Lib.hid h2
  have H01 := Lib.hid (one01 w 31 _ rfl)
  have HS := Lib.hid two_shared
  have k0 : Kept w (w.alloc (.cells #[.int .i64 0, .int .i64 1] 31)) := (Kept.refl _).alloc _
  clear h1 h2
  cases he : (er != 0)
  · obtain rfl : er = 0 := by simpa using he
    clear he
    go_enter Try.func12, Try.ntmps12
    go_wp2_with fail
    refine (s_is 2 _ _ H01.out HS.out).mono ?_
    rintro e w1 ⟨rfl, k1⟩
    have q1 := k0.trans k1
    clear k0 k1
    go_wp2_with fail
    refine (s_is n _ _ (hp.kept q1) H1.out).mono ?_
    rintro e w2 ⟨rfl, k2⟩
    have q2 := q1.trans k2
    clear q1 k2
    go_wp2_with fail
    refine (r_is n _ _ (hp.kept q2) H2.out).mono ?_
    rintro e w3 ⟨rfl, k3⟩
    go_wp2_with fail
    go_ret
    exact ⟨rfl, q2.trans k3⟩
  · have hee : (er == er) = true := by simp
    go_enter Try.func12, Try.ntmps12
    go_wp2_with fail
    refine (s_is 2 _ _ H01.out HS.out).mono ?_
    rintro e w1 ⟨rfl, k1⟩
    have q1 := k0.trans k1
    clear k0 k1
    go_wp2_with fail
    refine (s_is n _ _ (hp.kept q1) H1.out).mono ?_
    rintro e w2 ⟨rfl, k2⟩
    have q2 := q1.trans k2
    clear q1 k2
    go_wp2_with fail
    refine (r_is n _ _ (hp.kept q2) H2.out).mono ?_
    rintro e w3 ⟨rfl, k3⟩
    go_wp2_with fail
    go_ret
    exact ⟨rfl, q2.trans k3⟩
theorem own_iat (l : List Nat) {a : Nat} (h : a < l.length) : iat (l.map fun v : Nat => (v : Int)) a = ((l.getD a 0 : Nat) : Int) := by
  unfold iat
  rw [List.getD_eq_getElem?_getD, List.getD_eq_getElem?_getD, List.getElem?_map, List.getElem?_eq_getElem h]
  rfl
theorem one_pr4 (a b : Int) : ∀ u ∈ (#[Value.int .i64 a, Value.int .i64 b] : Array Value).toList, u.oneCell' = true := fun u hu => by
  simp at hu
  rcases hu with rfl | rfl <;> rfl
/-- the order's list on the way: rows before a, and of row a what stands before b -/
noncomputable def lesAcc (ps : List Pr) (o : Nat → Nat) (k a b : Nat) : List Pr := lesTo ps o k a ++ lesRow ps o a b
theorem lesAcc_step (ps : List Pr) (o : Nat → Nat) (k a b : Nat) : lesAcc ps o k a (b + 1) = lesAcc ps o k a b ++ (if lesAt ps o a b then [((a : Int), (b : Int))] else []) := by
  unfold lesAcc
  rw [lesRow_succ, List.append_assoc]
theorem lesAcc_next (ps : List Pr) (o : Nat → Nat) (k a : Nat) : lesAcc ps o k (a + 1) 0 = lesAcc ps o k a k := by
  unfold lesAcc
  rw [lesTo_succ]
  simp [lesRow]
theorem lesAcc_done (ps : List Pr) (o : Nat → Nat) (k : Nat) : lesAcc ps o k k 0 = lesL ps o k := by
  unfold lesAcc lesL
  simp [lesRow]
theorem lesAcc_len (ps : List Pr) (o : Nat → Nat) {k a b : Nat} (h6 : k ≤ 6) (ha : a ≤ k) (hb : b ≤ k) : (lesAcc ps o k a b).length ≤ 100 := by
  unfold lesAcc
  rw [List.length_append]
  have h1 := lesTo_len ps o k a
  have h2 := lesRow_len ps o a b
  have h3 : a * k ≤ 6 * 6 := Nat.mul_le_mul (by omega) h6
  omega
set_option maxRecDepth 100000 in
set_option maxHeartbeats 8000000 in
theorem yes (n : Nat) (A : Option Addr) (len cp : Nat) (ps : List Pr) (w : World) (hp : SlP w A len ps) (h : ordF n ps = 0) (hL : isL n ps = true) (hs : allL n ps true = true) :
    Calls Try.prog 12 #[.int .i64 n, .slice A len cp] w fun e w' => e = .returned (.bool true) ∧ Kept w w' := by
  have hl20 : len ≤ 1000 := by have := (ordF_zero h).1.2.2; rw [hp.2] at this; omega
  obtain ⟨⟨h1, h6, _⟩, _⟩ := ordF_zero h
  have h1 : 1 ≤ n := by omega
  have h6 : n ≤ 6 := by omega
  have LAT := Lat.of (Ord.of h) hL
  have E1 := Lib.hid (show allR n ps true = (true, 0) by rw [allR_yes h hL, hs])
  have E2 := Lib.hid (show irR n ps = (irW n ps, 0) from irR_yes h hL)
  have IRR := irr_own (n := n) (ps := ps) (by omega)
  have FEW := irr_few LAT (by omega) h1 IRR
  have HONE := Lib.hid (fun (hk : (ownL n (irW n ps)).length = 0) => irr_none (n := n) (ps := ps) LAT (by omega) h1 (by rw [hk] at IRR; exact IRR))
  have HBK := Lib.hid (birkhoff LAT (by omega) h1 hs (by omega) IRR)
  have HORD := Lib.hid (fun (hk : 1 ≤ (ownL n (irW n ps)).length) => les_ord (n := n) (ps := ps) hk (by omega) IRR.lt IRR.inj LAT.ord.anti)
  have H01 := Lib.hid (one01 w 31 _ rfl)
  have HS := Lib.hid two_shared
  have k0 : Kept w (w.alloc (.cells #[.int .i64 0, .int .i64 1] 31)) := (Kept.refl _).alloc _
  have hn31 : n ≤ 31 := by omega
  clear h hL hs LAT IRR
  generalize irW n ps = ir at HONE HBK HORD E2 FEW
  go_enter Try.func12, Try.ntmps12
  go_wp2_with fail
  refine (s_is 2 _ _ H01.out HS.out).mono ?_
  rintro e w1 ⟨rfl, k1⟩
  have q1 := k0.trans k1
  clear k0 k1
  go_wp2_with fail
  refine (s_is n _ _ (hp.kept q1) E1.out).mono ?_
  rintro e w2 ⟨rfl, k2⟩
  have q2 := q1.trans k2
  clear q1 k2
  go_wp2_with fail
  refine (r_is n _ _ (hp.kept q2) E2.out).mono ?_
  rintro e w3 ⟨rfl, k3⟩
  have q3 := q2.trans k3
  clear q2 k3
  go_wp2_with fail
  go_loopw [11, 12] (fun o t wr => ∃ v : Nat, v ≤ n ∧ t = .int .i64 v ∧ Own w3 wr 3 1 o (ownL v ir).length ((ownL v ir).map fun x : Nat => iv x)) (fun _ t _ => n - (intOf t).toNat)
  case atStart => exact ⟨0, Nat.zero_le _, rfl, Own.start (Kept.refl _)⟩
  case round =>
    obtain ⟨v, hv, rfl, hown⟩ := hrel
    by_cases hlt : v < n
    · have HSC := Lib.hid (ownL_succ ir v)
      have hvl := ownL_len v ir
      have HK := Lib.hid (fun w' (k : Kept wr w') => hown.kept k)
      cases hb : ir.getLsbD v
      · have HB := Lib.hid hb
        clear hb
        go_wp2_with fail
        refine (bitS_is ir v (by omega) false HB.out _).mono ?_
        rintro e w4 ⟨rfl, rfl⟩
        have HE := Lib.hid (show ownL (v + 1) ir = ownL v ir by rw [HSC.out, HB.out]; simp)
        go_wp2_with fail
        go_roundw
        case rel => exact ⟨v + 1, by omega, by go_num, by rw [HE.out]; exact hown⟩
        case measure => simp [intOf]; omega
      · have HB := Lib.hid hb
        clear hb
        go_wp2_with fail
        refine (bitS_is ir v (by omega) true HB.out _).mono ?_
        rintro e w4 ⟨rfl, rfl⟩
        have HE := Lib.hid (show ownL (v + 1) ir = ownL v ir ++ [v] by rw [HSC.out, HB.out]; simp)
        go_wp2_with (at_builtin; refine wpList_push rfl _ _ 32 rfl 3 Try.underlying32 info_i64 rfl (by decide) (by decide) _ _ _ _ hown #[.int .i64 v] _ _ 1 1 rfl rfl rfl rfl (one_i64 _) (by omega) ?_; intro v' w7 hown7 _)
        go_roundw
        case rel => exact ⟨v + 1, by omega, by go_num, by rw [HE.out]; simpa [iv] using hown7⟩
        case measure => simp [intOf]; omega
    · obtain rfl : v = n := by omega
      obtain ⟨A6, c6, rfl, hsl, _⟩ := hown.form
      obtain ⟨L, hLL⟩ : ∃ L, ownL v ir = L := ⟨_, rfl⟩
      rw [hLL] at hsl HONE HBK HORD FEW ⊢
      have hsi : SlI wr A6 L.length (L.map fun x : Nat => (x : Int)) := ⟨by rw [List.map_map]; exact hsl, by simp⟩
      have q6 := q3.trans hown.2
      clear hown hsl hLL q3
      obtain ⟨w6, hw6⟩ : ∃ w6 : World, w6 = wr := ⟨_, rfl⟩
      subst hw6
      by_cases hk0 : L.length = 0
      · have hv1 := HONE.out hk0
        have dl : ((L.length : Int) == 0) = true := by rw [hk0]; rfl
        have dv : ((v : Int) == 1) = true := by rw [hv1]; rfl
        clear hk0 hv1 hsi HORD
        go_wp2_with fail
        go_ret
        exact ⟨rfl, q6⟩
      · have HORD2 := Lib.hid (HORD.out (by omega))
        have HOI := Lib.hid (fun a (h : a < L.length) => own_iat L h)
        obtain ⟨o, ho⟩ : ∃ o : Nat → Nat, (fun a => L.getD a 0) = o := ⟨_, rfl⟩
        have HOI2 := Lib.hid (fun a (h : a < L.length) => show iat (L.map fun x : Nat => (x : Int)) a = (o a : Int) by rw [← ho]; exact HOI.out a h)
        rw [ho] at HORD2 HBK
        clear ho HOI HORD HONE
        have hk6 : L.length ≤ 6 := by omega
        obtain ⟨xs, hxs⟩ : ∃ xs, (L.map fun x : Nat => (x : Int)) = xs := ⟨_, rfl⟩
        rw [hxs] at hsi HOI2
        clear hxs
        generalize L.length = k at hsi HOI2 HORD2 HBK FEW hk0 hk6 ⊢
        obtain ⟨b6, o6, rfl, hb6, hc6⟩ := hsi.open_ (by omega)
        have HC6 := Lib.hid (fun a (h : a < k) => show w6.cell? ⟨b6, o6 + a, none⟩ = some (.int .i64 (o a)) by rw [← HOI2.out a h]; exact hc6 a h)
        clear hc6 hsi HOI2
        have dl : ((k : Int) == 0) = false := by rw [beq_eq_false_iff_ne]; omega
        go_wp2_with fail
        go_loopw [13, 14] (fun l t wr => ∃ a : Nat, a ≤ k ∧ t = .int .i64 a ∧ Own w6 wr 31 2 l (lesAcc ps o k a 0).length (prCells (lesAcc ps o k a 0))) (fun _ t _ => k - (intOf t).toNat)
        case atStart => exact ⟨0, Nat.zero_le _, rfl, Own.start (Kept.refl _)⟩
        case round =>
          obtain ⟨a, ha, rfl, hown⟩ := hrel
          by_cases hlta : a < k
          · have HLA := Lib.hid hlta
            obtain ⟨wa, hwa⟩ : ∃ wa : World, wa = wr := ⟨_, rfl⟩
            subst hwa
            go_wp2_with fail
            go_loopw [13, 15] (fun l t wr => ∃ b : Nat, b ≤ k ∧ t = .int .i64 b ∧ Own w6 wr 31 2 l (lesAcc ps o k a b).length (prCells (lesAcc ps o k a b))) (fun _ t _ => k - (intOf t).toNat)
            case atStart => exact ⟨0, Nat.zero_le _, rfl, hown⟩
            case round =>
              obtain ⟨b, hb, rfl, hownb⟩ := hrel
              by_cases hltb : b < k
              · have HST := Lib.hid (lesAcc_step ps o k a b)
                have HLE := lesAcc_len ps o hk6 ha hb
                have HAT := Lib.hid (show lesAt ps o a b = (decide (a ≠ b) && under ps (o a) (o b)) from rfl)
                have ca := (hownb.2.cell (p := ⟨b6, o6 + a, none⟩) hb6).trans (HC6.out a HLA.out)
                have cb := (hownb.2.cell (p := ⟨b6, o6 + b, none⟩) hb6).trans (HC6.out b hltb)
                have qa := kw_cell ca
                have qb := kw_cell cb
                have i1 : (0 : Int) ≤ (a : Int) := by omega
                have i2 : (a : Int) < (k : Int) := by omega
                have i3 : (0 : Int) ≤ (b : Int) := by omega
                have i4 : (b : Int) < (k : Int) := by omega
                by_cases hab : a = b
                · have t1 : ((a : Int) != (b : Int)) = false := by subst hab; simp
                  have HE := Lib.hid (show lesAcc ps o k a (b + 1) = lesAcc ps o k a b by rw [HST.out, HAT.out]; simp [hab])
                  clear hab
                  go_wp2_with fail
                  refine wp_region_kept (by kernel_rfl) (by kernel_rfl) ?_
                  repeat (go_big_quiet_step (fail))
                  refine wpQuiet_nil ?_
                  intro w5 k5
                  go_wp2_with fail
                  go_roundw
                  case rel => exact ⟨b + 1, by omega, by go_num, by rw [HE.out]; exact hownb.kept k5⟩
                  case measure => simp [intOf]; omega
                · have t1 : ((a : Int) != (b : Int)) = true := by rw [bne_iff_ne]; omega
                  have HPX := Lib.hid (fun (x : KW wr) => hp.kept (q6.trans (hownb.2.trans x.kept)))
                  cases hu : under ps (o a) (o b)
                  · have HE := Lib.hid (show lesAcc ps o k a (b + 1) = lesAcc ps o k a b by rw [HST.out, HAT.out, hu]; simp)
                    have HU := Lib.hid hu
                    clear hu hab
                    go_wp2_with fail
                    refine wp_region_kept (by kernel_rfl) (by kernel_rfl) ?_
                    repeat (go_big_quiet_step ((go_at_call 38; exact kept_of (u_is _ _ _ false (HPX.out _) hl20 HU.out))))
                    refine wpQuiet_nil ?_
                    intro w5 k5
                    go_wp2_with fail
                    go_roundw
                    case rel => exact ⟨b + 1, by omega, by go_num, by rw [HE.out]; exact hownb.kept k5⟩
                    case measure => simp [intOf]; omega
                  · have HE := Lib.hid (show lesAcc ps o k a (b + 1) = lesAcc ps o k a b ++ [((a : Int), (b : Int))] by rw [HST.out, HAT.out, hu]; simp [hab])
                    have HU := Lib.hid hu
                    clear hu hab
                    go_wp2_with fail
                    refine wp_region_kept (by kernel_rfl) (by kernel_rfl) ?_
                    repeat (go_big_quiet_step ((go_at_call 38; exact kept_of (u_is _ _ _ true (HPX.out _) hl20 HU.out))))
                    refine wpQuiet_nil ?_
                    intro w5 k5
                    have hown5 := hownb.kept k5
                    go_wp2_with (at_builtin; refine wpList_push rfl _ _ 22 rfl 31 Try.underlying22 info_pr3 rfl (by decide) (by decide) _ _ _ _ hown5 #[.int .i64 a, .int .i64 b] _ _ 1 1 rfl rfl rfl rfl (one_pr4 _ _) (by omega) ?_; intro v' w7 hown7 _)
                    go_roundw
                    case rel => exact ⟨b + 1, by omega, by go_num, by rw [HE.out, prCells_snoc]; simpa using hown7⟩
                    case measure => simp [intOf]; omega
              · obtain rfl : b = k := by omega
                have HNX := Lib.hid (lesAcc_next ps o b a)
                go_wp2_with fail
                go_roundw
                case rel => exact ⟨a + 1, by omega, by go_num, by rw [HNX.out]; exact hownb⟩
                case measure => simp [intOf]; omega
          · obtain rfl : a = k := by omega
            rw [lesAcc_done] at hown
            obtain ⟨A8, c8, rfl, hs8, _⟩ := hown.form
            have hp8 : SlP wr A8 (lesL ps o a).length (lesL ps o a) := ⟨hs8, rfl⟩
            have q8 := q6.trans hown.2
            have dn : ((v : Int) == (v : Int)) = true := by simp
            clear hown hs8 q6
            go_wp2_with fail
            refine (many_ok a _ _ _ _ _ hp8 HORD2.out).mono ?_
            rintro e w9 ⟨rfl, k9⟩
            rw [HBK.out]
            go_wp2_with fail
            go_ret
            exact ⟨rfl, q8.trans k9⟩
theorem latticeBirkhoff_walk (n : Int) (A : Option Addr) (len cp : Nat) (ps : List Pr) (w : World) (_wn : (Lit.int .i64 n).wf = true) (hl : len ≤ maxLen) (hp : SlP w A len ps) :
    Calls Try.prog 12 #[.int .i64 n, .slice A len cp] w fun e w' => e = .returned (.bool true) ∧ Kept w w' := by
  by_cases h : ordF n ps = 0
  · obtain ⟨nn, rfl⟩ := Int.eq_ofNat_of_zero_le (show 0 ≤ n by have := (ordF_zero h).1.1; omega)
    cases hL : isL nn ps
    · exact no nn A len cp ps w hp 3 0#32 (allR_no h hL) (irR_no h hL)
    · cases hs : allL nn ps true
      · exact no nn A len cp ps w hp 0 (irW nn ps) (by rw [allR_yes h hL, hs]) (irR_yes h hL)
      · exact yes nn A len cp ps w hp h hL hs
  · have hne : (ordF n ps != 0) = true := by simpa using h
    exact no n A len cp ps w hp (ordF n ps) 0#32 (allR_bad hne) (irR_bad hne)
end Go.Proofs.Ytgcpomdlajoifaa.latticeBirkhoffDone
