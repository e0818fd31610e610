/- ClauseResolve: the walk of the statement, where nothing is wrong. -/
import Derived.Test.YtekpifobhgjepaaClauseResolveV
import Derived.Test.YtekpifobhgjepaaPushAll
import Derived.Deep.RegionHeld3
import Derived.Test.YtekpifobhgjepaaOpen
namespace Go.Proofs.Ytekpifobhgjepaa.clauseResolveDone
open Go Go.RowKit
set_option linter.unusedVariables false

theorem info_clause : (Try.prog.info? 29).map (fun i => (i.zero, i.size, i.bytes)) = some (some (.agg #[.int .u32 0, .int .u32 0]), 2, 8) := by kernel_rfl
theorem one_rules (ls : List Ru) : ∀ u ∈ ruCells ls, u.oneCell' = true := fun u hu => by
  unfold ruCells at hu
  rw [List.mem_flatMap] at hu
  obtain ⟨x, _, hx⟩ := hu
  simp at hx
  rcases hx with rfl | rfl <;> rfl
theorem ruCells_append (ls ms : List Ru) : ruCells (ls ++ ms) = ruCells ls ++ ruCells ms := by
  unfold ruCells
  rw [List.flatMap_append]
theorem own_sl {w0 w : World} {E : TypeId} {s n c : Nat} {A : Option Addr} {xs : List Value} (h : Own w0 w E s (.slice A n c) n xs) : Sl w s A n xs := by
  obtain ⟨A2, c2, e, hsl, _⟩ := h.form
  injection e with e
  subst e
  exact hsl
/-- what Resolve hands back, as one value -/
theorem resolve_val (a b : Ru) (w : World) : Calls Try.prog 14 #[.agg #[.int .u32 (W a.1), .int .u32 (W a.2)], .agg #[.int .u32 (W b.1), .int .u32 (W b.2)]] w fun e w' => ∃ (t : Ru) (ok : Bool), e = .returned (.tuple #[.agg #[.int .u32 (W t.1), .int .u32 (W t.2)], .bool ok]) ∧ Kept w w' ∧ Hid (ok = true → ∃ i, i < 32 ∧ t = resAt a b i) := by
  refine (refResolve_any a b w).mono ?_
  rintro e w' ⟨k, ⟨i, hi, rfl⟩ | rfl⟩
  · exact ⟨resAt a b i, true, rfl, k, Lib.hid fun _ => ⟨i, hi, rfl⟩⟩
  · exact ⟨(0#32, 0#32), false, rfl, k, Lib.hid fun h => by cases h⟩
theorem empty_res {n : Nat} {T : BitVec 32} {ok : Bool} (h : Res n [] 0#32 0#32 T ok) : T = 0#32 ∧ ok = true := by
  have h0 : Sol n [] 0#32 0#32 0#32 := ⟨fitB_zero n, fun i hi => hi, fun i hi => by simp, fun r hr => by cases hr⟩
  rcases h with ⟨h1, _, h3⟩ | ⟨_, _, h3⟩
  · have := h3 _ h0
    have e : T.toNat = 0 := by simpa using this
    exact ⟨BitVec.eq_of_toNat_eq (by rw [e]; rfl), h1⟩
  · exact absurd h0 (h3 _)
theorem more_res {n : Nat} {rs : List Ru} {a b : Ru} {i : Nat} {T T2 : BitVec 32} {ok ok2 : Bool} (hi : i < 32) (ha : a ∈ rs) (hb : b ∈ rs) (h : Res n rs 0#32 0#32 T ok) (k : Res n (rs ++ [resAt a b i]) 0#32 0#32 T2 ok2) : T2 = T ∧ ok2 = ok := by
  have k2 : Res n rs 0#32 0#32 T2 ok2 := by
    rcases k with ⟨h1, h2, h3⟩ | ⟨h1, h2, h3⟩
    · exact .inl ⟨h1, (sol_res hi ha hb 0#32 0#32 _).1 h2, fun s hs => h3 s ((sol_res hi ha hb 0#32 0#32 s).2 hs)⟩
    · exact .inr ⟨h1, h2, fun s hs => h3 s ((sol_res hi ha hb 0#32 0#32 s).2 hs)⟩
  exact k2.uniq h
theorem more_sat {n : Nat} {rs : List Ru} {a b : Ru} {i : Nat} (h : satF n rs = 0) (hl : rs.length < 16) (ha : a ∈ rs) (hb : b ∈ rs) : satF n (rs ++ [resAt a b i]) = 0 := by
  obtain ⟨n', hn, h1, h6, _, hok⟩ := satF_zero h
  obtain rfl : n = n' := by omega
  unfold satF
  rw [if_neg (by rw [List.length_append]; simp; omega), if_neg]
  rw [List.any_eq_true]
  rintro ⟨r, hr, h2⟩
  rw [List.mem_append, List.mem_singleton] at hr
  unfold misB at h2
  rw [Int.toNat_natCast] at h2
  rcases hr with hr | rfl
  · rw [hok r hr] at h2; cases h2
  · rw [res_fit (hok a ha) (hok b hb)] at h2; cases h2
theorem solve_val (n : Nat) (A : Option Addr) (len c : Nat) (rs : List Ru) (w : World) (hs : SlR w A len rs) (h : satF n rs = 0) :
    Calls Try.prog 12 #[.int .i64 n, .slice A len c] w fun e w' => ∃ (T : BitVec 32) (ok : Bool) (F : Int), e = .returned (.tuple #[.int .u32 (W T), .int .i64 F]) ∧ Kept w w' ∧ Hid (Res n rs 0#32 0#32 T ok) ∧ Hid ((if ok then 0 else 5) = F) := by
  refine (solve_any n A len c rs w hs).mono ?_
  rintro e w' (⟨h0, he, k⟩ | ⟨v, ok, h0, he, hr, k⟩)
  · exact absurd h h0
  · exact ⟨v, ok, _, he, k, Lib.hid (by rw [Int.toNat_natCast] at hr; exact hr), Lib.hid rfl⟩
set_option maxRecDepth 100000 in
set_option maxHeartbeats 16000000 in
theorem good (n : Nat) (A : Option Addr) (len c : Nat) (rs : List Ru) (i j : Int) (w : World) (hs : SlR w A len rs) (h : satF n rs = 0) (hi0 : 0 ≤ i) (hi1 : i ≤ 255) (hj0 : 0 ≤ j) (hj1 : j ≤ 255) (hl : 0 < len) (hl16 : len ≤ 16) :
    Calls Try.prog 3 #[.int .i64 n, .slice A len c, .int .u8 i, .int .u8 j] w fun e w' => e = .returned (.bool true) ∧ Kept w w' := by
  have HH := Lib.hid h
  have h0b : (satF n rs == 0) = true := by simpa using h
  have HS := Lib.hid h0b
  have hl0 : ((len : Int) == 0) = false := by simp; omega
  have HSOL := Lib.hid (solve_val n A len c rs w hs h)
  clear h h0b
  go_enter Try.func3, Try.ntmps3
  go_wp2_with fail
  refine HSOL.out.mono ?_
  rintro e w1 ⟨T, ok0, F, rfl, k1, HRES, HFF⟩
  go_wp2_with fail
  refine (sat_any n A len c rs _ (hs.kept k1)).mono ?_
  rintro e w2 ⟨rfl, k2⟩
  rw [HS.out]
  go_wp2_with fail
  have q2 := k1.trans k2
  obtain ⟨a, ha⟩ := Int.eq_ofNat_of_zero_le hi0
  obtain ⟨b, hb⟩ := Int.eq_ofNat_of_zero_le hj0
  obtain ⟨x, hx⟩ : ∃ x : Nat, Int.tmod i (len : Int) = (x : Int) ∧ x < len := ⟨a % len, by subst ha; exact ⟨by rw [Int.natCast_emod]; exact Int.tmod_eq_emod_of_nonneg (by omega), Nat.mod_lt _ hl⟩⟩
  obtain ⟨y, hy⟩ : ∃ y : Nat, Int.tmod j (len : Int) = (y : Int) ∧ y < len := ⟨b % len, by subst hb; exact ⟨by rw [Int.natCast_emod]; exact Int.tmod_eq_emod_of_nonneg (by omega), Nat.mod_lt _ hl⟩⟩
  have ex0 := hx.1
  have ey0 := hy.1
  have ex : i % (len : Int) = (x : Int) := by rw [← Int.tmod_eq_emod_of_nonneg hi0]; exact ex0
  have ey : j % (len : Int) = (y : Int) := by rw [← Int.tmod_eq_emod_of_nonneg hj0]; exact ey0
  clear ha hb
  have hlz : ¬ len = 0 := by omega
  have hwi : IntKind.i64.wrap i = i := by rw [IntWalk.i64_left, IntWalk.wrap64_in _ (by omega)]
  have hwj : IntKind.i64.wrap j = j := by rw [IntWalk.i64_left, IntWalk.wrap64_in _ (by omega)]
  obtain ⟨bk, off, hkx, rfl, hbk, c1, c2⟩ := (hs.kept q2).get x hx.2
  obtain ⟨bk2, off2, hky, e8, hbk2, d1, d2⟩ := (hs.kept q2).get y hy.2
  cases e8
  have hlne : ¬ (len : Int) = 0 := by omega
  have hl1 : (1 : Int) ≤ (len : Int) := by omega
  have g1 : (0 : Int) ≤ (x : Int) := by omega
  have g2 : (x : Int) < (len : Int) := by have := hx.2; omega
  have g3 : (0 : Int) ≤ (y : Int) := by omega
  have g4 : (y : Int) < (len : Int) := by have := hy.2; omega
  have HMX := Lib.hid (List.getElem_mem hkx)
  have HMY := Lib.hid (List.getElem_mem hky)
  generalize rs[x] = r1 at c1 c2 HMX
  generalize rs[y] = r2 at d1 d2 HMY
  have HSW := Lib.hid (fun w' (k : Kept w2 w') => show w'.cell? ⟨bk, off + x * 2, none⟩ = some (.int .u32 (W r1.1)) ∧ w'.cell? ⟨bk, off + x * 2 + 1, none⟩ = some (.int .u32 (W r1.2)) ∧ w'.cell? ⟨bk, off + y * 2, none⟩ = some (.int .u32 (W r2.1)) ∧ w'.cell? ⟨bk, off + y * 2 + 1, none⟩ = some (.int .u32 (W r2.2)) ∧ Kept w2 w' from
    ⟨(k.cell (cell_lt c1)).trans c1, (k.cell (cell_lt c2)).trans c2, (k.cell (cell_lt d1)).trans d1, (k.cell (cell_lt d2)).trans d2, k⟩)
  have HSL := Lib.hid (fun w' (k : Kept w2 w') => hs.kept (q2.trans k))
  have Q2 := Lib.hid q2
  clear k1 k2 q2
  go_region_held3 (fun w' => w'.cell? ⟨bk, off + x * 2, none⟩ = some (.int .u32 (W r1.1)) ∧ w'.cell? ⟨bk, off + x * 2 + 1, none⟩ = some (.int .u32 (W r1.2)) ∧ w'.cell? ⟨bk, off + y * 2, none⟩ = some (.int .u32 (W r2.1)) ∧ w'.cell? ⟨bk, off + y * 2 + 1, none⟩ = some (.int .u32 (W r2.2)) ∧ Kept w2 w')
    ((refine HSW.out _ ?_; repeat first | exact Kept.refl _ | exact K3.out | refine Kept.alloc ?_ _ | refine Kept.drew ?_ | refine Kept.setCell ?_ (by first | exact Nat.le_refl _ | exact K3.out.size) _))
    ((first
      | (go_at_call 14
         refine (resolve_val r1 r2 _).mono ?_
         rintro e w3 ⟨t, okc, rfl, k3, HT⟩
         have K3 := Lib.hid (Kept.trans (show Kept w2 _ by repeat first | exact Kept.refl _ | refine Kept.alloc ?_ _ | refine Kept.drew ?_) k3)
         try (have bxs := boxes1 (Kept.trans (Kept.drew (Kept.refl (w2.alloc (.cells #[.int .u32 0, .int .u32 0] 29)))) k3)
              have bc0 := bxs.at_ 0 rfl
              have bc1 := bxs.at_ 1 rfl
              have bf0 := bxs.2.2 0
              have bf1 := bxs.2.2 1
              have blt := bxs.1
              have row3 := Lib.hid ((Row.new (Kept.refl w2) 29 [.int .u32 0, .int .u32 0] _ rfl).kept (Kept.trans (Kept.drew (Kept.refl (w2.alloc (.cells #[.int .u32 0, .int .u32 0] 29)))) k3))
              clear bxs)
         clear k3)
      | fail))
  all_goals
    first
    | (obtain ⟨w5, hw5⟩ : ∃ w5, w3.alloc (.cells #[.int .u32 (W t.1), .int .u32 (W t.2)] 29) = w5 := ⟨_, rfl⟩
       rw [hw5]
       have R5 := Lib.hid (show Row w2 w5 w3.heap.size 29 [.int .u32 (W t.1), .int .u32 (W t.2)] from hw5 ▸ Row.new K3.out 29 [.int .u32 (W t.1), .int .u32 (W t.2)] _ rfl)
       clear hw5
       generalize w3.heap.size = X at R5 ⊢)
    | (obtain ⟨w5, hw5⟩ : ∃ w5, (w3.setCell ⟨w2.heap.size, 0, none⟩ (.int .u32 (W t.1))).setCell ⟨w2.heap.size, 1, none⟩ (.int .u32 (W t.2)) = w5 := ⟨_, rfl⟩
       rw [hw5]
       have R5 := Lib.hid (show Row w2 w5 w2.heap.size 29 [.int .u32 (W t.1), .int .u32 (W t.2)] from hw5 ▸ (row3.out.set 0 (.int .u32 (W t.1))).set 1 (.int .u32 (W t.2)))
       clear hw5 bc0 bc1 bf0 bf1 blt row3
       generalize w2.heap.size = X at R5 ⊢)
    have K5 := Lib.hid R5.out.kept0
    have p0 := R5.out.cell 0 rfl
    have p1 := R5.out.cell 1 rfl
    have hF := HFF.out
    cases okc
    · cases ok0
      all_goals
        simp only [if_true, Bool.false_eq_true, if_false] at hF
        subst hF
        go_wp2_with fail
        go_ret
        exact ⟨by simp, Q2.out.trans K5.out⟩
    · by_cases h16 : len = 16
      · subst h16
        cases ok0
        all_goals
          simp only [if_true, Bool.false_eq_true, if_false] at hF
          subst hF
          go_wp2_with fail
          go_ret
          exact ⟨by simp, Q2.out.trans K5.out⟩
      · have h16b : (len == 16) = false := by simpa using h16
        have h16i : ((len : Int) == 16) = false := by simp; omega
        obtain ⟨i', hi', rfl⟩ := HT.out rfl
        have HI := Lib.hid hi'
        have HLT := Lib.hid (show len < 16 by omega)
        have HSW5 := Lib.hid (fun w' (k : Kept w5 w') => show w'.cell? ⟨X, 0, none⟩ = some (.int .u32 (W (resAt r1 r2 i').1)) ∧ w'.cell? ⟨X, 1, none⟩ = some (.int .u32 (W (resAt r1 r2 i').2)) ∧ Kept w5 w' from
          ⟨(k.cell (cell_lt p0)).trans p0, (k.cell (cell_lt p1)).trans p1, k⟩)
        have HSL5 := Lib.hid (fun w' (k : Kept w5 w') => HSL.out _ (K5.out.trans k))
        have HLEN := Lib.hid hs.2
        have HSAT := Lib.hid (more_sat (i := i') HH.out (by rw [HLEN.out]; exact HLT.out) HMX.out HMY.out)
        have HMORE := Lib.hid (fun (T2 : BitVec 32) (ok2 : Bool) (k : Res n (rs ++ [resAt r1 r2 i']) 0#32 0#32 T2 ok2) => more_res hi' HMX.out HMY.out HRES.out k)
        have HSOLV := Lib.hid (fun A c w' h => solve_val n A (len + 1) c (rs ++ [resAt r1 r2 i']) w' h HSAT.out)
        generalize resAt r1 r2 i' = t at p0 p1 HSW5 HMORE HSOLV
        clear HSW hi' h16 R5 HSAT
        go_wp2_with fail
        go_region_held3 (fun w' => w'.cell? ⟨X, 0, none⟩ = some (.int .u32 (W t.1)) ∧ w'.cell? ⟨X, 1, none⟩ = some (.int .u32 (W t.2)) ∧ Kept w5 w')
          ((refine HSW5.out _ ?_; repeat first | exact Kept.refl _ | exact K9.out | exact hown8.kept0 | exact hown7.kept0 | refine Kept.alloc ?_ _ | refine Kept.drew ?_))
          ((first
            | (refine step_pushAll (by rfl) _ _ 22 (by rfl) (.slice (some ⟨_, 0, none⟩) 0 0) (by rfl) (some ⟨bk, off, none⟩) len c (by rfl) 29 Try.underlying22 info_clause rfl (by decide) (by decide) _ 0 [] (by first | exact (Own.empty (Kept.refl _) _ _ _ rfl).drew | exact ((Own.empty (Kept.refl _) _ _ _ rfl).alloc _).drew | exact (Own.empty ((Kept.refl _).alloc _) _ _ _ (by simp)).drew) (ruCells rs) (HSL5.out _ (by repeat first | exact Kept.refl _ | refine Kept.alloc ?_ _ | refine Kept.drew ?_)).1 (one_rules rs) len (by omega) (by omega) ?_
               intro v7 w7 hown7 hgr7
               try have OC7 := Lib.hid (own_sl (Own.grown (by first | exact (Own.made ((Kept.refl w5).alloc (.cells #[] 29)) 29 #[.int .u32 (W t.1), .int .u32 (W t.2)] 2 1 _ rfl rfl (by decide)).drew | exact ((Own.made (Kept.refl w5) 29 #[.int .u32 (W t.1), .int .u32 (W t.2)] 2 1 _ rfl rfl (by decide)).alloc (.cells #[] 29)).drew) hgr7 (.inr (by simp [Value.ownBlock])) (by intro k hk; simp [Value.ownBlock] at hk; subst hk; simp)))
               obtain ⟨A7, c7, rfl, hsl7⟩ := hown7.form)
            | (refine step_pushAll (by rfl) _ _ 22 (by rfl) (.slice A7 len c7) (by rfl) _ 1 1 (by rfl) 29 Try.underlying22 info_clause rfl (by decide) (by decide) _ len (ruCells rs) (by first | exact hown7 | exact hown7.alloc _) (ruCells [t]) (by first | exact Sl.new w7 #[.int .u32 (W t.1), .int .u32 (W t.2)] 29 2 1 rfl | (have h := OC7.out; simpa [ruCells] using h)) (one_rules [t]) (len + 1) (by omega) (by omega) ?_
               intro v8 w8 hown8 hgr8
               obtain ⟨A8, c8, rfl, hsl8⟩ := hown8.form)
            | (go_at_call 12
               refine (HSOLV.out A8 c8 _ ⟨by rw [ruCells_append]; exact hsl8.1, by simp [HLEN.out]⟩).mono ?_
               rintro e w9 ⟨T9, ok9, F9, rfl, k9, HRES9, HF9⟩
               have K9 := Lib.hid (hown8.kept0.trans k9)
               clear k9)))
        all_goals
          obtain ⟨e1, e2⟩ := HMORE.out _ _ HRES9.out
          subst T9 ok9
          have hF9 := HF9.out
          clear hown7 hown8 hgr7 hgr8 hsl7 hsl8 HSOLV HSW5 HSOL ex ey ex0 ey0 hx hy hwi hwj c1 c2 d1 d2 p0 p1 HMORE HFF HF9
          have KF := Lib.hid ((Q2.out.trans K5.out).trans K9.out)
          cases ok0
          · simp only [Bool.false_eq_true, if_false] at hF hF9
            subst hF hF9
            go_wp2_with fail
            go_ret
            exact ⟨by simp, KF.out⟩
          · simp only [if_true] at hF hF9
            subst hF hF9
            have ht : trueB rs T = true := by
              rcases HRES.out with ⟨_, h2, _⟩ | ⟨h1, _, _⟩
              · exact trueB_iff.2 h2.2.2.2
              · cases h1
            have HTR := Lib.hid (true_any (some ⟨bk, off, none⟩) len c rs T w9 (HSL5.out _ K9.out) (by omega))
            rw [ht] at HTR
            clear ht
            go_wp2_with fail
            refine HTR.out.mono ?_
            rintro e w10 ⟨rfl, k10⟩
            go_wp2_with fail
            go_ret
            exact ⟨by simp, KF.out.trans k10⟩
end Go.Proofs.Ytekpifobhgjepaa.clauseResolveDone
