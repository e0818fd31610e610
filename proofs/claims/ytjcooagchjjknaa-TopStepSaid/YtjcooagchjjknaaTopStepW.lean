/- TopStep: the walk of the statement. -/
import Derived.Test.YtjcooagchjjknaaTop1
import Derived.Test.YtjcooagchjjknaaCodes
import Derived.Deep.RegionHeld3
namespace Go.Proofs.Ytjcooagchjjknaa.topStepDone
open Go Go.RowKit Go.Lib
set_option linter.unusedVariables false

theorem info_stroke : (Try.prog.info? 48).map (fun i => (i.zero, i.size, i.bytes)) = some (some (.agg #[.int .i64 0, .int .i64 0, .int .u32 0, .slice none 0 0, .int .i64 0]), 5, 56) := by kernel_rfl
theorem one_sk (qs : List SkA) : ∀ u ∈ skCells qs, u.oneCell' = true := by
  intro u hu
  unfold skCells at hu
  obtain ⟨x, _, hx⟩ := List.mem_flatMap.1 hu
  unfold skv at hx
  simp at hx
  rcases hx with rfl | rfl | rfl | rfl | rfl <;> rfl
theorem own_slS {w0 w : World} {E : TypeId} {s n c : Nat} {A : Option Addr} {xs : List Value} (h : Own w0 w E s (.slice A n c) n xs) : Sl w s A n xs := Sl.of_own h.1
theorem step_pushAllR {P : Program} {ops : Array Oper} {o : Oper} {a : Act} {K : Act → World → Prop} {Q : Exit → Act → World → Prop} {F : Prop} {w0 : World} (hgd : o.guard = none) (s x : Operand) (t : TypeId)
    (ho : o.op = .call { callee := .builtin .append, args := #[s, x], argTypes := #[t, t] }) (v : Value) (hs : a.eval s = v) (A : Option Addr) (m c : Nat) (hx : a.eval x = .slice A m c)
    (e : TypeId) {z : Value} {size bytes : Nat} (ht : P.underlying t = some (.slice e)) (hi : (P.info? e).map (fun i => (i.zero, i.size, i.bytes)) = some (some z, size, bytes))
    (hzs : z.cells.size = size) (hsz : 0 < size)
    (W : World) (n : Nat) (xs : List Value) (hown : Own w0 W e size v n xs) (news : List Value) (hsl : Sl W size A m news)
    (h1 : ∀ u ∈ news, u.oneCell' = true) (L : Nat) (hL : n + m = L) (hn : L ≤ maxLen) (hbytes : L * bytes ≤ 140737488355328)
    (h : ∀ v' w', Own w0 w' e size v' L (xs ++ news) → W.grownBy w' v.ownBlock → K (a.put o.dst v') w') :
    if Region.wanted o (yielded ops a.tmps) = true then Oper.wp P o a W K Q else F := by
  have hw : Region.wanted o (yielded ops a.tmps) = true := by simp [Region.wanted, hgd]
  rw [if_pos hw]
  obtain ⟨i, hi0, hz, hsize, hby⟩ := info_parts hi
  subst hL
  by_cases hm : m = 0
  · subst hm
    have hnews : news = [] := List.eq_nil_of_length_eq_zero (by simpa using hsl.1)
    subst hnews
    rcases A with _ | ad
    · have hrun := run_append_of_nil (P := P) W w0.heap.size t o.type e i size ht hi0 v n xs hown.1 c
      unfold Oper.wp
      simp [execOp, ho, resolve, invoke, builtin, hs, hx, hrun, Result.andThen]
      exact h v W (by simpa using hown) (grown_refl _ _)
    · refine wp_append_own W s x t ho w0.heap.size e i z size bytes ht hi0 hz hsize hby hzs hsz v n xs hs hown.1 ad 0 c [] hx (by simp) (by simp) (by simp)
        hn hbytes hown.2.size ?_
      intro v' w' hown' hg _
      exact h v' w' ⟨hown', Below.grown hown.2 hg hown.2.size fun k hk => (World.ownsRow.lt hown.1 k hk).1⟩ hg
  · obtain ⟨b, off, rfl, hb, hc⟩ := hsl.2 (by omega)
    refine wp_append_own W s x t ho w0.heap.size e i z size bytes ht hi0 hz hsize hby hzs hsz v n xs hs hown.1 ⟨b, off, none⟩ m c news hx hsl.1 ?_ h1
      hn hbytes hown.2.size ?_
    · intro j u hu
      have := hc j u hu
      unfold Addr.add
      split
      · rename_i h0; subst h0; simpa using this
      · simpa using this
    · intro v' w' hown' hg _
      exact h v' w' ⟨hown', Below.grown hown.2 hg hown.2.size fun k hk => (World.ownsRow.lt hown.1 k hk).1⟩ hg
/-! ### one stroke more -/
theorem skN_pre {qs : List SkA} {q : SkA} {k : Nat} (h : k < qs.length) : skN (qs ++ [q]) k = skN qs k := by
  unfold skN
  rw [List.getD_eq_getElem?_getD, List.getD_eq_getElem?_getD, List.getElem?_append_left h]
theorem skN_last (qs : List SkA) (q : SkA) : skN (qs ++ [q]) qs.length = q.1 := by
  unfold skN
  rw [List.getD_eq_getElem?_getD, List.getElem?_append_right (Nat.le_refl _)]
  simp
theorem plL_step (qs : List SkA) (k : Nat) : plL qs (k + 1) = if (penF (plL qs k) (skN qs k)).1 = 0 then (penF (plL qs k) (skN qs k)).2 else plL qs k := rfl
theorem plL_pre (qs : List SkA) (q : SkA) : ∀ k, k ≤ qs.length → plL (qs ++ [q]) k = plL qs k
  | 0, _ => rfl
  | k + 1, h => by rw [plL_step, plL_step, plL_pre qs q k (by omega), skN_pre (by omega)]
theorem codes_pre (qs : List SkA) (q : SkA) (n : Nat) (hn : n = qs.length) : codesL (qs ++ [q]) (n + 1) = codesL qs n ++ [(penF (plL qs n) q.1).1] := by
  subst hn
  rw [codesL_succ]
  have e1 : codesL (qs ++ [q]) qs.length = codesL qs qs.length := by
    unfold codesL
    apply List.map_congr_left
    intro k hk
    have hk := List.mem_range.1 hk
    unfold plC
    rw [plL_pre qs q k (by omega), skN_pre hk]
  have e2 : plC (qs ++ [q]) qs.length = (penF (plL qs qs.length) q.1).1 := by unfold plC; rw [plL_pre qs q _ (Nat.le_refl _), skN_last]
  rw [e1, e2]
theorem plL_more (qs : List SkA) (q : SkA) (n : Nat) (hn : n = qs.length) : plL (qs ++ [q]) (n + 1) = if (penF (plL qs n) q.1).1 = 0 then (penF (plL qs n) q.1).2 else plL qs n := by
  subst hn
  rw [plL_step, plL_pre qs q _ (Nat.le_refl _), skN_last]
set_option maxRecDepth 100000 in
set_option maxHeartbeats 16000000 in
theorem big (A : Option Addr) (n c : Nat) (qs : List SkA) (x : Sk × Option Addr × Nat × Nat) (w : World) (hn : n ≤ maxLen) (hs : SlSk w A n qs) (hx : x.2.2.1 ≤ maxLen ∧ x.2.2.1 ≤ x.2.2.2 ∧ SlI w x.2.1 x.2.2.1 x.1.path) (hsz : n * 56 ≤ 140737488351232) (h30 : 30 ≤ n) :
    Calls Try.prog 11 #[.slice A n c, .agg #[.int .i64 x.1.kind, .int .i64 x.1.who.1, .int .u32 (W x.1.who.2), .slice x.2.1 x.2.2.1 x.2.2.2, .int .i64 x.1.text]] w fun e w' => e = .returned (.bool true) ∧ Kept w w' := by
  obtain ⟨⟨kind, ⟨lv, pt⟩, ps, tx⟩, A2, m, c2⟩ := x
  obtain ⟨hm, hmc, hp⟩ := hx
  simp only at hm hmc hp ⊢
  have hka : Kept w (w.alloc (.cells #[.int .i64 kind, .int .i64 lv, .int .u32 (W pt), .slice A2 m c2, .int .i64 tx] 48)) := (Kept.refl _).alloc _
  have bx := Box.new w #[.int .i64 kind, .int .i64 lv, .int .u32 (W pt), .slice A2 m c2, .int .i64 tx] 48 w.heap.size rfl
  have HNM := Lib.hid hn
  have HNM1 := Lib.hid (show n + 1 ≤ maxLen by unfold maxLen; omega)
  have HLN := Lib.hid hs.1.2
  have t3 : decide (30 ≤ n) = true := by simpa using h30
  have t4 : decide ((30 : Int) ≤ (n : Int)) = true := by simp; omega
  have hpl : Calls Try.prog 26 #[.slice A n c] (w.alloc (.cells #[.int .i64 kind, .int .i64 lv, .int .u32 (W pt), .slice A2 m c2, .int .i64 tx] 48)) fun e w' => ∃ u1 u2 u3, e = .returned (.tuple #[u1, u2, .int .i64 u3]) ∧ Kept (w.alloc (.cells #[.int .i64 kind, .int .i64 lv, .int .u32 (W pt), .slice A2 m c2, .int .i64 tx] 48)) w' := by
    by_cases h31 : 30 < n
    · exact (hands_big A n c _ h31).mono fun e w' ⟨h1, h2⟩ => ⟨_, _, _, h1, h2 ▸ Kept.refl _⟩
    · exact (hands_any A n c qs _ (hs.kept hka) (by omega)).mono fun e w' ⟨_, _, _, _, h1, _, _, _, h2⟩ => ⟨_, _, _, h1, h2⟩
  have HPL := Lib.hid hpl
  clear hpl
  go_enter Try.func11, Try.ntmps11
  go_wp2_with fail
  refine HPL.out.mono ?_
  rintro e w1 ⟨u1, u2, u3, rfl, k1⟩
  have q1 := hka.trans k1
  have b1 := bx.kept k1
  clear HPL bx k1
  have d0 := b1.at_ 0 rfl
  have d1 := b1.at_ 1 rfl
  have d2 := b1.at_ 2 rfl
  have d3 := b1.at_ 3 rfl
  have d4 := b1.at_ 4 rfl
  generalize w.heap.size = B at b1 d0 d1 d2 d3 d4 ⊢
  have HSW := Lib.hid (fun w' (k : Kept w1 w') => show w'.cell? ⟨B, 0, none⟩ = some (.int .i64 kind) ∧ w'.cell? ⟨B, 1, none⟩ = some (.int .i64 lv) ∧ w'.cell? ⟨B, 2, none⟩ = some (.int .u32 (W pt)) ∧ w'.cell? ⟨B, 3, none⟩ = some (.slice A2 m c2) ∧ w'.cell? ⟨B, 4, none⟩ = some (.int .i64 tx) ∧ Kept w1 w' from
    ⟨(k.cell (cell_lt d0)).trans d0, (k.cell (cell_lt d1)).trans d1, (k.cell (cell_lt d2)).trans d2, (k.cell (cell_lt d3)).trans d3, (k.cell (cell_lt d4)).trans d4, k⟩)
  have HM0 := Lib.hid (fun w' (k : Kept w1 w') => hs.kept (q1.trans k))
  have HB1 := Lib.hid b1
  have Q1 := Lib.hid q1
  have HP1 := Lib.hid (fun w' (k : Kept w1 w') => show PathAt w' (⟨kind, (lv, pt), ps, tx⟩, A2, m, c2) from ⟨hm, hmc, hp.kept (q1.trans k)⟩)
  clear b1 q1 hka d0 d1 d2 d3 d4
  go_wp2_with fail
  go_region_held3 (fun w' => w'.cell? ⟨B, 0, none⟩ = some (.int .i64 kind) ∧ w'.cell? ⟨B, 1, none⟩ = some (.int .i64 lv) ∧ w'.cell? ⟨B, 2, none⟩ = some (.int .u32 (W pt)) ∧ w'.cell? ⟨B, 3, none⟩ = some (.slice A2 m c2) ∧ w'.cell? ⟨B, 4, none⟩ = some (.int .i64 tx) ∧ Kept w1 w')
    ((refine HSW.out _ ?_; repeat first | exact Kept.refl _ | exact K9.out | exact hown8.kept0 | exact hown7.kept0 | refine Kept.alloc ?_ _ | refine Kept.drew ?_))
    ((first
      | (refine step_pushAllR (by rfl) _ _ 53 (by rfl) (.slice (some ⟨_, 0, none⟩) 0 0) (by rfl) A n c (by rfl) 48 Try.underlying53 info_stroke rfl (by decide) _ 0 [] (by first | exact (Own.empty (Kept.refl _) _ _ _ rfl).drew | exact ((Own.empty (Kept.refl _) _ _ _ rfl).alloc _).drew | exact (Own.empty ((Kept.refl _).alloc _) _ _ _ (by simp)).drew) (skCells qs) (HM0.out _ (by repeat first | exact Kept.refl _ | refine Kept.alloc ?_ _ | refine Kept.drew ?_)).1.1 (one_sk qs) n (by omega) HNM.out (by omega) ?_
         intro v7 w7 hown7 hgr7
         try have OC7 := Lib.hid (own_slS (Own.grown (by first | exact (Own.made ((Kept.refl w1).alloc (.cells #[] 48)) 48 #[.int .i64 kind, .int .i64 lv, .int .u32 (W pt), .slice A2 m c2, .int .i64 tx] 5 1 _ rfl rfl (by decide)).drew | exact ((Own.made (Kept.refl w1) 48 #[.int .i64 kind, .int .i64 lv, .int .u32 (W pt), .slice A2 m c2, .int .i64 tx] 5 1 _ rfl rfl (by decide)).alloc (.cells #[] 48)).drew) hgr7 (.inr (by simp [Value.ownBlock])) (by intro k hk; simp [Value.ownBlock] at hk; subst hk; simp)))
         obtain ⟨A7, c7, rfl, hsl7⟩ := hown7.form)
      | (refine step_pushAllR (by rfl) _ _ 53 (by rfl) (.slice A7 n c7) (by rfl) _ 1 1 (by rfl) 48 Try.underlying53 info_stroke rfl (by decide) _ n (skCells qs) (by first | exact hown7 | exact hown7.alloc _) (skCells [(⟨kind, (lv, pt), ps, tx⟩, A2, m, c2)]) (by first | exact Sl.new w7 #[.int .i64 kind, .int .i64 lv, .int .u32 (W pt), .slice A2 m c2, .int .i64 tx] 48 5 1 rfl | (have h := OC7.out; simpa [skCells, skv] using h)) (one_sk [(⟨kind, (lv, pt), ps, tx⟩, A2, m, c2)]) (n + 1) (by omega) HNM1.out (by omega) ?_
         intro v8 w8 hown8 hgr8
         obtain ⟨A8, c8, rfl, hsl8⟩ := hown8.form)
      | (go_at_call 26
         refine (hands_big A8 (n + 1) c8 _ (by omega)).mono ?_
         rintro e w9 ⟨rfl, rfl⟩
         have K9 := Lib.hid hown8.kept0)))
  all_goals
    have FIN := Lib.hid (Q1.out.trans K9.out)
    go_wp2_with fail
    go_ret
    exact ⟨rfl, FIN.out⟩
set_option maxRecDepth 100000 in
set_option maxHeartbeats 16000000 in
theorem good (A : Option Addr) (n c : Nat) (qs : List SkA) (x : Sk × Option Addr × Nat × Nat) (w : World) (hn : n ≤ maxLen) (hs : SlSk w A n qs) (hx : x.2.2.1 ≤ maxLen ∧ x.2.2.1 ≤ x.2.2.2 ∧ SlI w x.2.1 x.2.2.1 x.1.path) (hsz : n * 56 ≤ 140737488351232) (h30 : n < 30) :
    Calls Try.prog 11 #[.slice A n c, .agg #[.int .i64 x.1.kind, .int .i64 x.1.who.1, .int .u32 (W x.1.who.2), .slice x.2.1 x.2.2.1 x.2.2.2, .int .i64 x.1.text]] w fun e w' => e = .returned (.bool true) ∧ Kept w w' := by
  obtain ⟨⟨kind, ⟨lv, pt⟩, ps, tx⟩, A2, m, c2⟩ := x
  obtain ⟨hm, hmc, hp⟩ := hx
  simp only at hm hmc hp ⊢
  have hka : Kept w (w.alloc (.cells #[.int .i64 kind, .int .i64 lv, .int .u32 (W pt), .slice A2 m c2, .int .i64 tx] 48)) := (Kept.refl _).alloc _
  have bx := Box.new w #[.int .i64 kind, .int .i64 lv, .int .u32 (W pt), .slice A2 m c2, .int .i64 tx] 48 w.heap.size rfl
  have HNM := Lib.hid hn
  have HNM1 := Lib.hid (show n + 1 ≤ maxLen by unfold maxLen; omega)
  have HLN := Lib.hid hs.1.2
  have t3 : decide (30 ≤ n) = false := by simp; omega
  have t4 : decide ((30 : Int) ≤ (n : Int)) = false := by simp; omega
  have hpl := hands_any A n c qs _ (hs.kept hka) (by omega)
  have HPL := Lib.hid hpl
  have HPO := Lib.hid (plL_ok qs n)
  have HCP := Lib.hid (codes_pre qs (⟨kind, (lv, pt), ps, tx⟩, A2, m, c2) n HLN.out.symm)
  have HPM := Lib.hid (plL_more qs (⟨kind, (lv, pt), ps, tx⟩, A2, m, c2) n HLN.out.symm)
  simp only at HCP HPM
  clear hpl
  go_enter Try.func11, Try.ntmps11
  go_wp2_with fail
  refine HPL.out.mono ?_
  rintro e w1 ⟨AC, cC, AL, cL, rfl, hcs, _, hpl, k1⟩
  have q1 := hka.trans k1
  have b1 := bx.kept k1
  clear HPL bx k1
  have d0 := b1.at_ 0 rfl
  have d1 := b1.at_ 1 rfl
  have d2 := b1.at_ 2 rfl
  have d3 := b1.at_ 3 rfl
  have d4 := b1.at_ 4 rfl
  generalize w.heap.size = B at b1 d0 d1 d2 d3 d4 ⊢
  have HSW := Lib.hid (fun w' (k : Kept w1 w') => show w'.cell? ⟨B, 0, none⟩ = some (.int .i64 kind) ∧ w'.cell? ⟨B, 1, none⟩ = some (.int .i64 lv) ∧ w'.cell? ⟨B, 2, none⟩ = some (.int .u32 (W pt)) ∧ w'.cell? ⟨B, 3, none⟩ = some (.slice A2 m c2) ∧ w'.cell? ⟨B, 4, none⟩ = some (.int .i64 tx) ∧ Kept w1 w' from
    ⟨(k.cell (cell_lt d0)).trans d0, (k.cell (cell_lt d1)).trans d1, (k.cell (cell_lt d2)).trans d2, (k.cell (cell_lt d3)).trans d3, (k.cell (cell_lt d4)).trans d4, k⟩)
  have HM0 := Lib.hid (fun w' (k : Kept w1 w') => hs.kept (q1.trans k))
  have HB1 := Lib.hid b1
  have Q1 := Lib.hid q1
  have HP1 := Lib.hid (fun w' (k : Kept w1 w') => show PathAt w' (⟨kind, (lv, pt), ps, tx⟩, A2, m, c2) from ⟨hm, hmc, hp.kept (q1.trans k)⟩)
  clear b1 q1 hka d0 d1 d2 d3 d4
  go_wp2_with fail
  go_region_held3 (fun w' => w'.cell? ⟨B, 0, none⟩ = some (.int .i64 kind) ∧ w'.cell? ⟨B, 1, none⟩ = some (.int .i64 lv) ∧ w'.cell? ⟨B, 2, none⟩ = some (.int .u32 (W pt)) ∧ w'.cell? ⟨B, 3, none⟩ = some (.slice A2 m c2) ∧ w'.cell? ⟨B, 4, none⟩ = some (.int .i64 tx) ∧ Kept w1 w')
    ((refine HSW.out _ ?_; repeat first | exact Kept.refl _ | exact K9.out | exact hown8.kept0 | exact hown7.kept0 | refine Kept.alloc ?_ _ | refine Kept.drew ?_))
    ((first
      | (refine step_pushAllR (by rfl) _ _ 53 (by rfl) (.slice (some ⟨_, 0, none⟩) 0 0) (by rfl) A n c (by rfl) 48 Try.underlying53 info_stroke rfl (by decide) _ 0 [] (by first | exact (Own.empty (Kept.refl _) _ _ _ rfl).drew | exact ((Own.empty (Kept.refl _) _ _ _ rfl).alloc _).drew | exact (Own.empty ((Kept.refl _).alloc _) _ _ _ (by simp)).drew) (skCells qs) (HM0.out _ (by repeat first | exact Kept.refl _ | refine Kept.alloc ?_ _ | refine Kept.drew ?_)).1.1 (one_sk qs) n (by omega) HNM.out (by omega) ?_
         intro v7 w7 hown7 hgr7
         try have OC7 := Lib.hid (own_slS (Own.grown (by first | exact (Own.made ((Kept.refl w1).alloc (.cells #[] 48)) 48 #[.int .i64 kind, .int .i64 lv, .int .u32 (W pt), .slice A2 m c2, .int .i64 tx] 5 1 _ rfl rfl (by decide)).drew | exact ((Own.made (Kept.refl w1) 48 #[.int .i64 kind, .int .i64 lv, .int .u32 (W pt), .slice A2 m c2, .int .i64 tx] 5 1 _ rfl rfl (by decide)).alloc (.cells #[] 48)).drew) hgr7 (.inr (by simp [Value.ownBlock])) (by intro k hk; simp [Value.ownBlock] at hk; subst hk; simp)))
         obtain ⟨A7, c7, rfl, hsl7⟩ := hown7.form)
      | (refine step_pushAllR (by rfl) _ _ 53 (by rfl) (.slice A7 n c7) (by rfl) _ 1 1 (by rfl) 48 Try.underlying53 info_stroke rfl (by decide) _ n (skCells qs) (by first | exact hown7 | exact hown7.alloc _) (skCells [(⟨kind, (lv, pt), ps, tx⟩, A2, m, c2)]) (by first | exact Sl.new w7 #[.int .i64 kind, .int .i64 lv, .int .u32 (W pt), .slice A2 m c2, .int .i64 tx] 48 5 1 rfl | (have h := OC7.out; simpa [skCells, skv] using h)) (one_sk [(⟨kind, (lv, pt), ps, tx⟩, A2, m, c2)]) (n + 1) (by omega) HNM1.out (by omega) ?_
         intro v8 w8 hown8 hgr8
         obtain ⟨A8, c8, rfl, hsl8⟩ := hown8.form)
      | (go_at_call 26
         refine (hands_any A8 (n + 1) c8 (qs ++ [(⟨kind, (lv, pt), ps, tx⟩, A2, m, c2)]) _ ⟨⟨by rw [skCells_append]; exact hsl8.1, by simp [HLN.out]⟩, fun q hq => by
           rcases List.mem_append.1 hq with hq | hq
           · exact (HM0.out _ hown8.kept0).2 q hq
           · rw [List.mem_singleton] at hq
             subst hq
             exact HP1.out _ hown8.kept0⟩ (by omega)).mono ?_
         rintro e w9 ⟨AC2, cC2, AL2, cL2, rfl, hcs2, hcap2, hpl2, k9⟩
         have K9 := Lib.hid (hown8.kept0.trans k9)
         have HC2 := Lib.hid hcs2
         have HCAP := Lib.hid hcap2
         have HPL2 := Lib.hid hpl2
         clear k9 hcs2 hcap2 hpl2)))
  all_goals
    rename_i hHeld
    clear hHeld
    have hc2 := HC2.out
    rw [HCP.out] at hc2
    have HOK2 := Lib.hid (plL_ok (qs ++ [(⟨kind, (lv, pt), ps, tx⟩, A2, m, c2)]) (n + 1)).1
    have hpl2 := HPL2.out
    have hpl9 := hpl.kept K9.out
    have hcs9 := hcs.kept K9.out
    have b9 := HB1.out.kept K9.out
    have q9 := Q1.out.trans K9.out
    have HLL := Lib.hid HPO.out.1
    have HDO := Lib.hid (fun w' (k : Kept w9 w') => do_any AL (plL qs n).length cL (plL qs n) kind lv pt A2 m c2 ps tx w' (hpl9.kept k) ((HP1.out _ (K9.out.trans k)).2.2) (by have := HLL.out; unfold maxLen; omega) hm hmc)
    have HPMM := Lib.hid HPM.out
    have HCAP2 := HCAP.out
    clear HPL2 HPM HC2 HCP hsl7 hsl8 hown7 hown8 hgr7 hgr8 hpl hcs HSW HM0 HB1 Q1 HP1
    try clear OC7
    generalize plL (qs ++ [(⟨kind, (lv, pt), ps, tx⟩, A2, m, c2)]) (n + 1) = l2 at hpl2 HOK2 HPMM ⊢
    generalize plL qs n = ll at hpl9 hc2 HDO HPMM HLL ⊢
    obtain ⟨R, hR⟩ : ∃ R, penF ll ⟨kind, (lv, pt), ps, tx⟩ = R := ⟨_, rfl⟩
    rw [hR] at hc2 HDO HPMM
    clear hR HPO
    obtain ⟨cd, rs⟩ := R
    simp only at hc2 HPMM
    have htk : SlI w9 AC2 n (codesL qs n) := by
      have h := hc2.take (i := n) (by omega)
      rwa [List.take_left' (codesL_len qs n)] at h
    obtain ⟨b7, o7, hb7, rfl, hlt7, c7'⟩ := hc2.get n (by omega)
    have hcd : (codesL qs n ++ [cd])[n] = cd := by
      have h2 : (codesL qs n ++ [cd])[n]? = some cd := by rw [List.getElem?_append_right (by rw [codesL_len]; exact Nat.le_refl _), codesL_len]; simp
      rw [List.getElem?_eq_getElem hb7] at h2
      exact Option.some.inj h2
    rw [hcd] at c7'
    clear hcd hc2
    have i1 : (0 : Int) ≤ (n : Int) := by omega
    have i2 : (n : Int) ≤ (cC2 : Int) := by omega
    have i3 : (n : Int) < (n : Int) + 1 := by omega
    have hw1 : IntKind.i64.wrap ((n : Int) + 1) = (n : Int) + 1 := by rw [IntKind.wrap_i64]; omega
    have HCS := Lib.hid (codes_same AC n cC (some ⟨b7, o7, none⟩) cC2 (codesL qs n) w9 hcs9 htk (by unfold maxLen; omega))
    clear hcs9 htk
    go_wp2_with fail
    refine HCS.out.mono ?_
    rintro e w10 ⟨rfl, k10⟩
    have b10 := b9.kept k10
    have c10 := (k10.cell (cell_lt c7')).trans c7'
    clear b9 c7'
    have e0 := b10.at_ 0 rfl
    have e1 := b10.at_ 1 rfl
    have e2 := b10.at_ 2 rfl
    have e3 := b10.at_ 3 rfl
    have e4 := b10.at_ 4 rfl
    go_wp2_with fail
    refine (HDO.out _ k10).mono ?_
    rintro e w11 ⟨A11, c11, rfl, h11, k11⟩
    have k911 := k10.trans k11
    have c11' := (k11.cell (cell_lt c10)).trans c10
    have q11 := q9.trans k911
    have hp11 := hpl9.kept k911
    have hp2 := hpl2.kept k911
    simp only at h11 ⊢
    clear e0 e1 e2 e3 e4 b10 c10 hpl9 hpl2 HDO HCS
    by_cases hcd : cd = 0
    · subst hcd
      have hl : l2 = rs := by rw [HPMM.out, if_pos rfl]
      subst hl
      have hle := HOK2.out
      clear HPMM
      go_wp2_with fail
      refine (leaves_same A11 l2.length c11 AL2 cL2 l2 _ h11 hp2 (by omega)).mono ?_
      rintro e w12 ⟨rfl, k12⟩
      go_wp2_with fail
      go_ret
      exact ⟨rfl, q11.trans k12⟩
    · have hl : l2 = ll := by rw [HPMM.out, if_neg hcd]
      subst hl
      have hle := HOK2.out
      have hne : (cd != 0) = true := by simpa using hcd
      clear HPMM hcd
      go_wp2_with fail
      refine (leaves_same AL l2.length cL AL2 cL2 l2 _ hp11 hp2 (by omega)).mono ?_
      rintro e w12 ⟨rfl, k12⟩
      go_wp2_with fail
      go_ret
      exact ⟨rfl, q11.trans k12⟩
theorem topStep_walk (A : Option Addr) (n c : Nat) (qs : List SkA) (x : Sk × Option Addr × Nat × Nat) (w : World) (hn : n ≤ maxLen) (hs : SlSk w A n qs) (hx : x.2.2.1 ≤ maxLen ∧ x.2.2.1 ≤ x.2.2.2 ∧ SlI w x.2.1 x.2.2.1 x.1.path) (hsz : n * 56 ≤ 140737488351232) :
    Calls Try.prog 11 #[.slice A n c, .agg #[.int .i64 x.1.kind, .int .i64 x.1.who.1, .int .u32 (W x.1.who.2), .slice x.2.1 x.2.2.1 x.2.2.2, .int .i64 x.1.text]] w fun e w' => e = .returned (.bool true) ∧ Below w.heap.size w w' := by
  by_cases h30 : 30 ≤ n
  · exact (big A n c qs x w hn hs hx hsz h30).mono fun e w' ⟨h1, h2⟩ => ⟨h1, h2.below⟩
  · exact (good A n c qs x w hn hs hx hsz (by omega)).mono fun e w' ⟨h1, h2⟩ => ⟨h1, h2.below⟩
end Go.Proofs.Ytjcooagchjjknaa.topStepDone
