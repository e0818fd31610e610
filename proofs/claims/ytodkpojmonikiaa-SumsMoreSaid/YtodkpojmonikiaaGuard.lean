/- The walks of slices.Clip at words, sums.Left, sums.Guard; what Guard answers, question by question. -/
import Derived.Test.YtodkpojmonikiaaAsk
import Derived.ArgAppend
namespace Go.Proofs.Ytodkpojmonikiaa
open Go Go.RowKit
set_option linter.unusedVariables false

theorem info_errno : (Try.prog.info? 24).map (fun i => (i.zero, i.size, i.bytes)) = some (some (.int .i64 0), 1, 8) := by kernel_rfl
theorem ownsRow_base {w : World} {a b : Nat} {e : TypeId} {size : Nat} {v : Value} {n : Nat} {xs : List Value} (h : w.ownsRow b e size v n xs) (hab : a ≤ b) : w.ownsRow a e size v n xs := by
  refine ⟨h.1, ?_⟩
  rcases h.2 with hn | ⟨g, cap, cur, hv, hb, rest⟩
  · exact .inl hn
  · exact .inr ⟨g, cap, cur, hv, Nat.le_trans hab hb, rest⟩
section
variable {P : Program}
/-- 'l = append(s, x)', s at its full room: a block of its own -/
theorem wpList_pushFull {ops : Array Oper} {rest : List Oper} {o : Oper} {a : Act} {Q : Exit → Act → World → Prop} {w0 : World} (hgd : o.guard = none) (s x : Operand) (t : TypeId)
    (ho : o.op = .call { callee := .builtin .append, args := #[s, x], argTypes := #[t, t] })
    (e : TypeId) {z : Value} {size bytes : Nat} (ht : P.underlying t = some (.slice e)) (hi : (P.info? e).map (fun i => (i.zero, i.size, i.bytes)) = some (some z, size, bytes))
    (hzs : z.cells.size = size) (hsz : 0 < size) (hb1 : bytes ≤ 1000)
    (wr : World) (A : Option Addr) (n : Nat) (xs : List Value) (hsl : Sl wr size A n xs) (hnone : A = none → n = 0) (hk : Kept w0 wr) (cs : Array Value) (t' : TypeId) (B m c : Nat)
    (hs : a.eval s = .slice A n n) (hx : a.eval x = .slice (some ⟨B, 0, none⟩) m c) (hB : wr.heap.size = B) (hl : cs.size = m * size) (h1 : ∀ u ∈ cs.toList, u.oneCell' = true) (hm : 0 < m) (hn : n + m ≤ 1000000)
    (h : ∀ v' w', Own w0 w' e size v' (n + m) (xs ++ cs.toList) → (wr.alloc (.cells cs t')).grownBy w' none → wpList P ops Q rest (a.put o.dst v') w') : wpList P ops Q (o :: rest) a (wr.alloc (.cells cs t')) := by
  obtain ⟨i, hi0, hz, hsize, hby⟩ := info_parts hi
  subst hB
  have hsl2 := hsl.kept ((Kept.refl wr).alloc (.cells cs t'))
  refine wpList_append_grows _ hgd s x t ho e i z size bytes ht hi0 hz hsize hby hzs hsz A n n xs hs (fun h => ⟨hnone h, hnone h⟩) hsl.1 ?_ ⟨wr.heap.size, 0, none⟩ m c cs.toList hx (by simpa using hl) ?_ h1 (by omega)
    (by unfold maxLen; omega) ?_ ?_
  · intro b hb j u hu
    have hpos : 0 < n := by
      rcases Nat.eq_zero_or_pos n with h0 | h0
      · subst h0
        have := hsl.1
        rw [Nat.zero_mul] at this
        rw [List.eq_nil_of_length_eq_zero this] at hu
        cases hu
      · exact h0
    obtain ⟨b2, off, e2, hlt, hc⟩ := hsl2.2 hpos
    rw [hb] at e2
    injection e2 with e2
    subst e2
    have := hc j u hu
    unfold Addr.add
    split
    · rename_i h0; subst h0; simpa using this
    · simpa using this
  · intro j u hu
    have hc := (Sl.new wr cs t' size m hl).2
    have hadd : (⟨wr.heap.size, 0, none⟩ : Addr).add j = ⟨wr.heap.size, j, none⟩ := by
      unfold Addr.add
      split
      · rename_i h0; subst h0; rfl
      · simp
    rw [hadd, cell_of_row _ _ _ cs t' (0, 0) (heap_alloc_new wr _)]
    simpa using hu
  · calc (n + m) * bytes ≤ 1000000 * 1000 := Nat.mul_le_mul hn hb1
      _ ≤ 140737488355328 := by omega
  · intro v' w' hown' hg
    have hsize2 := Nat.le_trans hk.size (by simp : wr.heap.size ≤ (wr.alloc (.cells cs t')).heap.size)
    exact h v' w' ⟨ownsRow_base hown' hsize2, Below.grown (hk.alloc _) hg hsize2 fun k hk => by cases hk⟩ hg
end
theorem clip_any (A : Option Addr) (n c : Nat) (w : World) (hn : n ≤ c) (hc : c ≤ maxLen) (h0 : A = none → n = 0 ∧ c = 0) :
    Calls Try.prog 57 #[.slice A n c] w fun e w' => e = .returned (.slice A n n) ∧ w = w' := by
  unfold maxLen at hc
  have h1 : (n : Int) ≤ (c : Int) := by omega
  have h2 : (0 : Int) ≤ (n : Int) := by omega
  rcases A with _ | ad
  · obtain ⟨rfl, rfl⟩ := h0 rfl
    go_enter Try.func57, Try.ntmps57
    go_wp2_with fail
    go_ret
    exact ⟨rfl, rfl⟩
  · clear h0
    go_enter Try.func57, Try.ntmps57
    go_wp2_with fail
    go_ret
    exact ⟨rfl, rfl⟩
theorem Own.grown_none {w0 w w' : World} {E : TypeId} {s n : Nat} {v : Value} {xs : List Value} {o : Obj} (h : Own w0 w E s v n xs) (hg : (w.alloc o).grownBy w' none) : Own w0 w' E s v n xs :=
  (h.alloc o).grown hg (by rcases hv : v.ownBlock with _ | k; exact .inl rfl; exact .inr (by simp)) (fun k hk => by cases hk)
/-! ### question by question -/
def gTold (g : List (BitVec 32)) (q : BitVec 32) : BitVec 32 := toldR (rowsQ (g ++ [q]) (g.length + 1))
def givenG (qs : List (BitVec 32)) : Nat → List (BitVec 32)
  | 0 => []
  | k + 1 => if gTold (givenG qs k) (nth qs k) == 0#32 then givenG qs k ++ [nth qs k] else givenG qs k
def codeG (qs : List (BitVec 32)) (k : Nat) : Int := if gTold (givenG qs k) (nth qs k) == 0#32 then 0 else 7
def codesG (qs : List (BitVec 32)) (k : Nat) : List Int := (List.range k).map (codeG qs)
theorem codesG_snoc (qs : List (BitVec 32)) (k : Nat) : codesG qs (k + 1) = codesG qs k ++ [codeG qs k] := by
  unfold codesG
  rw [List.range_succ, List.map_append]
  rfl
theorem givenG_len (qs : List (BitVec 32)) : ∀ k, (givenG qs k).length ≤ k := by
  intro k
  induction k with
  | zero => exact Nat.le_refl _
  | succ k ih =>
    show (if _ then _ else _ : List (BitVec 32)).length ≤ _
    split
    · rw [List.length_append]; simp; exact ih
    · omega
theorem givenG_fit {n : Nat} {qs : List (BitVec 32)} (h : ∀ q ∈ qs, fitB n q = true) : ∀ k, k ≤ qs.length → ∀ q ∈ givenG qs k, fitB n q = true := by
  intro k
  induction k with
  | zero => intro _ q hq; cases hq
  | succ k ih =>
    intro hk q hq
    have hq : q ∈ (if gTold (givenG qs k) (nth qs k) == 0#32 then givenG qs k ++ [nth qs k] else givenG qs k) := hq
    split at hq
    · rw [List.mem_append, List.mem_singleton] at hq
      rcases hq with hq | rfl
      · exact ih (by omega) q hq
      · rw [nth_eq _ _ (by omega)]
        exact h _ (List.getElem_mem _)
    · exact ih (by omega) q hq
theorem givenG_told (qs : List (BitVec 32)) : ∀ k, toldR (rowsQ (givenG qs k) (givenG qs k).length) = 0#32 := by
  intro k
  induction k with
  | zero => rfl
  | succ k ih =>
    show toldR (rowsQ (if _ then _ else _ : List (BitVec 32)) (if _ then _ else _ : List (BitVec 32)).length) = _
    split
    · rename_i h
      unfold gTold at h
      rw [List.length_append]
      simpa using h
    · exact ih
theorem snoc_fit {n : Nat} {g : List (BitVec 32)} {q : BitVec 32} (h : ∀ x ∈ g, fitB n x = true) (hq : fitB n q = true) : ∀ x ∈ g ++ [q], fitB n x = true := fun x hx => by
  rw [List.mem_append, List.mem_singleton] at hx
  rcases hx with hx | rfl
  · exact h x hx
  · exact hq
theorem askF_ok {nn : Nat} {qs : List (BitVec 32)} (h1 : 1 ≤ nn) (h8 : nn ≤ 8) (hl : qs.length ≤ 12) (h : ∀ q ∈ qs, fitB nn q = true) : askF nn qs 0#32 = 0 := by
  unfold askF
  rw [if_neg (by omega), Int.toNat_natCast, if_neg, if_pos (fitB_zero _)]
  intro hc
  rw [List.any_eq_true] at hc
  obtain ⟨q, hq, h2⟩ := hc
  unfold misW at h2
  rw [h q hq] at h2
  cases h2
/-! ### walks -/
theorem left_any (nn : Nat) (A : Option Addr) (len c : Nat) (qs : List (BitVec 32)) (w : World) (hs : SlW w A len qs) (h : askF nn qs 0#32 = 0) :
    Calls Try.prog 28 #[.int .i64 nn, .slice A len c] w fun e w' => e = .returned (.tuple #[.int .i64 ((nn : Int) - ((rowsQ qs len).length : Int)), .int .i64 0]) ∧ Kept w w' := by
  have hw := fun w h => sumsWrong_any nn A len c qs 0#32 w h
  rw [W_zero, h] at hw
  obtain ⟨n2, hn2, h1, h8, hl, hok⟩ := askF_zero h
  obtain rfl : nn = n2 := by omega
  have hl2 := hs.2
  have HB := Lib.hid (fun w' h => build_any A len c qs nn w' h h8 hok (by omega))
  clear hok h
  go_enter Try.func28, Try.ntmps28
  go_wp2_with fail
  refine (hw _ hs).mono ?_
  rintro e w1 ⟨rfl, k1⟩
  go_wp2_with fail
  refine (HB.out _ (hs.kept k1)).mono ?_
  rintro e w2 ⟨B, A2, c2, rfl, hb, k2⟩
  have hln := rowsQ_len qs len
  have b0 := hb.2.1
  have hlt := hb.1
  go_wp2_with fail
  go_ret2
  exact ⟨rfl, k1.trans k2⟩
/-- what Guard answers -/
def RetGuard (w : World) (n : Int) (qs : List (BitVec 32)) (e : Ending) (w' : World) : Prop :=
  Kept w w' ∧ ((askF n qs 0#32 ≠ 0 ∧ e = .returned (.tuple #[.slice none 0 0, .int .i64 (askF n qs 0#32)])) ∨ (askF n qs 0#32 = 0 ∧ ∃ A c, e = .returned (.tuple #[.slice A qs.length c, .int .i64 0]) ∧ SlI w' A qs.length (codesG qs qs.length)))
theorem guard_bad (n : Int) (A : Option Addr) (len c : Nat) (qs : List (BitVec 32)) (w : World) (hs : SlW w A len qs) (h : askF n qs 0#32 ≠ 0) :
    Calls Try.prog 27 #[.int .i64 n, .slice A len c] w (RetGuard w n qs) := by
  have hw := fun w h => sumsWrong_any n A len c qs 0#32 w h
  rw [W_zero] at hw
  have hne : (askF n qs 0#32 != 0) = true := by simpa using h
  have HH := Lib.hid h
  clear h
  go_enter Try.func27, Try.ntmps27
  go_wp2_with fail
  refine (hw _ hs).mono ?_
  rintro e w1 ⟨rfl, k1⟩
  go_wp2_with fail
  go_ret2
  exact ⟨k1, .inl ⟨HH.out, rfl⟩⟩
theorem own_none {w0 w : World} {E : TypeId} {s n c : Nat} {A : Option Addr} {xs : List Value} (h : Own w0 w E s (.slice A n c) n xs) : (A = none → n = 0 ∧ c = 0) ∧ n ≤ c ∧ c ≤ maxLen := by
  rcases h.1.2 with ⟨hv, hn⟩ | ⟨g, cap, cur, hv, hb, hg, h1, h2, _⟩
  · injection hv with a b c
    subst hn c
    exact ⟨fun _ => ⟨rfl, rfl⟩, Nat.le_refl _, Nat.zero_le _⟩
  · injection hv with a b c
    subst c a
    exact ⟨(fun h => by cases h), h1, h2⟩
set_option maxRecDepth 100000 in
set_option maxHeartbeats 8000000 in
theorem guard_good (nn : Nat) (A : Option Addr) (len c : Nat) (qs : List (BitVec 32)) (w : World) (hs : SlW w A len qs) (h : askF nn qs 0#32 = 0) (h8 : nn ≤ 8) (hl : len ≤ 12) (hok : ∀ q ∈ qs, fitB nn q = true) :
    Calls Try.prog 27 #[.int .i64 nn, .slice A len c] w fun e w' => Kept w w' ∧ ∃ A c, e = .returned (.tuple #[.slice A len c, .int .i64 0]) ∧ SlI w' A len (codesG qs len) := by
  have hw := fun w h => sumsWrong_any nn A len c qs 0#32 w h
  rw [W_zero, h] at hw
  have HL := Lib.hid hs.2
  have HOK := Lib.hid hok
  clear h hok
  go_enter Try.func27, Try.ntmps27
  go_wp2_with fail
  refine (hw _ hs).mono ?_
  rintro e w1 ⟨rfl, k1⟩
  go_wp2_with fail
  go_loopw [7, 8, 20] (fun vg vc t wr => ∃ k : Nat, k ≤ len ∧ t = .int .i64 k ∧ Own w wr 23 1 vg (givenG qs k).length ((givenG qs k).map wv) ∧ Own w wr 24 1 vc k ((codesG qs k).map iv)) (fun _ _ t _ => len - (intOf t).toNat)
  case atStart => exact ⟨0, Nat.zero_le _, rfl, Own.start k1, Own.start k1⟩
  case round =>
    obtain ⟨k, hk, rfl, hg, hc⟩ := hrel
    by_cases hlt : k < len
    · obtain ⟨b, off, hkq, rfl, hb, cq⟩ := (hs.kept hg.kept0).get k hlt
      have HQ := Lib.hid (nth_eq qs k hkq)
      have hqf := HOK.out _ (List.getElem_mem hkq)
      have hgf := givenG_fit HOK.out k (by omega)
      have hgl := givenG_len qs k
      have HN := Lib.hid (show givenG qs (k + 1) = if gTold (givenG qs k) (nth qs k) == 0#32 then givenG qs k ++ [nth qs k] else givenG qs k from rfl)
      have HC := Lib.hid (codesG_snoc qs k)
      have HCG := Lib.hid (show codeG qs k = if gTold (givenG qs k) (nth qs k) == 0#32 then 0 else 7 from rfl)
      rw [HQ.out] at HN HCG
      generalize givenG qs k = g at hg hgf hgl HN HCG
      generalize qs[k] = q at cq HN HCG hqf
      obtain ⟨Ag, cg, rfl, hslg, hcg⟩ := hg.form
      obtain ⟨Ac, cc, rfl, hslc, hcc⟩ := hc.form
      obtain ⟨hnone, hle1, hle2⟩ := own_none hg
      have hi1 : (0 : Int) ≤ (k : Int) := by omega
      have hi2 : (k : Int) < (len : Int) := by omega
      have HG := Lib.hid hg
      have HCO := Lib.hid hc
      have HFAR := Lib.hid (hg.far2 hc (by decide))
      have HBU := Lib.hid (fun A c w' h => build_any A (g.length + 1) c (g ++ [q]) nn w' h h8 (snoc_fit hgf hqf) (by omega))
      have hcl := Lib.hid (fun w => clip_any Ag g.length cg w hle1 hle2 hnone)
      have HNONE := Lib.hid (fun h => (hnone h).1)
      clear hgf hqf hslc hg hc hnone hle1 hle2
      go_wp2_with fail
      refine (hcl.out _).mono ?_
      rintro e w2 ⟨rfl, rfl⟩
      go_wp2_with (at_builtin; refine wpList_pushFull rfl _ _ 40 rfl 23 Try.underlying40 info_u32 rfl (by decide) (by decide) _ Ag g.length (g.map wv) hslg HNONE.out HG.out.kept0 #[.int .u32 (W q)] 23 _ 1 1 rfl rfl rfl rfl (one_words [q]) (by decide) (by omega) ?_; intro v7 w7 hown7 hgr7; obtain ⟨A7, c7, rfl, hsl7, hc7⟩ := hown7.form; have G7 := Lib.hid (HG.out.grown_none hgr7); have C7 := Lib.hid (HCO.out.grown_none hgr7); have O7 := Lib.hid hown7; clear hown7)
      refine (HBU.out A7 c7 _ ⟨by simpa [wv] using hsl7, by simp⟩).mono ?_
      rintro e w8 ⟨B, A8, c8, rfl, hb8, k8⟩
      have hln8 := rowsQ_len (g ++ [q]) (g.length + 1)
      have HT := Lib.hid (show gTold g q = toldR (rowsQ (g ++ [q]) (g.length + 1)) from rfl)
      generalize rowsQ (g ++ [q]) (g.length + 1) = l at hb8 hln8 HT
      have HTOLD := Lib.hid (told_any B A8 l.length c8 l _ hb8 (by omega))
      clear hb8
      go_wp2_with fail
      refine HTOLD.out.mono ?_
      rintro e w9 ⟨rfl, k9⟩
      have k79 := k8.trans k9
      have G9 := Lib.hid (G7.out.kept k79)
      have C9 := Lib.hid (C7.out.kept k79)
      have O9 := Lib.hid (O7.out.kept k79)
      have OFAR := Lib.hid (O9.out.far2 C9.out (by decide))
      generalize toldR l = x at HT
      cases hz : (x == 0#32)
      · have HZ := Lib.hid (show (gTold g q == 0#32) = false by rw [HT.out, hz])
        have e0 : (x != 0#32) = true := by rw [bne, hz]; rfl
        go_wp2_with (at_builtin; refine wpList_push rfl _ _ 45 rfl 24 Try.underlying45 info_errno rfl (by decide) (by decide) _ _ _ _ C9.out #[.int .i64 7] 24 _ 1 1 rfl rfl rfl rfl (by intro u hu; simp at hu; subst hu; rfl) (by omega) ?_; intro v10 w10 hown10 hgr10; have G10 := Lib.hid ((G9.out.alloc _).grown hgr10 HFAR.out C9.out.since); have C10 := Lib.hid hown10; clear hown10 hgr10)
        go_roundw
        case rel => exact ⟨k + 1, by omega, by go_num, by rw [HN.out, HZ.out]; exact G10.out, by rw [HC.out, HCG.out, HZ.out, List.map_append]; exact C10.out⟩
        case measure => simp [intOf]; omega
      · have HZ := Lib.hid (show (gTold g q == 0#32) = true by rw [HT.out, hz])
        have e0 : (x != 0#32) = false := by rw [bne, hz]; rfl
        go_wp2_with (at_builtin; refine wpList_push rfl _ _ 45 rfl 24 Try.underlying45 info_errno rfl (by decide) (by decide) _ _ _ _ C9.out #[.int .i64 0] 24 _ 1 1 rfl rfl rfl rfl (by intro u hu; simp at hu; subst hu; rfl) (by omega) ?_; intro v10 w10 hown10 hgr10; have G10 := Lib.hid ((O9.out.alloc _).grown hgr10 OFAR.out C9.out.since); have C10 := Lib.hid hown10; clear hown10 hgr10)
        go_roundw
        case rel => exact ⟨k + 1, by omega, by go_num, by rw [HN.out, HZ.out]; simpa [wv] using G10.out, by rw [HC.out, HCG.out, HZ.out, List.map_append]; exact C10.out⟩
        case measure => simp [intOf]; omega
    · obtain rfl : k = len := by omega
      obtain ⟨Ac, cc, rfl, hslc, hcc⟩ := hc.form
      have FIN := Lib.hid (show SlI wr Ac k (codesG qs k) from ⟨hslc, by simp [codesG]⟩)
      have KW := Lib.hid hc.kept0
      clear hslc hg hc
      go_wp2_with fail
      go_ret2
      exact ⟨KW.out, Ac, cc, rfl, FIN.out⟩
theorem guard_any (n : Int) (A : Option Addr) (len c : Nat) (qs : List (BitVec 32)) (w : World) (hs : SlW w A len qs) :
    Calls Try.prog 27 #[.int .i64 n, .slice A len c] w (RetGuard w n qs) := by
  by_cases h : askF n qs 0#32 = 0
  · obtain ⟨nn, rfl, h1, h8, hl, hok⟩ := askF_zero h
    refine (guard_good nn A len c qs w hs h h8 (by rw [← hs.2]; exact hl) hok).mono ?_
    rintro e w1 ⟨k1, A1, c1, rfl, hsl⟩
    obtain rfl : qs.length = len := hs.2
    exact ⟨k1, .inr ⟨h, A1, c1, rfl, hsl⟩⟩
  · exact guard_bad n A len c qs w hs h
end Go.Proofs.Ytodkpojmonikiaa
