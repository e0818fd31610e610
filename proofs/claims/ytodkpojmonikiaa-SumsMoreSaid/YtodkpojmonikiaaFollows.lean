/- The walks of math/bits.Len32 at any word, sums.reduced, sums.Follows. -/
import Derived.Test.YtodkpojmonikiaaAsk
import Derived.Test.YtodkpojmonikiaaRedP
namespace Go.Proofs.Ytodkpojmonikiaa
open Go Go.RowKit
set_option linter.unusedVariables false

/-! ### the length of a word -/
theorem len8_at (n : Nat) (h : n ≤ 255) : Lib.len8 (n : Int) = (Lib.bitLen n : Int) ∧ Lib.bitLen n ≤ 8 := ⟨Lib.len8_eq ⟨n, by omega⟩, Lib.bitLen_le8 ⟨n, by omega⟩⟩
theorem bitLen_shift {n k : Nat} (hn : n < 4294967296) (hk : k ≤ 24) (h : n / 2 ^ k ≠ 0) : Lib.bitLen n = Lib.bitLen (n / 2 ^ k) + k := by
  have h0 : n ≠ 0 := fun e => h (by rw [e]; simp)
  have e1 : ∀ x, Lib.bitLen x = Lib.bitLenAux 64 x := fun _ => rfl
  have hlt : n / 2 ^ k ≤ n := Nat.div_le_self _ _
  obtain ⟨a1, a2, a3⟩ := Lib.bitLenAux_bounds 64 n (by omega) h0
  obtain ⟨b1, b2, b3⟩ := Lib.bitLenAux_bounds 64 (n / 2 ^ k) (by omega) h
  rw [e1, e1]
  generalize Lib.bitLenAux 64 n = x at a1 a2 a3 ⊢
  generalize Lib.bitLenAux 64 (n / 2 ^ k) = y at b1 b2 b3 ⊢
  have hp : 0 < 2 ^ k := Nat.two_pow_pos k
  have c1 : n < 2 ^ (y + k) := by
    rw [Nat.pow_add]
    exact (Nat.div_lt_iff_lt_mul hp).1 b3
  have c2 : 2 ^ (y - 1 + k) ≤ n := by
    rw [Nat.pow_add]
    exact (Nat.le_div_iff_mul_le hp).1 b2
  have d1 : x - 1 < y + k := (Nat.pow_lt_pow_iff_right (by omega : 1 < 2)).1 (Nat.lt_of_le_of_lt a2 c1)
  have d2 : y - 1 + k < x := (Nat.pow_lt_pow_iff_right (by omega : 1 < 2)).1 (Nat.lt_of_le_of_lt c2 a3)
  omega
theorem len_fin {k n z : Nat} (hk : k ≤ 24) (hz : z ≤ 255) (h : Lib.bitLen n = Lib.bitLen z + k) : wrap64 ((k : Int) + wrap64 (Lib.len8 (z : Int))) = ((Lib.bitLen n : Nat) : Int) := by
  obtain ⟨h1, h2⟩ := len8_at z hz
  rw [h1, h]
  unfold wrap64
  omega
set_option maxRecDepth 100000 in
theorem lenAny (x : Int) (h0 : 0 ≤ x) (h1 : x < 4294967296) (w : World) : Calls Try.prog 60 #[.int .u32 x] w fun e w' => e = .returned (.int .i64 (Lib.bitLen x.toNat)) ∧ w = w' := by
  obtain ⟨m, rfl⟩ := Int.eq_ofNat_of_zero_le h0
  rw [Int.toNat_natCast]
  by_cases h16 : 65536 ≤ m
  · have d1 : decide (65536 ≤ (m : Int)) = true := by simp; omega
    obtain ⟨y, hy⟩ : ∃ y : Nat, m / 65536 = y := ⟨_, rfl⟩
    have hy2 : (m : Int) / 65536 = (y : Int) := by omega
    by_cases h8 : 256 ≤ y
    · have d2 : decide (256 ≤ (y : Int)) = true := by simp; omega
      obtain ⟨z, hz⟩ : ∃ z : Nat, y / 256 = z := ⟨_, rfl⟩
      have hz2 : (y : Int) / 256 = (z : Int) := by omega
      have hzl : (z : Int) ≤ 255 := by omega
      have ez : (z : Int) % 256 = (z : Int) := by omega
      have HX := Lib.hid (len_fin (k := 24) (n := m) (z := z) (by omega) (by omega) (by have e : m / 2 ^ 24 = z := by omega
                                                                                        have := bitLen_shift (n := m) (k := 24) (by omega) (by omega) (by omega)
                                                                                        rw [e] at this; exact this))
      clear hy hz
      go_enter Try.func60, Try.ntmps60
      go_wp2_with fail
      go_ret
      exact ⟨congrArg Ending.returned (congrArg (Value.int IntKind.i64) HX.out), rfl⟩
    · have d2 : decide (256 ≤ (y : Int)) = false := by simp; omega
      have hyl : (y : Int) ≤ 255 := by omega
      have ey : (y : Int) % 256 = (y : Int) := by omega
      have HX := Lib.hid (len_fin (k := 16) (n := m) (z := y) (by omega) (by omega) (by have e : m / 2 ^ 16 = y := by omega
                                                                                        have := bitLen_shift (n := m) (k := 16) (by omega) (by omega) (by omega)
                                                                                        rw [e] at this; exact this))
      clear hy
      go_enter Try.func60, Try.ntmps60
      go_wp2_with fail
      go_ret
      exact ⟨congrArg Ending.returned (congrArg (Value.int IntKind.i64) HX.out), rfl⟩
  · have d1 : decide (65536 ≤ (m : Int)) = false := by simp; omega
    by_cases h8 : 256 ≤ m
    · have d2 : decide (256 ≤ (m : Int)) = true := by simp; omega
      obtain ⟨z, hz⟩ : ∃ z : Nat, m / 256 = z := ⟨_, rfl⟩
      have hz2 : (m : Int) / 256 = (z : Int) := by omega
      have hzl : (z : Int) ≤ 255 := by omega
      have ez : (z : Int) % 256 = (z : Int) := by omega
      have HX := Lib.hid (len_fin (k := 8) (n := m) (z := z) (by omega) (by omega) (by have e : m / 2 ^ 8 = z := by omega
                                                                                       have := bitLen_shift (n := m) (k := 8) (by omega) (by omega) (by omega)
                                                                                       rw [e] at this; exact this))
      clear hz
      go_enter Try.func60, Try.ntmps60
      go_wp2_with fail
      go_ret
      exact ⟨congrArg Ending.returned (congrArg (Value.int IntKind.i64) HX.out), rfl⟩
    · have d2 : decide (256 ≤ (m : Int)) = false := by simp; omega
      have hyl : (m : Int) ≤ 255 := by omega
      have ey : (m : Int) % 256 = (m : Int) := by omega
      have HX := Lib.hid (len_fin (k := 0) (n := m) (z := m) (by omega) (by omega) rfl)
      go_enter Try.func60, Try.ntmps60
      go_wp2_with fail
      go_ret
      refine ⟨congrArg Ending.returned (congrArg (Value.int IntKind.i64) ?_), rfl⟩
      have h := HX.out
      rw [show ((0 : Nat) : Int) + wrap64 (Lib.len8 (m : Int)) = wrap64 (Lib.len8 (m : Int)) by omega] at h
      exact h
/-- the length of a word that is not 0: one more than its greatest bit -/
theorem lenz_any (p : BitVec 32) (h0 : p ≠ 0#32) (w : World) : Calls Try.prog 60 #[.int .u32 (W p)] w fun e w' => e = .returned (.int .i64 ((topN p : Int) + 1)) ∧ w = w' := by
  have hlt := p.isLt
  have h := lenAny (W p) (by unfold W; omega) (by unfold W; omega) w
  have e : (W p).toNat = p.toNat := by unfold W; omega
  rw [e, (topz h0).1] at h
  exact h
/-! ### reduced -/
set_option maxRecDepth 100000 in
set_option maxHeartbeats 8000000 in
theorem reduced_any (A : Option Addr) (m c : Nat) (zw : List (BitVec 32)) (w : World) (hs : SlW w A m zw) (hm : m ≤ 20) :
    Calls Try.prog 59 #[.slice A m c] w fun e w' => ∃ A2 c2, e = .returned (.slice A2 (redZ zw m).length c2) ∧ SlW w' A2 (redZ zw m).length (redZ zw m) ∧ Kept w w' := by
  have HREF := Lib.hid (redZ_ref zw)
  have HLN := Lib.hid (redZ_len zw)
  go_enter Try.func59, Try.ntmps59
  go_wp2_with fail
  go_loopw [3, 12] (fun v t wr => ∃ k : Nat, k ≤ m ∧ t = .int .i64 k ∧ Own w wr 23 1 v (redZ zw k).length ((redZ zw k).map wv)) (fun _ t _ => m - (intOf t).toNat)
  case atStart => exact ⟨0, Nat.zero_le _, rfl, Own.start (Kept.refl _)⟩
  case round =>
    obtain ⟨k, hk, rfl, hown⟩ := hrel
    by_cases hlt : k < m
    · obtain ⟨b, off, rfl, hb, cq⟩ := (hs.kept hown.kept0).getN k hlt
      have HNX := Lib.hid (show redZ zw (k + 1) = if lessZ (redZ zw k) (nth zw k) == 0#32 then redZ zw k else fixZ (lessZ (redZ zw k) (nth zw k)) (redZ zw k).length (redZ zw k) ++ [lessZ (redZ zw k) (nth zw k)] from rfl)
      have HR := Lib.hid (HREF.out k)
      have hln := HLN.out k
      generalize redZ zw k = l at hown HNX HR hln
      generalize nth zw k = z0 at cq HNX
      obtain ⟨A2, c2, rfl, hsl, hc2⟩ := hown.form
      have HSL := Lib.hid (show SlW wr A2 l.length l from ⟨hsl, rfl⟩)
      have hi1 : (0 : Int) ≤ (k : Int) := by omega
      have hi2 : (k : Int) < (m : Int) := by omega
      have HOWN := Lib.hid hown
      clear hown hsl
      go_wp2_with fail
      go_loop [5, 18] (fun v t => ∃ q : Nat, q ≤ l.length ∧ t = .int .i64 q ∧ v = .int .u32 (W (lessZ (l.take q) z0))) (fun _ t => l.length - (intOf t).toNat)
      case atStart => exact ⟨0, Nat.zero_le _, rfl, rfl⟩
      case round =>
        obtain ⟨q, hq, rfl, rfl⟩ := hrel
        by_cases hltq : q < l.length
        · obtain ⟨b2, o2, hkq, rfl, hb2, cl⟩ := HSL.out.get q hltq
          have HSN := Lib.hid (show lessZ (l.take (q + 1)) z0 = cutZ (lessZ (l.take q) z0) l[q] from foldl_snoc cutZ z0 l q hkq)
          have hne := HR.out.1 q hkq
          generalize l[q] = o at cl HSN hne
          generalize lessZ (l.take q) z0 = y at HSN
          have HLEN := Lib.hid (fun w => lenz_any o hne w)
          have ht32 : topN o ≤ 31 := by have := (topz hne).2.1; omega
          have HCUT := Lib.hid (show cutZ y o = if y.getLsbD (topN o) then y ^^^ o else y from rfl)
          generalize topN o = t at HLEN ht32 HCUT
          have hq1 : (0 : Int) ≤ (q : Int) := by omega
          have hq2 : (q : Int) < (l.length : Int) := by omega
          clear hne
          cases hbb : y.getLsbD t
          all_goals
            have HB := Lib.hid hbb
            go_wp2_with fail
            refine (HLEN.out _).mono ?_
            rintro e w1 ⟨rfl, rfl⟩
            go_wp2_with fail
            go_round
            case rel => exact ⟨q + 1, by omega, by go_num, by rw [HSN.out, HCUT.out, HB.out]; rfl⟩
            case measure => simp [intOf]; omega
        · obtain rfl : q = l.length := by omega
          rw [List.take_length]
          have HZ := Lib.hid (lessZ_all HR.out z0)
          generalize lessZ l z0 = x at HNX HZ
          cases hx0 : (x == 0#32)
          · have HX0 := Lib.hid hx0
            have hxne : x ≠ 0#32 := by simpa using hx0
            have HLEN := Lib.hid (fun w => lenz_any x hxne w)
            have ht32 : topN x ≤ 31 := by have := (topz hxne).2.1; omega
            have HCUT := Lib.hid (show ∀ o, cutZ o x = if o.getLsbD (topN x) then o ^^^ x else o from fun _ => rfl)
            generalize topN x = t at HLEN ht32 HCUT
            have HNX2 := Lib.hid (show redZ zw (k + 1) = fixZ x l.length l ++ [x] by rw [HNX.out, HX0.out]; rfl)
            clear hxne
            go_wp2_with fail
            go_loopw [37] (fun v wr2 => ∃ j : Nat, j ≤ l.length ∧ v = .int .i64 j ∧ Own w wr2 23 1 (.slice A2 l.length c2) l.length ((fixZ x j l).map wv)) (fun v _ => l.length - (intOf v).toNat)
            case atStart => exact ⟨0, Nat.zero_le _, rfl, by rw [fixZ_zero]; exact HOWN.out⟩
            case round =>
              obtain ⟨j, hj, rfl, ho⟩ := hrel
              by_cases hltj : j < l.length
              · obtain ⟨g, rfl, hg0, hglt⟩ := ho.block (by omega)
                have cj := ho.cell j (u := .int .u32 (W l[j])) (by rw [List.getElem?_map, List.getElem?_eq_getElem (by rw [fixZ_length]; exact hltj), fixZ_at hltj, if_neg (Nat.lt_irrefl j)]; rfl)
                have fj := ho.free j
                have HSAME := Lib.hid (fixZ_same (x := x) hltj)
                have HSET := Lib.hid (fixZ_set (x := x) hltj)
                have HPUT := Lib.hid (fun u => ho.put j (.int .u32 (W u)))
                have HO := Lib.hid ho
                generalize l[j] = o at cj HSAME HSET
                have hj1 : (0 : Int) ≤ (j : Int) := by omega
                have hj2 : (j : Int) < (l.length : Int) := by omega
                clear ho
                cases hbb : o.getLsbD t
                · have HB := Lib.hid (show cutZ o x = o by rw [HCUT.out, hbb]; rfl)
                  go_wp2_with fail
                  refine (HLEN.out _).mono ?_
                  rintro e w1 ⟨rfl, rfl⟩
                  go_wp2_with fail
                  go_roundw
                  case rel => exact ⟨j + 1, by omega, by go_num, by rw [HSAME.out HB.out]; exact HO.out⟩
                  case measure => simp [intOf]; omega
                · have HB := Lib.hid (show cutZ o x = o ^^^ x by rw [HCUT.out, hbb]; rfl)
                  go_wp2_with fail
                  refine (HLEN.out _).mono ?_
                  rintro e w1 ⟨rfl, rfl⟩
                  go_wp2_with fail
                  go_roundw
                  case rel => exact ⟨j + 1, by omega, by go_num, by rw [HSET.out, HB.out, List.map_set]; exact HPUT.out _⟩
                  case measure => simp [intOf]; omega
              · obtain rfl : j = l.length := by omega
                have HLL := Lib.hid (show (redZ zw (k + 1)).length = l.length + 1 by rw [HNX2.out, List.length_append, fixZ_length]; rfl)
                have HO := Lib.hid ho
                clear ho
                go_wp2_with (at_builtin; refine wpList_push rfl _ _ 40 rfl 23 Try.underlying40 info_u32 rfl (by decide) (by decide) _ _ _ _ HO.out #[.int .u32 (W x)] _ _ 1 1 rfl rfl rfl rfl (one_words [x]) (by omega) ?_; intro v' w7 hown7 _)
                go_roundw
                case rel => exact ⟨k + 1, by omega, by go_num, by rw [HLL.out, HNX2.out, List.map_append]; exact hown7⟩
                case measure => simp [intOf]; omega
          · have HNX2 := Lib.hid (show redZ zw (k + 1) = l by rw [HNX.out, hx0]; rfl)
            go_wp2_with fail
            go_roundw
            case rel => exact ⟨k + 1, by omega, by go_num, by rw [HNX2.out]; exact HOWN.out⟩
            case measure => simp [intOf]; omega
    · obtain rfl : k = m := by omega
      obtain ⟨A2, c2, rfl, hsl, _⟩ := hown.form
      have FIN := Lib.hid (show SlW wr A2 (redZ zw k).length (redZ zw k) ∧ Kept w wr from ⟨⟨hsl, rfl⟩, hown.kept0⟩)
      go_wp2_with fail
      go_ret
      exact ⟨A2, c2, rfl, FIN.out.1, FIN.out.2⟩
/-! ### Left -/
def RetLeft (w : World) (n : Int) (qs : List (BitVec 32)) (e : Ending) (w' : World) : Prop :=
  Kept w w' ∧ ((askF n qs 0#32 ≠ 0 ∧ e = .returned (.tuple #[.int .i64 0, .int .i64 (askF n qs 0#32)])) ∨ (askF n qs 0#32 = 0 ∧ e = .returned (.tuple #[.int .i64 (n - ((rowsQ qs qs.length).length : Int)), .int .i64 0])))
theorem sumsLeft_any (n : Int) (A : Option Addr) (len c : Nat) (qs : List (BitVec 32)) (w : World) (hs : SlW w A len qs) :
    Calls Try.prog 28 #[.int .i64 n, .slice A len c] w (RetLeft w n qs) := by
  have hw := fun w h => sumsWrong_any n A len c qs 0#32 w h
  rw [W_zero] at hw
  by_cases h0 : askF n qs 0#32 = 0
  · obtain ⟨nn, rfl, h1, h8, hl, hok⟩ := askF_zero h0
    have hl2 := hs.2
    have HB := Lib.hid (fun w' h => build_any A len c qs nn w' h h8 hok (by omega))
    have H0 := Lib.hid h0
    clear hok h0
    go_enter Try.func28, Try.ntmps28
    go_wp2_with fail
    refine (hw _ hs).mono ?_
    rintro e w1 ⟨rfl, k1⟩
    rw [H0.out]
    go_wp2_with fail
    refine (HB.out _ (hs.kept k1)).mono ?_
    rintro e w2 ⟨B, A2, c2, rfl, hb, k2⟩
    rw [← hl2] at hb
    have hln := rowsQ_len qs qs.length
    have hfin := Lib.hid (show RetLeft w nn qs (.returned (.tuple #[.int .i64 ((nn : Int) - ((rowsQ qs qs.length).length : Int)), .int .i64 0])) w2 from ⟨k1.trans k2, .inr ⟨H0.out, rfl⟩⟩)
    have b0 := hb.2.1
    generalize (rowsQ qs qs.length).length = m at hln hfin b0
    clear hb
    go_wp2_with fail
    go_ret2
    exact hfin.out
  · have H0 := Lib.hid h0
    have hne : (askF n qs 0#32 != 0) = true := by simpa using h0
    clear h0
    go_enter Try.func28, Try.ntmps28
    go_wp2_with fail
    refine (hw _ hs).mono ?_
    rintro e w1 ⟨rfl, k1⟩
    go_wp2_with fail
    go_ret2
    exact ⟨k1, .inl ⟨H0.out, rfl⟩⟩
/-! ### Follows -/
def RetFol (w : World) (n : Int) (qs : List (BitVec 32)) (s : BitVec 32) (e : Ending) (w' : World) : Prop :=
  Kept w w' ∧ ((lessR (rowsQ qs qs.length) (s, 0#32)).1 = 0#32 ∧ (∃ A k c, e = .returned (.tuple #[.slice A k c, .int .i64 0])) ∨ ((lessR (rowsQ qs qs.length) (s, 0#32)).1 ≠ 0#32 ∧ e = .returned (.tuple #[.slice none 0 0, .int .i64 5])))
set_option maxRecDepth 100000 in
set_option maxHeartbeats 8000000 in
theorem sumsFol_any (n : Int) (A : Option Addr) (len c : Nat) (qs : List (BitVec 32)) (s : BitVec 32) (w : World) (hs : SlW w A len qs) (h0 : askF n qs s = 0) :
    Calls Try.prog 29 #[.int .i64 n, .slice A len c, .int .u32 (W s)] w (RetFol w n qs s) := by
  have hw := Lib.hid (sumsWrong_any n A len c qs s w hs)
  rw [h0] at hw
  obtain ⟨nn, rfl, h1, h8, hl, hok⟩ := askF_zero h0
  have hl2 := hs.2
  have hl12 : len ≤ 12 := by omega
  have HB := Lib.hid (fun w' h => buildZ_any A len c qs nn w' h h8 hok (by omega))
  have HR := Lib.hid (rowsQ_ref (n := nn) (qs := qs) h8 hok qs.length (Nat.le_refl _))
  have hln := rowsQ_len qs qs.length
  clear hok h0
  go_enter Try.func29, Try.ntmps29
  go_wp2_with fail
  refine hw.out.mono ?_
  rintro e w1 ⟨rfl, k1⟩
  go_wp2_with fail
  refine (HB.out _ (hs.kept k1)).mono ?_
  rintro e w2 ⟨B, A2, c2, rfl, hbz, k2⟩
  rw [← hl2] at hbz
  obtain ⟨hb, A3, m, c3, zw, b1, hz, hm⟩ := hbz
  have HFIN := Lib.hid (show ∀ e w', Kept w w' → ((lessR (rowsQ qs qs.length) (s, 0#32)).1 = 0#32 ∧ (∃ A k c, e = .returned (.tuple #[.slice A k c, .int .i64 0])) ∨ ((lessR (rowsQ qs qs.length) (s, 0#32)).1 ≠ 0#32 ∧ e = .returned (.tuple #[.slice none 0 0, .int .i64 5]))) → RetFol w nn qs s e w' from fun e w' h1 h2 => ⟨h1, h2⟩)
  have HOK := Lib.hid (show ∀ o ∈ rowsQ qs qs.length, fitB 8 o.1 = true ∧ o.1 ≠ 0#32 from fun o ho => by
    obtain ⟨i, hi, rfl⟩ := List.getElem_of_mem ho
    exact ⟨fit_eight h8 (HR.out.1 i hi).2, (HR.out.1 i hi).1⟩)
  generalize rowsQ qs qs.length = l at hb hln HFIN HOK HR
  have HLESS := Lib.hid (less_any B A2 l.length c2 l (s, 0#32) w2 hb HOK.out (by omega))
  generalize lessR l (s, 0#32) = r at HLESS HFIN
  obtain ⟨x, y⟩ := r
  have HK2 := Lib.hid (k1.trans k2)
  have HZ := Lib.hid hz
  have HB1 := Lib.hid b1
  have HBL := Lib.hid hb.1
  clear hz b1 hb k1 k2
  go_wp2_with fail
  refine HLESS.out.mono ?_
  rintro e w3 ⟨rfl, k3⟩
  have kb := k3.alloc (.cells #[.int .u32 (W x), .int .u32 (W y)] 96)
  have bx := Box.new w3 #[.int .u32 (W x), .int .u32 (W y)] 96 w3.heap.size rfl
  have e0 := bx.at_ 0 rfl
  have e1 := bx.at_ 1 rfl
  have b1 := (kb.cell (p := ⟨B, 1, none⟩) HBL.out).trans HB1.out
  have HZ4 := Lib.hid (HZ.out.kept kb)
  have HK4 := Lib.hid (HK2.out.trans kb)
  obtain ⟨w4, hw4⟩ : ∃ w4, w3.alloc (.cells #[.int .u32 (W x), .int .u32 (W y)] 96) = w4 := ⟨_, rfl⟩
  rw [hw4] at e0 e1 b1 HZ4 HK4
  clear bx k3 kb HLESS
  cases hx0 : (x == 0#32)
  · have hx1 : (x != 0#32) = true := by simpa using hx0
    have HX := Lib.hid (show x ≠ 0#32 by simpa using hx0)
    clear hx0
    go_wp2_with fail
    go_ret2
    exact HFIN.out _ _ HK4.out (.inr ⟨HX.out, rfl⟩)
  · have hx1 : (x != 0#32) = false := by simpa using hx0
    have HX := Lib.hid (show x = 0#32 by simpa using hx0)
    have HRED := Lib.hid (reduced_any A3 m c3 zw w4 HZ4.out hm)
    have HRF := Lib.hid (redZ_ref zw m)
    have hrl := redZ_len zw m
    clear hx0
    go_wp2_with fail
    refine HRED.out.mono ?_
    rintro e w5 ⟨A5, c5, rfl, h5, k5⟩
    generalize redZ zw m = rz at h5 HRF hrl
    have H5 := Lib.hid h5
    have HK5 := Lib.hid (HK4.out.trans k5)
    clear h5 k5 e0 e1 b1 hx1 hw4
    go_wp2_with fail
    go_loop [11, 40] (fun v t => ∃ (q : Nat) (by_ : BitVec 32), q ≤ rz.length ∧ t = .int .i64 q ∧ v = .int .u32 (W by_)) (fun _ t => rz.length - (intOf t).toNat)
    case atStart => exact ⟨0, y, Nat.zero_le _, rfl, rfl⟩
    case round =>
      obtain ⟨q, by_, hq, rfl, rfl⟩ := hrel
      by_cases hltq : q < rz.length
      · obtain ⟨b2, o2, hkq, rfl, hb2, cl⟩ := H5.out.get q hltq
        have hne := HRF.out.1 q hkq
        generalize rz[q] = o at cl hne
        have HLEN := Lib.hid (fun w => lenz_any o hne w)
        have ht32 : topN o ≤ 31 := by have := (topz hne).2.1; omega
        generalize topN o = t at HLEN ht32
        have hq1 : (0 : Int) ≤ (q : Int) := by omega
        have hq2 : (q : Int) < (rz.length : Int) := by omega
        clear hne
        cases hbb : by_.getLsbD t
        all_goals
          go_wp2_with fail
          refine (HLEN.out _).mono ?_
          rintro e w6 ⟨rfl, rfl⟩
          go_wp2_with fail
          go_round
          case rel => exact ⟨q + 1, _, by omega, by go_num, rfl⟩
          case measure => simp [intOf]; omega
      · go_wp2_with fail
        go_loopw [14, 57] (fun v t wr => ∃ (i k : Nat) (xs : List Value), i ≤ len ∧ k ≤ i ∧ t = .int .i64 i ∧ Own w5 wr 3 1 v k xs) (fun _ t _ => len - (intOf t).toNat)
        case atStart => exact ⟨0, 0, [], Nat.zero_le _, Nat.le_refl _, rfl, Own.start (Kept.refl _)⟩
        case round =>
          obtain ⟨i, k, xs, hi, hki, rfl, ho⟩ := hrel
          have HO := Lib.hid ho
          clear ho
          by_cases hlti : i < len
          · have hi31 : i ≤ 31 := by omega
            cases hbb : by_.getLsbD i
            · go_wp2_with fail
              go_roundw
              case rel => exact ⟨i + 1, k, xs, by omega, by omega, by go_num, HO.out⟩
              case measure => simp [intOf]; omega
            · go_wp2_with (at_builtin; refine wpList_push rfl _ _ 22 rfl 3 Try.underlying22 info_i64 rfl (by decide) (by decide) _ _ _ _ HO.out #[.int .i64 i] _ _ 1 1 rfl rfl rfl rfl (one_i64 _) (by omega) ?_; intro v' w7 hown7 _)
              go_roundw
              case rel => exact ⟨i + 1, k + 1, _, by omega, by omega, by go_num, hown7⟩
              case measure => simp [intOf]; omega
          · obtain ⟨A8, c8, rfl, _, _⟩ := HO.out.form
            have HKR := Lib.hid (HK5.out.trans HO.out.kept0)
            go_wp2_with fail
            go_ret2
            exact HFIN.out _ _ HKR.out (.inl ⟨HX.out, _, _, _, rfl⟩)
end Go.Proofs.Ytodkpojmonikiaa
