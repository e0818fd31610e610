/- The walks of package sums: Len32 at eight bits, less, told. -/
import Derived.Test.YtodkpojmonikiaaToldP
import Derived.Test.YtodkpojmonikiaaHold
import Derived.Test.YtodkpojmonikiaaSeat
import Derived.Test.YtodkpojmonikiaaQuiet
import Derived.Test.YtodkpojmonikiaaFirst
import Derived.BigRegion
namespace Go.Proofs.Ytodkpojmonikiaa
open Go Go.RowKit
set_option linter.unusedVariables false

set_option maxRecDepth 100000 in
theorem lenInt8 (x : Int) (h0 : 0 ≤ x) (h1 : x ≤ 255) (w : World) : Calls Try.prog 60 #[.int .u32 x] w fun e w' => e = .returned (.int .i64 (Lib.bitLen x.toNat)) ∧ w = w' := by
  have d1 : decide (65536 ≤ x) = false := by simp; omega
  have d2 : decide (256 ≤ x) = false := by simp; omega
  have e8 : x % 256 = x := by omega
  go_enter Try.func60, Try.ntmps60
  go_wp2_with fail
  go_ret
  refine ⟨congrArg Ending.returned (congrArg (Value.int IntKind.i64) ?_), rfl⟩
  obtain ⟨n, rfl⟩ := Int.eq_ofNat_of_zero_le h0
  have hl : Lib.len8 (n : Int) = (Lib.bitLen n : Int) := Lib.len8_eq ⟨n, by omega⟩
  have hl2 : Lib.bitLen n ≤ 8 := Lib.bitLen_le8 ⟨n, by omega⟩
  show wrap64 (wrap64 (Lib.len8 n)) = _
  rw [hl, Int.toNat_natCast]
  unfold wrap64
  omega
/-- the length of a word that is not 0: one more than its greatest bit -/
theorem len8_any (p : BitVec 32) (hp : fitB 8 p = true) (h0 : p ≠ 0#32) (w : World) : Calls Try.prog 60 #[.int .u32 (W p)] w fun e w' => e = .returned (.int .i64 ((topN p : Int) + 1)) ∧ w = w' := by
  have hlt := fit8_lt hp
  have h := lenInt8 (W p) (by unfold W; omega) (by unfold W; omega) w
  have e : (W p).toNat = p.toNat := by unfold W; omega
  rw [e, (top_spec hp h0).1] at h
  exact h
/-- the rows of a base: where its struct stands, they read as l -/
def SBase (w : World) (B : Nat) (A : Option Addr) (n c : Nat) (l : List Ru) : Prop := B < w.heap.size ∧ w.cell? ⟨B, 0, none⟩ = some (.slice A n c) ∧ SlR w A n l
theorem SBase.kept {w w' : World} {B : Nat} {A : Option Addr} {n c : Nat} {l : List Ru} (h : SBase w B A n c l) (k : Kept w w') : SBase w' B A n c l :=
  ⟨Nat.lt_of_lt_of_le h.1 k.size, (k.cell (p := ⟨B, 0, none⟩) h.1).trans h.2.1, h.2.2.kept k⟩
set_option maxHeartbeats 2000000 in
theorem less_any (B : Nat) (A : Option Addr) (n c : Nat) (l : List Ru) (r : Ru) (w : World) (hB : SBase w B A n c l) (hok : ∀ o ∈ l, fitB 8 o.1 = true ∧ o.1 ≠ 0#32) (hn : n ≤ 1000) :
    Calls Try.prog 58 #[.pointer (some ⟨B, 0, none⟩), .agg #[.int .u32 (W r.1), .int .u32 (W r.2)]] w fun e w' => e = .returned (.agg #[.int .u32 (W (lessR l r).1), .int .u32 (W (lessR l r).2)]) ∧ Kept w w' := by
  have HOK := Lib.hid hok
  clear hok
  have hka : Kept w ((w.alloc (.cells #[.int .u32 (W r.1), .int .u32 (W r.2)] 96)).alloc (.cells #[.int .u32 0, .int .u32 0] 96)) := ((Kept.refl _).alloc _).alloc _
  have hB2 := hB.kept hka
  have c0 := hB2.2.1
  have hr1 : Row w ((w.alloc (.cells #[.int .u32 (W r.1), .int .u32 (W r.2)] 96)).alloc (.cells #[.int .u32 0, .int .u32 0] 96)) w.heap.size 96 [.int .u32 (W r.1), .int .u32 (W r.2)] :=
    (Row.new (Kept.refl w) _ [.int .u32 (W r.1), .int .u32 (W r.2)] _ rfl).kept ((Kept.refl _).alloc _)
  have hr2 : Row w ((w.alloc (.cells #[.int .u32 (W r.1), .int .u32 (W r.2)] 96)).alloc (.cells #[.int .u32 0, .int .u32 0] 96)) (w.heap.size + 1) 96 [.int .u32 0, .int .u32 0] :=
    Row.new ((Kept.refl w).alloc _) _ [.int .u32 0, .int .u32 0] _ (by simp)
  go_enter Try.func58, Try.ntmps58
  go_wp2_with fail
  go_loopw [12] (fun t wr => ∃ (q : Nat) (x y : BitVec 32), q ≤ n ∧ t = .int .i64 q ∧ Row w wr w.heap.size 96 [.int .u32 (W x), .int .u32 (W y)] ∧ Row w wr (w.heap.size + 1) 96 [.int .u32 0, .int .u32 0] ∧ Hid (lessR (l.take q) r = (x, y))) (fun t _ => n - (intOf t).toNat)
  case atStart => exact ⟨0, r.1, r.2, Nat.zero_le _, rfl, hr1, hr2, Lib.hid rfl⟩
  case round =>
    obtain ⟨q, x, y, hq, rfl, h1, h2, HL⟩ := hrel
    by_cases hlt : q < n
    · obtain ⟨b, off, hk, rfl, hb, c1, c2⟩ := (hB.2.2.kept h1.kept0).get q hlt
      have hsn := Lib.hid (show lessR (l.take (q + 1)) r = cut1 (lessR (l.take q) r) l[q] from foldl_snoc cut1 r l q hk)
      have hfo := Lib.hid (HOK.out _ (List.getElem_mem hk))
      generalize l[q] = o at c1 c2 hsn hfo
      obtain ⟨p, z⟩ := o
      simp only at c1 c2
      have hfo2 := hfo.out
      simp only at hfo2
      have hi1 : (0 : Int) ≤ (q : Int) := by omega
      have hi2 : (q : Int) < (n : Int) := by omega
      have x0 := h1.cell 0 rfl
      have x1 := h1.cell 1 rfl
      have f0 := h1.free 0
      have f1 := h1.free 1
      have hka : Kept wr (wr.alloc (.cells #[.int .u32 (W p), .int .u32 (W z)] 96)) := (Kept.refl _).alloc _
      have h1a := h1.kept hka
      have h2a := h2.kept hka
      have bx := Box.new wr #[.int .u32 (W p), .int .u32 (W z)] 96 wr.heap.size rfl
      have e0 := bx.at_ 0 rfl
      have e1 := bx.at_ 1 rfl
      have q0 := kw_cell (h1a.cell 0 rfl)
      have q2 := kw_cell e0
      have hlen := fun w => len8_any p hfo2.1 hfo2.2 w
      obtain ⟨t, ht⟩ : ∃ t : Nat, topN p = t := ⟨_, rfl⟩
      have HT := Lib.hid ht
      rw [ht] at hlen
      have ht8 : t < 8 := by rw [← ht]; exact (top_spec hfo2.1 hfo2.2).2.1
      clear hfo hfo2 bx ht
      go_wp2_with fail
      refine wp_region_kept (by kernel_rfl) (by kernel_rfl) ?_
      repeat (go_big_quiet_step ((go_at_call 60; exact kept_of_same (hlen _))))
      refine wpQuiet_nil ?_
      intro w4 k4
      have h1b := h1a.kept k4
      have h2b := h2a.kept k4
      obtain ⟨_, bx2, _⟩ := boxes1 k4
      have e0 := bx2 0 _ rfl
      have e1 := bx2 1 _ rfl
      have x0 := h1b.cell 0 rfl
      have x1 := h1b.cell 1 rfl
      have f0 := h1b.free 0
      have f1 := h1b.free 1
      have hlt1 := h1.lt
      have hlt2 := h2.lt
      have hne : wr.heap.size ≠ w.heap.size := by omega
      clear q0 q2 bx2 h1a h2a
      cases hb : x.getLsbD t
      · have HB := Lib.hid hb
        go_wp2_with fail
        go_roundw
        case rel => exact ⟨q + 1, x, y, by omega, by go_num, h1b, h2b, Lib.hid (by rw [hsn.out, HL.out]; unfold cut1; rw [HT.out]; show (if x.getLsbD t = true then _ else _) = _; rw [HB.out]; rfl)⟩
        case measure => simp [intOf]; omega
      · have HB := Lib.hid hb
        have h1c := (h1b.set 0 (.int .u32 (W (x ^^^ p)))).set 1 (.int .u32 (W (y ^^^ z)))
        have h2c := (h2b.other (p := ⟨w.heap.size, 0, none⟩) (.int .u32 (W (x ^^^ p))) (by show w.heap.size + 1 ≠ w.heap.size; omega) (Nat.le_refl _)).other (p := ⟨w.heap.size, 1, none⟩) (.int .u32 (W (y ^^^ z))) (by show w.heap.size + 1 ≠ w.heap.size; omega) (Nat.le_refl _)
        have H1 := Lib.hid h1c
        have H2 := Lib.hid h2c
        clear h1c h2c
        go_wp2_with fail
        go_roundw
        case rel => exact ⟨q + 1, x ^^^ p, y ^^^ z, by omega, by go_num, H1.out, H2.out, Lib.hid (by rw [hsn.out, HL.out]; unfold cut1; rw [HT.out]; show (if x.getLsbD t = true then _ else _) = _; rw [HB.out]; rfl)⟩
        case measure => simp [intOf]; omega
    · have HE := Lib.hid (show lessR l r = (x, y) by
        have := HL.out
        rwa [take_all l q (by rw [hB.2.2.2]; omega)] at this)
      have x0 := h1.cell 0 rfl
      have x1 := h1.cell 1 rfl
      have y0 := h2.cell 0 rfl
      have y1 := h2.cell 1 rfl
      have f0 := h2.free 0
      have f1 := h2.free 1
      have HY0 := Lib.hid y0
      have HY1 := Lib.hid y1
      have HK := Lib.hid (show Kept w ((wr.setCell ⟨w.heap.size + 1, 0, none⟩ (.int .u32 (W x))).setCell ⟨w.heap.size + 1, 1, none⟩ (.int .u32 (W y))) from
        (h1.kept0.setCell (p := ⟨w.heap.size + 1, 0, none⟩) (by show w.heap.size ≤ w.heap.size + 1; omega) _).setCell (p := ⟨w.heap.size + 1, 1, none⟩) (by show w.heap.size ≤ w.heap.size + 1; omega) _)
      go_wp2_with fail
      exact bodyPost_ret (v := .agg #[.int .u32 (W x), .int .u32 (W y)]) (by simp [results, Try.results58, go_sem, HY0.out, HY1.out]) rfl ⟨by rw [HE.out], HK.out⟩
set_option maxHeartbeats 1000000 in
theorem told_any (B : Nat) (A : Option Addr) (n c : Nat) (l : List Ru) (w : World) (hB : SBase w B A n c l) (hn : n ≤ 1000) :
    Calls Try.prog 54 #[.pointer (some ⟨B, 0, none⟩)] w fun e w' => e = .returned (.int .u32 (W (toldR l))) ∧ Kept w w' := by
  have c0 := hB.2.1
  go_enter Try.func54, Try.ntmps54
  go_wp2_with fail
  go_loopw [3, 11] (fun v t wr => ∃ q : Nat, q ≤ n ∧ t = .int .i64 q ∧ v = .int .u32 (W (toldR (l.take q))) ∧ Kept w wr) (fun _ t _ => n - (intOf t).toNat)
  case atStart => exact ⟨0, Nat.zero_le _, rfl, rfl, Kept.refl _⟩
  case round =>
    obtain ⟨q, hq, rfl, rfl, hkw⟩ := hrel
    by_cases hlt : q < n
    · obtain ⟨b, off, hk, rfl, hb, c1, c2⟩ := (hB.2.2.kept hkw).get q hlt
      have hsn := Lib.hid (show toldR (l.take (q + 1)) = tell1 (toldR (l.take q)) l[q] from foldl_snoc tell1 0#32 l q hk)
      generalize l[q] = o at c1 c2 hsn
      obtain ⟨p, z⟩ := o
      simp only at c1 c2
      obtain ⟨s, hs⟩ : ∃ s, toldR (l.take q) = s := ⟨_, rfl⟩
      rw [hs] at hsn
      rw [hs]
      have hi1 : (0 : Int) ≤ (q : Int) := by omega
      have hi2 : (q : Int) < (n : Int) := by omega
      have hka := hkw.alloc (.cells #[.int .u32 (W p), .int .u32 (W z)] 96)
      clear hs
      cases hp : (p &&& (p - 1#32) == 0#32)
      · have HP := Lib.hid hp
        go_wp2_with fail
        go_roundw
        case rel => exact ⟨q + 1, by omega, by go_num, by rw [hsn.out]; unfold tell1 oneB; show _ = Value.int .u32 (W (if (p &&& (p - 1#32) == 0#32) = true then _ else _)); rw [HP.out]; rfl, hka⟩
        case measure => simp [intOf]; omega
      · have HP := Lib.hid hp
        go_wp2_with fail
        go_roundw
        case rel => exact ⟨q + 1, by omega, by go_num, by rw [hsn.out]; unfold tell1 oneB; show _ = Value.int .u32 (W (if (p &&& (p - 1#32) == 0#32) = true then _ else _)); rw [HP.out]; rfl, hka⟩
        case measure => simp [intOf]; omega
    · have HE := Lib.hid (take_all l q (by rw [hB.2.2.2]; omega))
      go_wp2_with fail
      go_ret
      exact ⟨by rw [HE.out]; rfl, hkw⟩
end Go.Proofs.Ytodkpojmonikiaa
