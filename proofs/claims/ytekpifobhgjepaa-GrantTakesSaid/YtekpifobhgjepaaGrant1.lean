/- The walks of what the statements ask of edges (EdgesCheck, Over), and of grant.build. -/
import Derived.Test.YtekpifobhgjepaaEdge
import Derived.Test.YtekpifobhgjepaaMx
import Derived.Test.YtekpifobhgjepaaOnes
import Derived.StillTailTactics
namespace Go.Proofs.Ytekpifobhgjepaa
open Go Go.RowKit
set_option linter.unusedVariables false
set_option linter.unusedSimpArgs false

theorem edge_large {n : Int} {es : List Ed} (h : n < 1 ∨ 6 < n ∨ 20 < es.length) : edgeF n es = 1 := by unfold edgeF; rw [if_pos h]
theorem edge_arg {n : Int} {es : List Ed} (h : ¬ (n < 1 ∨ 6 < n ∨ 20 < es.length)) {k : Nat} (hk : k < es.length) (hno : edOk n es[k] = false) : edgeF n es = 2 := by
  unfold edgeF
  rw [if_neg h, if_pos]
  rw [List.all_eq_false]
  exact ⟨_, List.getElem_mem hk, by simp [hno]⟩
theorem edge_ok {n : Int} {es : List Ed} (h : ¬ (n < 1 ∨ 6 < n ∨ 20 < es.length)) (ha : es.all (edOk n) = true) : edgeF n es = 0 := by
  unfold edgeF
  rw [if_neg h, if_neg (by rw [ha]; simp)]
theorem edOk_no {n : Int} {e : Ed} (h : edOk n e = false) : e.1 < 0 ∨ (¬ e.1 < 0 ∧ n ≤ e.1) ∨ (¬ e.1 < 0 ∧ ¬ n ≤ e.1 ∧ e.2.1 < 0) ∨ (¬ e.1 < 0 ∧ ¬ n ≤ e.1 ∧ ¬ e.2.1 < 0 ∧ n ≤ e.2.1) ∨ (¬ e.1 < 0 ∧ ¬ n ≤ e.1 ∧ ¬ e.2.1 < 0 ∧ ¬ n ≤ e.2.1 ∧ e.1 = e.2.1) := by
  have hn : ¬ (0 ≤ e.1 ∧ e.1 < n ∧ 0 ≤ e.2.1 ∧ e.2.1 < n ∧ e.1 ≠ e.2.1) := fun hc => by rw [edOk_iff.2 hc] at h; cases h
  omega
theorem all_snocG {α : Type} (p : α → Bool) (l : List α) (k : Nat) (h : k < l.length) : (l.take (k + 1)).all p = ((l.take k).all p && p l[k]) := by
  rw [take_snoc _ _ h, List.all_append]
  simp
theorem guardsG {n : Int} {len : Nat} (hbad : n < 1 ∨ 6 < n ∨ 20 < len) : decide (n < 1) = true ∨ (decide (n < 1) = false ∧ decide (6 < n) = true) ∨ (decide (n < 1) = false ∧ decide (6 < n) = false ∧ decide (20 < (len : Int)) = true) := by
  simp
  omega
set_option maxHeartbeats 1000000 in
theorem edgesCheck_any (n : Int) (A : Option Addr) (len c : Nat) (es : List Ed) (w : World) (hs : SlE w A len es) :
    Calls Try.prog 32 #[.int .i64 n, .slice A len c] w fun e w' => e = .returned (.int .i64 (edgeF n es)) ∧ Kept w w' := by
  by_cases hbad : n < 1 ∨ 6 < n ∨ 20 < len
  · have HF := Lib.hid (edge_large (n := n) (es := es) (by rw [hs.2]; exact hbad))
    clear hs
    rcases guardsG hbad with d1 | ⟨d1, d2⟩ | ⟨d1, d2, d3⟩
    all_goals
      clear hbad
      go_enter Try.func32, Try.ntmps32
      go_wp2
      go_ret
      exact ⟨by rw [HF.out]; rfl, Kept.refl _⟩
  · have hlen : len ≤ 20 := by omega
    obtain ⟨nn, rfl⟩ := Int.eq_ofNat_of_zero_le (show 0 ≤ n by omega)
    rw [← hs.2] at hbad
    have HARG := Lib.hid (fun k hk hno => edge_arg (n := nn) (es := es) hbad (k := k) hk hno)
    have HOK := Lib.hid (fun ha => edge_ok (n := nn) (es := es) hbad ha)
    have HL := Lib.hid hs.2
    have hd : decide ((nn : Int) < 1) = false := by simp; omega
    have hd2 : decide (6 < (nn : Int)) = false := by simp; omega
    have hd3 : decide (20 < (len : Int)) = false := by simp; omega
    clear hbad
    go_enter Try.func32, Try.ntmps32
    go_wp2_with fail
    go_loopw [20] (fun i wr => ∃ k : Nat, k ≤ len ∧ i = .int .i64 k ∧ Kept w wr ∧ Hid ((es.take k).all (edOk nn) = true)) (fun i _ => len - (intOf i).toNat)
    case atStart => exact ⟨0, Nat.zero_le _, rfl, Kept.refl _, Lib.hid rfl⟩
    case round =>
      obtain ⟨k, hk, rfl, hkw, hall⟩ := hrel
      by_cases hlt : k < len
      · obtain ⟨b, off, hkr, rfl, hb, c1, c2, c3⟩ := (hs.kept hkw).get k hlt
        have hsn := Lib.hid (all_snocG (edOk nn) _ _ hkr)
        have harg := Lib.hid (HARG.out k hkr)
        cases hok : edOk nn es[k]
        · have HA := Lib.hid (harg.out hok)
          have hcase := edOk_no hok
          clear hok harg hsn
          generalize es[k].1 = p1 at c1 hcase
          generalize es[k].2.1 = p2 at c2 hcase
          generalize es[k].2.2 = p3 at c3
          rcases hcase with a | ⟨a, b⟩ | ⟨a, b, c⟩ | ⟨a, b, c, d⟩ | ⟨a, b, c, d, e⟩
          · have d1 : decide (p1 < 0) = true := by simpa using a
            go_wp2_with fail
            go_ret
            exact ⟨by rw [HA.out]; rfl, hkw.alloc _⟩
          · have d1 : decide (p1 < 0) = false := by simpa using a
            have d2 : decide ((nn : Int) ≤ p1) = true := by simpa using b
            go_wp2_with fail
            go_ret
            exact ⟨by rw [HA.out]; rfl, hkw.alloc _⟩
          · have d1 : decide (p1 < 0) = false := by simpa using a
            have d2 : decide ((nn : Int) ≤ p1) = false := by simpa using b
            have d3 : decide (p2 < 0) = true := by simpa using c
            go_wp2_with fail
            go_ret
            exact ⟨by rw [HA.out]; rfl, hkw.alloc _⟩
          · have d1 : decide (p1 < 0) = false := by simpa using a
            have d2 : decide ((nn : Int) ≤ p1) = false := by simpa using b
            have d3 : decide (p2 < 0) = false := by simpa using c
            have d4 : decide ((nn : Int) ≤ p2) = true := by simpa using d
            go_wp2_with fail
            go_ret
            exact ⟨by rw [HA.out]; rfl, hkw.alloc _⟩
          · have d1 : decide (p1 < 0) = false := by simpa using a
            have d2 : decide ((nn : Int) ≤ p1) = false := by simpa using b
            subst e
            have d5 : (p1 == p1) = true := by simp
            clear a b c d
            go_wp2_with fail
            go_ret
            exact ⟨by rw [HA.out]; rfl, hkw.alloc _⟩
        · have HOKK := Lib.hid hok
          obtain ⟨y1, y2, y3, y4, y5⟩ := edOk_iff.1 hok
          clear hok harg
          have HN := Lib.hid (show (es.take (k + 1)).all (edOk nn) = true by rw [hsn.out, hall.out, HOKK.out]; rfl)
          clear hsn HOKK
          generalize es[k].1 = p1 at c1 y1 y2 y5
          generalize es[k].2.1 = p2 at c2 y3 y4 y5
          generalize es[k].2.2 = p3 at c3
          have d1 : decide (p1 < 0) = false := by simpa using y1
          have d2 : decide ((nn : Int) ≤ p1) = false := by simpa using y2
          have d3 : decide (p2 < 0) = false := by simpa using y3
          have d4 : decide ((nn : Int) ≤ p2) = false := by simpa using y4
          have d5 : (p1 == p2) = false := by simpa using y5
          clear y1 y2 y3 y4 y5
          go_wp2_with fail
          go_roundw
          case rel => exact ⟨k + 1, by omega, by go_num, hkw.alloc _, HN⟩
          case measure => simp [intOf]; omega
      · have HA := Lib.hid (HOK.out (by
          have := hall.out
          rw [take_all es k (by rw [HL.out]; omega)] at this
          exact this))
        go_wp2_with fail
        go_ret
        exact ⟨by rw [HA.out]; rfl, hkw⟩
set_option maxHeartbeats 1000000 in
theorem over_any (A : Option Addr) (len c : Nat) (es : List Ed) (a b : Int) (w : World) (hs : SlE w A len es) (hl : len ≤ 1000) :
    Calls Try.prog 33 #[.slice A len c, .int .i64 a, .int .i64 b] w fun e w' => e = .returned (.int .u32 (W (overF es a b))) ∧ Kept w w' := by
  have HL := Lib.hid hs.2
  have H0 := Lib.hid (show W (overF (es.take 0) a b) = 0 from rfl)
  go_enter Try.func33, Try.ntmps33
  go_wp2_with fail
  go_loopw [7, 12] (fun v i wr => ∃ k : Nat, k ≤ len ∧ i = .int .i64 k ∧ v = .int .u32 (W (overF (es.take k) a b)) ∧ Kept w wr) (fun _ i _ => len - (intOf i).toNat)
  case atStart => exact ⟨0, Nat.zero_le _, rfl, by rw [H0.out], Kept.refl _⟩
  case round =>
    obtain ⟨k, hk, rfl, rfl, hkw⟩ := hrel
    by_cases hlt : k < len
    · obtain ⟨b1, off, hkr, rfl, hb, c1, c2, c3⟩ := (hs.kept hkw).get k hlt
      have HS := Lib.hid (show overF (es.take (k + 1)) a b = if es[k].1 = a ∧ es[k].2.1 = b then overF (es.take k) a b ||| es[k].2.2 else overF (es.take k) a b by rw [take_snoc _ _ hkr, overF_snoc])
      generalize overF (es.take k) a b = x at HS
      generalize es[k].1 = p1 at c1 HS
      generalize es[k].2.1 = p2 at c2 HS
      generalize es[k].2.2 = p3 at c3 HS
      by_cases h1 : p1 = a
      · have h1 := h1.symm
        subst h1
        have d1 : (a == a) = true := by simp
        by_cases h2 : p2 = b
        · have h2 := h2.symm
          subst h2
          have d2 : (b == b) = true := by simp
          have HY := Lib.hid (show overF (es.take (k + 1)) a b = x ||| p3 by rw [HS.out, if_pos ⟨rfl, rfl⟩])
          clear HS
          go_wp2_with fail
          go_roundw
          case rel => exact ⟨k + 1, by omega, by go_num, by rw [HY.out], hkw.alloc _⟩
          case measure => simp [intOf]; omega
        · have d2 : (p2 == b) = false := by simpa using h2
          have HY := Lib.hid (show overF (es.take (k + 1)) a b = x by rw [HS.out, if_neg (fun hc => h2 hc.2)])
          clear HS h2
          go_wp2_with fail
          go_roundw
          case rel => exact ⟨k + 1, by omega, by go_num, by rw [HY.out], hkw.alloc _⟩
          case measure => simp [intOf]; omega
      · have d1 : (p1 == a) = false := by simpa using h1
        have HY := Lib.hid (show overF (es.take (k + 1)) a b = x by rw [HS.out, if_neg (fun hc => h1 hc.1)])
        clear HS h1
        go_wp2_with fail
        go_roundw
        case rel => exact ⟨k + 1, by omega, by go_num, by rw [HY.out], hkw.alloc _⟩
        case measure => simp [intOf]; omega
    · have HK := Lib.hid (show overF (es.take k) a b = overF es a b by rw [take_all es k (by rw [HL.out]; omega)])
      rw [HK.out]
      go_wp2_with fail
      go_ret
      exact ⟨rfl, hkw⟩
/-! ### grant.build -/
/-- a graph that the call made: n rows of 14 words -/
def GrS (w0 w : World) (g c n : Nat) (Bs : Nat → Nat) (m : Mx) : Prop := Own w0 w 42 1 (.slice (some ⟨g, 0, none⟩) n c) n (outL 14 n Bs fun _ => 14) ∧ Jag w0 w 23 14 n Bs m
theorem GrS.kept {w0 w w' : World} {g c n : Nat} {Bs : Nat → Nat} {m : Mx} (h : GrS w0 w g c n Bs m) (k : Kept w w') : GrS w0 w' g c n Bs m := ⟨h.1.kept k, h.2.kept k⟩
theorem GrS.set {w0 w : World} {g c n : Nat} {Bs : Nat → Nat} {m : Mx} (h : GrS w0 w g c n Bs m) {i : Nat} (hi : i < n) (k : Nat) (v : BitVec 32) : GrS w0 (w.setCell ⟨Bs i, k, none⟩ (.int .u32 (W v))) g c n Bs (setM m i k v) :=
  ⟨h.1.setRow (h.2.1 i hi) (by decide) k _, h.2.set hi k v⟩
def RetBuild (w : World) (n : Int) (es : List Ed) (e : Ending) (w' : World) : Prop :=
  (edgeF n es = 0 ∧ ∃ g c Bs, e = .returned (.tuple #[.slice (some ⟨g, 0, none⟩) n.toNat c, .int .i64 0]) ∧ GrS w w' g c n.toNat Bs (gE es)) ∨
  ((edgeF n es != 0) = true ∧ e = .returned (.tuple #[.slice none 0 0, .int .i64 (edgeF n es)]) ∧ Kept w w')
theorem fillTo_put {α : Type} (g : Nat → α) (d : α) (n k : Nat) (v : α) : (fillTo g d n k).set k v = fillTo (fun i => if i = k then v else g i) d n (k + 1) := by
  have h := fillTo_set (fun i => if i = k then v else g i) d n k
  simp only [if_true] at h
  rw [← h]
  congr 1
  unfold fillTo
  apply List.map_congr_left
  intro i hi
  by_cases h2 : i < k
  · rw [if_pos h2, if_pos h2]
    show g i = if i = k then v else g i
    rw [if_neg (by omega)]
  · rw [if_neg h2, if_neg h2]
theorem rep_row0 (i : Nat) : rep 14 (.int .u32 0) = (rowOf 14 (fun _ _ => 0#32) i).toArray := rfl
def rowG (Bs : Nat → Nat) (k : Nat) : Value := .slice (some ⟨Bs k, 0, none⟩) 14 14
/-- the first k rows are there -/
def GrB (w0 w : World) (g nn k : Nat) (Bs : Nat → Nat) : Prop := Own w0 w 42 1 (.slice (some ⟨g, 0, none⟩) nn nn) nn (fillTo (rowG Bs) (.slice none 0 0) nn k) ∧ Jag w0 w 23 14 k Bs (fun _ _ => 0#32)
theorem GrB.step {w wr : World} {B nn k : Nat} {Bs : Nat → Nat} (h : GrB w wr B nn k Bs) (hlt : k < nn) :
    GrB w ((wr.alloc (.cells (rep 14 (.int .u32 0)) 23)).setCell ⟨B, k, none⟩ (.slice (some ⟨wr.heap.size, 0, none⟩) 14 14)) B nn (k + 1) (upd1 Bs k wr.heap.size) := by
  obtain ⟨hown, hjag⟩ := h
  have hrow : Row w (wr.alloc (.cells (rep 14 (.int .u32 0)) 23)) wr.heap.size 23 (rowOf 14 (fun _ _ => 0#32) k) := by
    rw [rep_row0 k]
    exact Row.new hown.kept0 _ _ _ rfl
  have ha := hown.alloc (.cells (rep 14 (.int .u32 0)) 23)
  have hk : Kept wr (wr.alloc (.cells (rep 14 (.int .u32 0)) 23)) := (Kept.refl _).alloc _
  have hj : Jag w (wr.alloc (.cells (rep 14 (.int .u32 0)) 23)) 23 14 (k + 1) (upd1 Bs k wr.heap.size) (fun _ _ => 0#32) := (hjag.kept hk).snoc hrow fun i hi e => by
    have := (hjag.1 i hi).lt
    omega
  refine ⟨?_, hj.grown (grown_set _ ⟨B, k, none⟩ _) (fun i hi => ha.far (hj.1 i hi) (by decide)) (fun b hb => by
    injection hb with hb
    have hb : B = b := hb
    have := ha.since B rfl
    omega)⟩
  have hp := ha.put k (.slice (some ⟨wr.heap.size, 0, none⟩) 14 14)
  rw [fillTo_put] at hp
  have e : (fun i => if i = k then Value.slice (some ⟨wr.heap.size, 0, none⟩) 14 14 else rowG Bs i) = rowG (upd1 Bs k wr.heap.size) := by
    funext i
    unfold rowG upd1
    split <;> rfl
  rw [e] at hp
  exact hp
theorem GrB.done {w wr : World} {B nn : Nat} {Bs : Nat → Nat} (h : GrB w wr B nn nn Bs) : GrS w wr B nn nn Bs (gE []) := by
  obtain ⟨hown, hjag⟩ := h
  rw [fillTo_done] at hown
  exact ⟨hown, hjag⟩
theorem GrS.add {w0 w : World} {g c n : Nat} {Bs : Nat → Nat} {es : List Ed} {a b : Nat} {r : BitVec 32} (h : GrS w0 w g c n Bs (gE es)) (ha : a < n) : GrS w0 (w.setCell ⟨Bs a, b, none⟩ (.int .u32 (W (gE es a b ||| r)))) g c n Bs (gE (es ++ [((a : Int), (b : Int), r)])) := by
  rw [gE_snoc es ((a : Int), (b : Int), r) (by simp) (by simp)]
  exact h.set ha b _
theorem info_u32row : (Try.prog.info? 42).map (fun i => (i.zero, i.size, i.bytes)) = some (some (.slice none 0 0), 1, 24) := by kernel_rfl
set_option maxRecDepth 100000 in
set_option maxHeartbeats 4000000 in
theorem build_any (n : Int) (A : Option Addr) (len c : Nat) (es : List Ed) (w : World) (hs : SlE w A len es) :
    Calls Try.prog 51 #[.int .i64 n, .slice A len c] w (RetBuild w n es) := by
  by_cases hbad : n < 1 ∨ 6 < n ∨ 20 < len
  · have HF := Lib.hid (edge_large (n := n) (es := es) (by rw [hs.2]; exact hbad))
    have FIN := Lib.hid (show RetBuild w n es (.returned (.tuple #[.slice none 0 0, .int .i64 1])) w from .inr ⟨by rw [HF.out]; rfl, by rw [HF.out], Kept.refl _⟩)
    clear hs
    rcases guardsG hbad with d1 | ⟨d1, d2⟩ | ⟨d1, d2, d3⟩
    all_goals
      clear hbad
      go_enter Try.func51, Try.ntmps51
      go_wp2
      go_ret2
      exact FIN.out
  · have hlen : len ≤ 20 := by omega
    obtain ⟨nn, rfl⟩ := Int.eq_ofNat_of_zero_le (show 0 ≤ n by omega)
    have hn1 : 1 ≤ nn := by omega
    have hn6 : nn ≤ 6 := by omega
    rw [← hs.2] at hbad
    have HARG := Lib.hid (fun k hk hno => edge_arg (n := nn) (es := es) hbad (k := k) hk hno)
    have HOK := Lib.hid (fun ha => edge_ok (n := nn) (es := es) hbad ha)
    have HL := Lib.hid hs.2
    have hd : decide ((nn : Int) < 1) = false := by simp; omega
    have hd2 : decide (6 < (nn : Int)) = false := by simp; omega
    have hd3 : decide (20 < (len : Int)) = false := by simp; omega
    have hmk := run_make1 (P := Try.prog) 92 42 Try.underlying92 info_u32row rfl (by decide) nn (by omega)
    have hmk2 := run_make1 (P := Try.prog) 42 23 Try.underlying42 info_u32 rfl (by decide) 14 (by omega)
    simp only [show ((14 : Nat) : Int) = 14 from rfl] at hmk2
    clear hbad
    go_enter Try.func51, Try.ntmps51
    go_wp2_with fail
    have ho0 : GrB w (w.alloc (.cells (rep nn (.slice none 0 0)) 42)) w.heap.size nn 0 (fun _ => 0) := by
      refine ⟨?_, Jag.nil _ _ _ _ _ _⟩
      rw [fillTo_zero]
      have := Own.made (Kept.refl w) 42 (rep nn (.slice none 0 0)) 1 nn w.heap.size rfl (by simp [rep]) (by unfold maxLen; omega)
      simpa [rep] using this
    obtain ⟨B, hB⟩ : ∃ B, w.heap.size = B := ⟨_, rfl⟩
    have HB := Lib.hid hB
    rw [hB] at ho0 ⊢
    clear hB
    go_loopw [25] (fun i wr => ∃ (k : Nat) (Bs : Nat → Nat), k ≤ nn ∧ i = .int .i64 k ∧ GrB w wr B nn k Bs) (fun i _ => nn - (intOf i).toNat)
    case atStart => exact ⟨0, fun _ => 0, Nat.zero_le _, rfl, ho0⟩
    case round =>
      obtain ⟨k, Bs, hk, rfl, hg⟩ := hrel
      by_cases hlt : k < nn
      · have ha := hg.1.alloc (.cells (rep 14 (.int .u32 0)) 23)
        have c0 := ha.cell k (fillTo_at _ _ nn k k hlt)
        rw [if_neg (Nat.lt_irrefl k)] at c0
        have f0 := ha.free k
        have hi1 : (0 : Int) ≤ (k : Int) := by omega
        have hi2 : (k : Int) < (nn : Int) := by omega
        have HS := Lib.hid (hg.step hlt)
        clear ha hg
        go_wp2_with fail
        go_roundw
        case rel => exact ⟨k + 1, _, by omega, by go_num, HS.out⟩
        case measure => simp [intOf]; omega
      · have hkn : k = nn := by omega
        subst hkn
        have HG := Lib.hid hg.done
        clear hg hlt
        go_wp2_with fail
        go_loopw [35] (fun i wr => ∃ (j : Nat), j ≤ len ∧ i = .int .i64 j ∧ GrS w wr B k k Bs (gE (es.take j)) ∧ Hid ((es.take j).all (edOk k) = true)) (fun i _ => len - (intOf i).toNat)
        case atStart => exact ⟨0, Nat.zero_le _, rfl, HG.out, Lib.hid rfl⟩
        case round =>
          obtain ⟨j, hj, rfl, hgs, hall⟩ := hrel
          by_cases hlt : j < len
          · obtain ⟨b, off, hkr, rfl, hb, c1, c2, c3⟩ := (hs.kept hgs.1.kept0).get j hlt
            have hsn := Lib.hid (all_snocG (edOk k) _ _ hkr)
            have htk := Lib.hid (take_snoc es j hkr)
            have harg := Lib.hid (HARG.out j hkr)
            cases hok : edOk k es[j]
            · have HA := Lib.hid (harg.out hok)
              have hcase := edOk_no hok
              have FIN := Lib.hid (fun w' (q : Kept w w') => show RetBuild w k es (.returned (.tuple #[.slice none 0 0, .int .i64 2])) w' from .inr ⟨by rw [HA.out]; rfl, by rw [HA.out], q⟩)
              have KW := Lib.hid hgs.1.kept0
              clear hok harg hsn htk hgs
              generalize es[j].1 = p1 at c1 hcase
              generalize es[j].2.1 = p2 at c2 hcase
              generalize es[j].2.2 = p3 at c3
              obtain ⟨mn, hmn⟩ : ∃ mn, (if p2 < p1 then p2 else p1) = mn := ⟨_, rfl⟩
              obtain ⟨mx, hmx⟩ : ∃ mx, (if p1 < p2 then p2 else p1) = mx := ⟨_, rfl⟩
              have hq : mn < 0 ∨ (¬ mn < 0 ∧ (k : Int) ≤ mx) ∨ (¬ mn < 0 ∧ ¬ (k : Int) ≤ mx ∧ p1 = p2) := by
                rw [← hmn, ← hmx]
                split <;> split <;> omega
              clear hcase
              rcases hq with a | ⟨a, b⟩ | ⟨a, b, c⟩
              · have d1 : decide (mn < 0) = true := by simpa using a
                clear a
                go_wp2_with fail
                go_ret2
                exact FIN.out _ (KW.out.alloc _)
              · have d1 : decide (mn < 0) = false := by simpa using a
                have d2 : decide ((k : Int) ≤ mx) = true := by simpa using b
                clear a b
                go_wp2_with fail
                go_ret2
                exact FIN.out _ (KW.out.alloc _)
              · have d1 : decide (mn < 0) = false := by simpa using a
                have d2 : decide ((k : Int) ≤ mx) = false := by simpa using b
                have d3 : (p1 == p2) = true := by simpa using c
                clear a b c
                go_wp2_with fail
                go_ret2
                exact FIN.out _ (KW.out.alloc _)
            · have HOKK := Lib.hid hok
              obtain ⟨y1, y2, y3, y4, y5⟩ := edOk_iff.1 hok
              clear hok harg
              have HN := Lib.hid (show (es.take (j + 1)).all (edOk k) = true by rw [hsn.out, hall.out, HOKK.out]; rfl)
              clear hsn HOKK
              obtain ⟨⟨p1, p2, p3⟩, hp⟩ : ∃ p, es[j] = p := ⟨_, rfl⟩
              rw [hp] at y1 y2 y3 y4 c1 c2 c3 htk
              simp only at y1 y2 y3 y4 c1 c2 c3
              clear hp y5
              obtain ⟨a, rfl⟩ := Int.eq_ofNat_of_zero_le y1
              obtain ⟨b2, rfl⟩ := Int.eq_ofNat_of_zero_le y3
              have ha : a < k := by omega
              have hb14 : b2 < 14 := by omega
              have hne : (a : Int) ≠ (b2 : Int) := fun e => by
                have := (edOk_iff.1 (List.all_eq_true.1 HN.out _ (by rw [htk.out]; simp) : edOk k ((a : Int), (b2 : Int), p3) = true)).2.2.2.2
                exact this e
              obtain ⟨mn, hmn⟩ : ∃ mn : Nat, (if b2 < a then (b2 : Int) else (a : Int)) = (mn : Int) ∧ mn < k := ⟨min b2 a, by rw [Nat.min_def]; split <;> split <;> omega, by omega⟩
              obtain ⟨mx, hmx⟩ : ∃ mx : Nat, (if a < b2 then (b2 : Int) else (a : Int)) = (mx : Int) ∧ mx < k := ⟨max b2 a, by rw [Nat.max_def]; split <;> split <;> omega, by omega⟩
              have hmn2 : (if (b2 : Int) < (a : Int) then (b2 : Int) else (a : Int)) = (mn : Int) := by rw [← hmn.1]; split <;> split <;> omega
              have hmx2 : (if (a : Int) < (b2 : Int) then (b2 : Int) else (a : Int)) = (mx : Int) := by rw [← hmx.1]; split <;> split <;> omega
              have hmn1 := hmn.1
              have hmx1 := hmx.1
              have d1 : decide ((mn : Int) < 0) = false := by simp
              have d2 : decide ((k : Int) ≤ (mx : Int)) = false := by simp; omega
              have d2' : decide (k ≤ mx) = false := by simp; omega
              have d3 : ((a : Int) == (b2 : Int)) = false := by simpa using hne
              have bx := Box.new wr #[.int .i64 a, .int .i64 b2, .int .u32 (W p3)] 97 wr.heap.size rfl
              have b0 := bx.at_ 0 rfl
              have b1 := bx.at_ 1 rfl
              have b3 := bx.at_ 2 rfl
              have hg1 := hgs.kept (w' := wr.alloc (.cells #[.int .i64 a, .int .i64 b2, .int .u32 (W p3)] 97)) ((Kept.refl _).alloc _)
              obtain ⟨w1, hw1⟩ : ∃ w1, wr.alloc (.cells #[.int .i64 a, .int .i64 b2, .int .u32 (W p3)] 97) = w1 := ⟨_, rfl⟩
              rw [hw1] at b0 b1 b3 hg1
              have hadd : GrS w (w1.drew.setCell ⟨Bs a, b2, none⟩ (.int .u32 (W (gE (es.take j) a b2 ||| p3)))) B k k Bs (gE (es.take (j + 1))) := by
                rw [htk.out]
                exact (hg1.kept (Kept.refl _).drew).add ha
              have qa := hg1.1.cell a (outL_at ha)
              have qb := hg1.2.cell ha hb14
              obtain ⟨x, hx⟩ : ∃ x, gE (es.take j) a b2 = x := ⟨_, rfl⟩
              rw [hx] at hadd qb
              obtain ⟨qb, qf⟩ := qb
              have HADD := Lib.hid hadd
              have hi1 : (0 : Int) ≤ (a : Int) := by omega
              have hi2 : (a : Int) < (k : Int) := by omega
              have hi3 : (0 : Int) ≤ (b2 : Int) := by omega
              have hi4 : (b2 : Int) < 14 := by omega
              clear hadd hx bx hg1 hmn hmx hne y1 y2 y3 y4 hgs htk
              go_wp2_with fail
              go_still_tail 13, (by kernel_rfl)
              go_wp2_with fail
              go_roundw
              case rel => exact ⟨j + 1, by omega, by go_num, HADD.out, HN⟩
              case measure => simp [intOf]; omega
          · have HA := Lib.hid (HOK.out (by
              have := hall.out
              rw [take_all es j (by rw [HL.out]; omega)] at this
              exact this))
            have HTA := Lib.hid (show es.take j = es from take_all es j (by rw [HL.out]; omega))
            rw [HTA.out] at hgs
            have FIN := Lib.hid (show RetBuild w k es (.returned (.tuple #[.slice (some ⟨B, 0, none⟩) k k, .int .i64 0])) wr from .inl ⟨HA.out, B, k, Bs, rfl, hgs⟩)
            clear hgs
            go_wp2_with fail
            go_ret2
            exact FIN.out
end Go.Proofs.Ytekpifobhgjepaa
