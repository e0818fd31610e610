/- The walk of order.Chain. -/
import Derived.Test.YtgcpomdlajoifaaLine
import Derived.Test.YtgcpomdlajoifaaLongP
import Derived.Test.YtgcpomdlajoifaaBackw
import Derived.Test.YtgcpomdlajoifaaArr
import Derived.Test.YtgcpomdlajoifaaHold
import Derived.Test.YtgcpomdlajoifaaLat2
import Derived.BigQuiet
import Derived.Shelf.Abstract
namespace Go.Proofs.Ytgcpomdlajoifaa
open Go Go.RowKit Go.Shelf
set_option linter.unusedVariables false
attribute [local go_sem] Oper.semAt_some

/-- a place in a line, and the thing there -/
abbrev Stp (nn : Nat) := { x : Nat × Nat // x.2 < nn }
def stpV {nn : Nat} (x : Stp nn) : Array Value := #[.int .i64 (x.1.1 : Int), .int .i64 (x.1.2 : Int)]
def mkS {nn : Nat} (h : 0 < nn) (l : List Int) (t : Nat) : Stp nn := ⟨(t, if (l.getD t 0).toNat < nn then (l.getD t 0).toNat else 0), by dsimp only; split <;> omega⟩
theorem SlI.openC {w : World} {A : Option Addr} {n : Nat} {xs : List Int} (h : SlI w A n xs) (hn : 0 < n) : ∃ b off, A = some ⟨b, off, none⟩ ∧ b < w.heap.size ∧ ∀ k, k < n → w.cell? ⟨b, off + k, none⟩ = some (.int .i64 (xs[k]?.getD 0)) := by
  obtain ⟨b, off, e, hb, hc⟩ := h.1.2 (by omega)
  refine ⟨b, off, e, hb, fun k hk => ?_⟩
  have hl : k < xs.length := by rw [h.2]; exact hk
  exact hc k _ (by rw [List.getElem?_map, List.getElem?_eq_getElem hl]; rfl)
def lvV (f : Nat → Nat) (n : Nat) : List Value := (List.range n).map fun i => .int .i64 (f i : Int)
theorem lvV_at (f : Nat → Nat) {n i : Nat} (hi : i < n) : (lvV f n)[i]? = some (.int .i64 (f i : Int)) := by simp [lvV, hi]
theorem lvV_set (f : Nat → Nat) (n s v : Nat) : (lvV f n).set s (.int .i64 (v : Int)) = lvV (updH f s v) n := by
  unfold lvV
  apply List.ext_getElem
  · simp
  · intro i h1 h2
    rw [List.getElem_set]
    simp only [List.getElem_map, List.getElem_range]
    by_cases e : s = i
    · subst e
      simp [updH_same]
    · rw [if_neg e, updH_other (fun h => e h.symm)]
theorem updH_id (f : Nat → Nat) (i : Nat) : updH f i (f i) = f := by
  funext j
  by_cases e : j = i
  · subst e; rw [updH_same]
  · rw [updH_other e]
theorem updH_twice (f : Nat → Nat) (i u v : Nat) : updH (updH f i u) i v = updH f i v := by
  funext j
  by_cases e : j = i
  · subst e; rw [updH_same, updH_same]
  · rw [updH_other e, updH_other e, updH_other e]
theorem grownC (w : World) (p : Addr) (v : Value) : w.grownBy (w.setCell p v) (some p.block) := by
  refine ⟨rfl, rfl, rfl, by simp [World.setCell], fun k hk hne => ?_⟩
  simp only [World.setCell]
  rw [Array.getElem?_modify]
  rw [if_neg (fun e => hne (by rw [e]))]
/-- what Chain holds while it goes through the line from its end -/
def ChC (w2 W : World) (S : Nat) (up : Value) (nn : Nat) (lv : Nat → Nat) (m : Nat) : Prop :=
  W.cell? ⟨S, 0, none⟩ = some up ∧ W.cell? ⟨S + 2, 0, none⟩ = some (.slice (some ⟨S + 1, 0, none⟩) nn nn) ∧ Row w2 W (S + 1) 3 (lvV lv nn) ∧ Row w2 W (S + 3) 3 [.int .i64 (m : Int)]
section
variable {w2 W W' : World} {S nn m : Nat} {up : Value} {lv : Nat → Nat}
theorem ChC.kept (h : ChC w2 W S up nn lv m) (k : Kept W W') : ChC w2 W' S up nn lv m := ⟨(k.cell (cell_lt h.1)).trans h.1, (k.cell (cell_lt h.2.1)).trans h.2.1, h.2.2.1.kept k, h.2.2.2.kept k⟩
theorem rowNC {B : Nat} {e : TypeId} {xs : List Value} (h : Row w2 W B e xs) {row : Option Nat} (hr : ∀ r, row = some r → ∃ o : Obj, W.heap[r]? = some o ∧ o.isCells = false) : some B ≠ row := by
  obtain ⟨cur, hb, _⟩ := h.1
  intro e2
  obtain ⟨o, ho, hc⟩ := hr B e2.symm
  rw [hb] at ho
  injection ho with ho
  subst ho
  cases hc
theorem ChC.grown {row : Option Nat} (h : ChC w2 W S up nn lv m) (hg : W.grownBy W' row) (hr : ∀ r, row = some r → w2.heap.size ≤ r ∧ ∃ o : Obj, W.heap[r]? = some o ∧ o.isCells = false) : ChC w2 W' S up nn lv m :=
  ⟨cell_kept h.1 hg (fun r e => (hr r e).2), cell_kept h.2.1 hg (fun r e => (hr r e).2), h.2.2.1.grown hg (rowNC h.2.2.1 fun r e => (hr r e).2) (fun r e => (hr r e).1), h.2.2.2.grown hg (rowNC h.2.2.2 fun r e => (hr r e).2) (fun r e => (hr r e).1)⟩
theorem ChC.setL (h : ChC w2 W S up nn lv m) (i v : Nat) : ChC w2 (W.setCell ⟨S + 1, i, none⟩ (.int .i64 (v : Int))) S up nn (updH lv i v) m := by
  have hg := grownC W ⟨S + 1, i, none⟩ (.int .i64 (v : Int))
  refine ⟨(hg.cell_far _ (cell_lt h.1) (by simp)).trans h.1, (hg.cell_far _ (cell_lt h.2.1) (by simp)).trans h.2.1, ?_, ?_⟩
  · have := h.2.2.1.set i (.int .i64 (v : Int))
    rw [lvV_set] at this
    exact this
  · exact h.2.2.2.grown hg (by simp) (fun k e => by injection e with e; have := h.2.2.1.2.1; subst e; exact this)
theorem ChC.setM (h : ChC w2 W S up nn lv m) (v : Nat) : ChC w2 (W.setCell ⟨S + 3, 0, none⟩ (.int .i64 (v : Int))) S up nn lv v := by
  have hg := grownC W ⟨S + 3, 0, none⟩ (.int .i64 (v : Int))
  exact ⟨(hg.cell_far _ (cell_lt h.1) (by simp)).trans h.1, (hg.cell_far _ (cell_lt h.2.1) (by simp)).trans h.2.1, h.2.2.1.grown hg (by simp) (fun k e => by injection e with e; have := h.2.2.2.2.1; subst e; exact this), h.2.2.2.set 0 (.int .i64 (v : Int))⟩
theorem KeepsOthers.kept (k : Kept W W') : KeepsOthers W W' := ⟨k.size, fun j o hj _ => (k.block j (Array.getElem?_eq_some_iff.1 hj).1).trans hj⟩
theorem KpS.kept {n₀ Bs : Nat} (k : Kept W W') (hn : n₀ ≤ W.heap.size) : KpS n₀ Bs W W' := ⟨(show Below n₀ W W' from Below.mono k hn), fun v hv => (k.cell (cell_lt hv)).trans hv⟩
theorem KpS.set {n₀ Bs : Nat} (p : Addr) (v : Value) (hp : n₀ ≤ p.block) (hne : Bs ≠ p.block) : KpS n₀ Bs W (W.setCell p v) :=
  ⟨(Below.refl n₀ W).setCell hp _, fun u hu => ((grownC W p v).cell_far ⟨Bs, 0, none⟩ (cell_lt hu) (fun e => by injection e with e; exact hne e)).trans hu⟩
end
theorem Nml.intro {K : Act → World → Prop} {a : Act} {w : World} (h : K a w) : Nml K .normal a w := h
/-- what is known of the heights so far -/
def HtsC (nn : Nat) (ps : List Pr) (l : List Int) (h0 : 0 < nn) (pre : List (Stp nn)) (lv : Nat → Nat) (m : Nat) : Prop := (pre = bks (mkS h0 l) nn pre.length → Hts nn ps l (nn - pre.length) lv m) ∧ (∀ i, lv i ≤ pre.length) ∧ m ≤ pre.length
theorem mxF_le {ps : List Pr} {lv : Nat → Nat} {i b : Nat} (h : ∀ j, lv j ≤ b) : ∀ k, mxF ps lv i k ≤ b := by
  intro k
  rcases mxF_some (ps := ps) (lv := lv) (i := i) k with h0 | ⟨j, _, _, h2⟩
  · omega
  · have := h j; omega
theorem HtsC.step {nn : Nat} {ps : List Pr} {l : List Int} {h0 : 0 < nn} {pre : List (Stp nn)} {lv : Nat → Nat} {m : Nat} (hl : IsLine nn ps l) (hn : l.length = nn) (h : HtsC nn ps l h0 pre lv m) (hp : pre.length < nn) (x : Stp nn) :
    HtsC nn ps l h0 (pre ++ [x]) (updH lv x.1.2 (max (lv x.1.2) (mxF ps lv x.1.2 nn) + 1)) (max m (max (lv x.1.2) (mxF ps lv x.1.2 nn) + 1)) := by
  have hmx := mxF_le (ps := ps) (i := x.1.2) h.2.1 nn
  have hlx := h.2.1 x.1.2
  have hm := h.2.2
  refine ⟨fun he => ?_, fun i => ?_, by rw [List.length_append, List.length_singleton]; omega⟩
  · rw [List.length_append, List.length_singleton] at he ⊢
    have hs := bks_succ (mkS h0 l) (len := nn) (t := nn - 1 - pre.length) (by omega)
    rw [show nn - (nn - 1 - pre.length) = pre.length + 1 by omega, show nn - (nn - 1 - pre.length + 1) = pre.length by omega] at hs
    rw [hs] at he
    obtain ⟨e1, e2⟩ := List.append_inj' he rfl
    have hh := h.1 e1
    injection e2 with e2
    have hk : nn - 1 - pre.length < l.length := by omega
    have hrange := hl.1 (l.getD (nn - 1 - pre.length) 0) (by rw [getD_eq hk]; exact List.getElem_mem _)
    have hx2 : x.1.2 = (l.getD (nn - 1 - pre.length) 0).toNat := by
      rw [e2]
      show (if (l.getD (nn - 1 - pre.length) 0).toNat < nn then (l.getD (nn - 1 - pre.length) 0).toNat else 0) = _
      rw [if_pos (by omega)]
    have hi : l.getD (nn - 1 - pre.length) 0 = (x.1.2 : Int) := by omega
    rw [show nn - pre.length = (nn - 1 - pre.length) + 1 by omega] at hh
    have hnot : lv x.1.2 = 0 := hh.not x.1.2 (by
      rintro ⟨t, h1, h2, h3⟩
      have := nodup_at hl.2.1 h2 hk (by rw [h3, hi])
      omega)
    have := hh.step hl hn hk hi
    rw [hnot, Nat.zero_max]
    rw [show nn - (pre.length + 1) = nn - 1 - pre.length by omega]
    exact this
  · rw [List.length_append, List.length_singleton]
    by_cases e : i = x.1.2
    · subst e; rw [updH_same]; omega
    · rw [updH_other e]; have := h.2.1 i; omega
/-- behind the loop: a chain is read off, the highest first -/
def ChL (w2 : World) (S B9 D : Nat) (up : Value) (nn : Nat) (ps : List Pr) (lv : Nat → Nat) (M : Nat) (c : List Int) (mc : Nat) (v : Value) (wr : World) : Prop :=
  CInv nn ps lv M c mc ∧ ChC w2 wr S up nn lv mc ∧ Own w2 wr 3 1 v c.length (c.map iv) ∧ (∀ k, v.ownBlock = some k → B9 ≤ k) ∧ wr.heap[D]? = some (.deferred (some [])) ∧ B9 ≤ wr.heap.size
def lenV : Value → Nat
  | .slice _ n _ => n
  | _ => 0
theorem ChL.kept {w2 wr w' : World} {S B9 D nn M mc : Nat} {up v : Value} {ps : List Pr} {lv : Nat → Nat} {c : List Int} (h : ChL w2 S B9 D up nn ps lv M c mc v wr) (k : Kept wr w') : ChL w2 S B9 D up nn ps lv M c mc v w' :=
  ⟨h.1, h.2.1.kept k, h.2.2.1.kept k, h.2.2.2.1, (k.block D (Array.getElem?_eq_some_iff.1 h.2.2.2.2.1).1).trans h.2.2.2.2.1, Nat.le_trans h.2.2.2.2.2 k.size⟩
theorem ChC.far {w2 W W' : World} {S nn m : Nat} {up : Value} {lv : Nat → Nat} {row : Option Nat} (h : ChC w2 W S up nn lv m) (hg : W.grownBy W' row) (hr : ∀ k, row = some k → S + 5 ≤ k) (hS : w2.heap.size = S) : ChC w2 W' S up nn lv m := by
  have ne : ∀ B, B < S + 5 → some B ≠ row := fun B hB e => by have := hr B e.symm; omega
  exact ⟨(hg.cell_far _ (cell_lt h.1) (ne S (by omega))).trans h.1, (hg.cell_far _ (cell_lt h.2.1) (ne (S + 2) (by omega))).trans h.2.1, h.2.2.1.grown hg (ne (S + 1) (by omega)) (fun k e => by have := hr k e; omega), h.2.2.2.grown hg (ne (S + 3) (by omega)) (fun k e => by have := hr k e; omega)⟩
theorem ChL.add {w2 w6 w7 : World} {S B9 D nn M mc i : Nat} {up v v7 : Value} {ps : List Pr} {lv : Nat → Nat} {c : List Int} {o : Obj} (h : ChL w2 S B9 D up nn ps lv M c (mc + 1) v w6) (hS : w2.heap.size = S) (hD : S + 5 ≤ D ∧ D < B9) (hi : i < nn) (hl : lv i = mc + 1) (hu : c = [] ∨ under ps (c.getD (c.length - 1) 0) (i : Int) = true)
    (hown : Own w2 w7 3 1 v7 (c.length + 1) (c.map iv ++ [.int .i64 (i : Int)])) (hg : (w6.alloc o).grownBy w7 v.ownBlock) (hat : v7.ownBlock = v.ownBlock ∨ v7.ownBlock = some (w6.heap.size + 1)) :
    ChC w2 w7 S up nn lv (mc + 1) ∧ ChL w2 S B9 D up nn ps lv M (c ++ [(i : Int)]) mc v7 (w7.setCell ⟨S + 3, 0, none⟩ (.int .i64 (mc : Int))) := by
  obtain ⟨h1, h2, h3, h4, h5, h6⟩ := h
  have hka : Kept w6 (w6.alloc o) := (Kept.refl _).alloc _
  have hC : ChC w2 w7 S up nn lv (mc + 1) := (h2.kept hka).far hg (fun k e => by have := h4 k e; omega) hS
  have hlow : ∀ k, v7.ownBlock = some k → B9 ≤ k := fun k e => by
    rcases hat with e2 | e2
    · rw [e2] at e; exact h4 k e
    · rw [e2] at e; injection e with e; omega
  have hgs := grownC w7 ⟨S + 3, 0, none⟩ (.int .i64 (mc : Int))
  have hsz : w6.heap.size ≤ w7.heap.size := Nat.le_trans hka.size hg.size
  refine ⟨hC, h1.add hi hl hu, hC.setM mc, ?_, hlow, ?_, by simp only [World.setCell, Array.size_modify]; omega⟩
  · rw [List.length_append, List.map_append]
    exact hown.grown hgs (.inr fun e => by have := hlow (S + 3) (by rw [e]); omega) (fun k e => by injection e with e; have := hC.2.2.2.2.1; subst e; exact this)
  · have hDlt : D < w6.heap.size := by omega
    rw [hgs.block D (by omega) (by intro e; injection e with e; have : D = S + 3 := e; omega)]
    rw [hg.block D (Nat.lt_of_lt_of_le hDlt hka.size) (fun e => by have := h4 D e.symm; omega), hka.block D hDlt]
    exact h5
set_option maxRecDepth 100000 in
set_option maxHeartbeats 4000000 in
theorem chain_yes (nn : Nat) (A : Option Addr) (len c : Nat) (ps : List Pr) (w : World) (hp : SlP w A len ps) (hc : ordF nn ps = 0) :
    Calls Try.prog 22 #[.int .i64 nn, .slice A len c] w fun e w' => Kept w w' ∧ ∃ (B : Option Addr) (k cc : Nat), e = .returned (.tuple #[.slice B k cc, .int .i64 0]) ∧ Longest nn ps k := by
  obtain ⟨⟨hn1, hn6, hlen⟩, hrng, hanti⟩ := ordF_zero hc
  have HC := Lib.hid hc
  have hmk := run_make1 (P := Try.prog) 32 3 Try.underlying32 info_i64 rfl (by decide) nn (by omega)
  clear hc hrng hanti hlen
  refine (callsIn_wide (n := 10)).1 (callsIn_of_wp_marks Try.func22 rfl trivial ?_ rfl)
  simp only [Try.ntmps22, List.size_toArray, List.length_cons, List.length_nil, Nat.reduceAdd, Nat.reduceSub, Array.replicate_succ, Array.replicate_zero, List.push_toArray, List.append_toArray, List.nil_append, List.cons_append]
  refine wpIn_wide.2 ?_
  go_wp2_with fail
  refine (line_any nn _ _ _ ps _ hp).mono ?_
  rintro e w1 ⟨k1, ⟨_, A1, c1, l, rfl, hsl, hline⟩ | ⟨hne, _⟩⟩
  case inr => rw [HC.out] at hne; cases hne
  rw [Int.toNat_natCast] at hsl hline
  obtain ⟨b1, o1, rfl, hb1, hcell1⟩ := SlI.openC hsl (by omega)
  have HLN := Lib.hid hline
  have HLL := Lib.hid hsl.2
  have HC1 := Lib.hid hcell1
  have HB1 := Lib.hid hb1
  have HK1 := Lib.hid k1
  have hp1 := hp.kept k1
  clear hsl hline hcell1 hb1 k1
  go_wp2_with fail
  refine (table_any nn _ _ _ ps _ hp1).mono ?_
  rintro e w2 ⟨k2, ⟨_, A2, c2, rfl, hup⟩ | ⟨hne, _⟩⟩
  case inr => rw [HC.out] at hne; cases hne
  rw [Int.toNat_natCast] at hup
  obtain ⟨b2, o2, rfl, hb2, hcell2⟩ := hup.open_ (by omega)
  have HC2 := Lib.hid hcell2
  have HB2 := Lib.hid hb2
  have HK2 := Lib.hid k2
  clear hup hcell2 hb2 k2 hp1 hp
  go_wp2_with fail
  refine (backward_any _ _ _ _).mono ?_
  rintro e w3 ⟨rfl, hw3⟩
  obtain ⟨S, hS⟩ : ∃ S, w2.heap.size = S := ⟨_, rfl⟩
  have hsz : w3.heap.size = S + 5 := by rw [hw3]; simp [hS]
  have hk3 : Kept w2 w3 := by rw [hw3]; exact ((((((Kept.refl _).alloc _).alloc _).alloc _).alloc _).alloc _)
  have hch : ChC w2 w3 S (.slice (some ⟨b2, o2, none⟩) nn c2) nn (fun _ => 0) 0 := by
    have e1 : ∀ W : World, W.heap.size = S + 1 → Kept w2 W → Row w2 (W.alloc (.cells (rep nn (.int .i64 0)) 3)) (S + 1) 3 (lvV (fun _ => 0) nn) := fun W hW k => by
      have := Row.new k 3 (lvV (fun _ => 0) nn) (S + 1) hW
      have e : (lvV (fun _ => 0) nn).toArray = rep nn (.int .i64 0) := by
        unfold lvV rep
        congr 1
        apply List.ext_getElem
        · simp
        · intro i h1 h2
          simp
      rw [e] at this
      exact this
    rw [hw3]
    have b0 := Box.new w2 #[.slice (some ⟨b2, o2, none⟩) nn c2] 23 S hS
    have r1 := e1 _ (by simp [hS]) ((Kept.refl w2).alloc (.cells #[.slice (some ⟨b2, o2, none⟩) nn c2] 23))
    have hka : Kept (w2.alloc (.cells #[.slice (some ⟨b2, o2, none⟩) nn c2] 23)) ((((w2.alloc (.cells #[.slice (some ⟨b2, o2, none⟩) nn c2] 23)).alloc (.cells (rep nn (.int .i64 0)) 3)).alloc (.cells #[.slice (some ⟨w2.heap.size + 1, 0, none⟩) nn nn] 32)).alloc (.cells #[.int .i64 0] 3) |>.alloc (.cells #[.slice (some ⟨b1, o1, none⟩) nn c1] 32)) := ((((Kept.refl _).alloc _).alloc _).alloc _).alloc _
    have b2' := Box.new ((w2.alloc (.cells #[.slice (some ⟨b2, o2, none⟩) nn c2] 23)).alloc (.cells (rep nn (.int .i64 0)) 3)) #[.slice (some ⟨w2.heap.size + 1, 0, none⟩) nn nn] 32 (S + 2) (by simp [hS])
    have k2' : Kept (((w2.alloc (.cells #[.slice (some ⟨b2, o2, none⟩) nn c2] 23)).alloc (.cells (rep nn (.int .i64 0)) 3)).alloc (.cells #[.slice (some ⟨w2.heap.size + 1, 0, none⟩) nn nn] 32)) _ := ((Kept.refl _).alloc (.cells #[.int .i64 0] 3)).alloc (.cells #[.slice (some ⟨b1, o1, none⟩) nn c1] 32)
    refine ⟨(hka.cell (p := ⟨S, 0, none⟩) b0.1).trans (b0.at_ 0 rfl), ?_, ?_, ?_⟩
    · have := (k2'.cell (p := ⟨S + 2, 0, none⟩) b2'.1).trans (b2'.at_ 0 rfl)
      rw [hS] at this ⊢
      exact this
    · exact ((r1.kept ((Kept.refl _).alloc _)).kept ((Kept.refl _).alloc _)).kept ((Kept.refl _).alloc _)
    · have r3 := Row.new ((((Kept.refl w2).alloc (.cells #[.slice (some ⟨b2, o2, none⟩) nn c2] 23)).alloc (.cells (rep nn (.int .i64 0)) 3)).alloc (.cells #[.slice (some ⟨w2.heap.size + 1, 0, none⟩) nn nn] 32)) 3 [.int .i64 ((0 : Nat) : Int)] (S + 3) (by simp [hS])
      exact r3.kept ((Kept.refl _).alloc _)
  have hbs : w3.cell? ⟨S + 4, 0, none⟩ = some (.slice (some ⟨b1, o1, none⟩) nn c1) := by
    rw [hw3]
    have := Box.new ((((w2.alloc (.cells #[.slice (some ⟨b2, o2, none⟩) nn c2] 23)).alloc (.cells (rep nn (.int .i64 0)) 3)).alloc (.cells #[.slice (some ⟨w2.heap.size + 1, 0, none⟩) nn nn] 32)).alloc (.cells #[.int .i64 0] 3)) #[.slice (some ⟨b1, o1, none⟩) nn c1] 32 (S + 4) (by simp [hS])
    exact this.at_ 0 rfl
  have hcs3 : ∀ j, j < nn → w3.cell? ⟨b1, o1 + j, none⟩ = some (.int .i64 (l[j]?.getD 0)) := fun j hj => ((HK2.out.trans hk3).cell (p := ⟨b1, o1 + j, none⟩) HB1.out).trans (HC1.out j hj)
  have hbS : b1 < S := by have := HK2.out.size; have := HB1.out; omega
  have h00 : 0 < nn := by omega
  have henc : ∀ t, t < nn → stpV (mkS h00 l t) = #[.int .i64 (t : Int), .int .i64 (l[t]?.getD 0)] := fun t ht => by
    have hk : t < l.length := by rw [HLL.out]; exact ht
    have hr := HLN.out.1 (l.getD t 0) (by rw [getD_eq hk]; exact List.getElem_mem _)
    unfold stpV mkS
    dsimp only
    rw [if_pos (by omega), List.getElem?_eq_getElem hk, Int.toNat_of_nonneg hr.1, getD_eq hk]
    rfl
  have HST := Lib.hid (back_stops (mkS h00 l) stpV 9 (by omega) (S + 4) S b1 o1 nn c1 l henc (by omega) hbS w3 (by omega) (by omega) hbs hcs3)
  have HK3 := Lib.hid hk3
  have HCH := Lib.hid hch
  have HSZ := Lib.hid hsz
  have HS := Lib.hid hS
  clear hw3 hk3 hch hbs hcs3 henc hbS hsz hS hmk
  go_wp2_with fail
  try rw [show w2.heap.size + 1 + 1 + 1 + 1 = S + 4 by have := HS.out; omega]
  try rw [show w2.heap.size + 1 + 1 + 1 = S + 3 by have := HS.out; omega]
  try rw [show w2.heap.size + 1 + 1 = S + 2 by have := HS.out; omega]
  try rw [show w2.heap.size + 1 = S + 1 by have := HS.out; omega]
  try rw [HS.out]
  refine (wpIn_wide (n := 10)).1 ?_
  refine wpIn_rangeFunc_ownF rfl (by omega) (gf := 61) (lb := #[.pointer (some ⟨S + 4, 0, none⟩)]) ?hg trivial (enters_of Try.func61 (by kernel_rfl) rfl)
    HST.out KpS.trans (kpS_b (by have := HSZ.out; omega) (by have := HSZ.out; omega)) (Below.refl _ _) (fun _ => rfl)
    (fun pre W => ∃ lv m, HtsC nn ps l h00 pre lv m ∧ ChC w2 W S (.slice (some ⟨b2, o2, none⟩) nn c2) nn lv m)
    (fun _ _ _ => False)
    (fun pre A B row ⟨lv, m, hh, hc⟩ hg hr => ⟨lv, m, hh, hc.grown hg fun r e => ⟨by have := (hr r e).1; have := HSZ.out; have := HS.out; omega, (hr r e).2⟩⟩)
    (fun _ _ _ _ _ hs _ _ => hs)
    ⟨fun _ => 0, 0, ⟨fun _ => by simpa [HLL.out] using Hts.start nn ps l, fun _ => Nat.le_refl _, Nat.le_refl _⟩, HCH.out⟩
    ?a₁ ?assign ?body ?done ?stop
  case hg => rfl
  case assign =>
    intro l' x W K hK
    unfold stpV
    gi_wp2
    exact hK
  case body =>
    rintro l' pre x W ⟨lv, m, hh, hcs⟩ hpl
    obtain ⟨⟨xt, xi⟩, hxi⟩ := x
    dsimp only at hxi
    have HSTEP := Lib.hid (hh.step HLN.out HLL.out hpl ⟨(xt, xi), hxi⟩)
    have HBD := Lib.hid hh.2.1
    have hm6 : m ≤ 6 := by have := hh.2.2; omega
    have HU0 := Lib.hid (HC2.out xi hxi)
    have HUPB := Lib.hid (fun j hj => upL_at ps (by omega) hxi (j := j) hj)
    generalize nth (upL nn ps) xi = z at HU0 HUPB
    have HCS := Lib.hid hcs
    have HPL := Lib.hid hpl
    have q0 := hcs.1
    have i1 : (0 : Int) ≤ (xi : Int) := by omega
    have i2 : (xi : Int) < (nn : Int) := by omega
    clear hh hcs hpl
    gi_wp2
    clear q0
    gi_loopw [40] (fun t wr => ∃ j : Nat, j ≤ nn ∧ t = .int .i64 (j : Nat) ∧ ChC w2 wr S (.slice (some ⟨b2, o2, none⟩) nn c2) nn (updH lv xi (max (lv xi) (mxF ps lv xi j))) m ∧ KeepsOthers W wr ∧ KpS S (S + 4) W wr) (fun t _ => nn - (intOf t).toNat)
    case atStart => exact ⟨0, Nat.zero_le _, rfl, by rw [show mxF ps lv xi 0 = 0 from rfl, Nat.max_zero, updH_id]; exact HCS.out, KeepsOthers.refl _, KpS.refl _ _ _⟩
    case round =>
      obtain ⟨j, hj, rfl, hc4, hko, hkp⟩ := hrel
      have HC4 := Lib.hid hc4
      have HKO := Lib.hid hko
      have HKP := Lib.hid hkp
      have q0 := hc4.1
      have q2 := hc4.2.1
      have u4 := (hc4.2.2.1.kept0.cell (p := ⟨b2, o2 + xi, none⟩) HB2.out).trans HU0.out
      by_cases hlt : j < nn
      · have HMX := Lib.hid (show mxF ps lv xi (j + 1) = if ov ps xi j = true then max (mxF ps lv xi j) (lv j) else mxF ps lv xi j from rfl)
        have hb0 := HUPB.out j hlt
        have j1 : (0 : Int) ≤ (j : Int) := by omega
        have j2 : (j : Int) < (nn : Int) := by omega
        have HLT := Lib.hid hlt
        by_cases hji : j = xi
        · have HMX2 := Lib.hid (show mxF ps lv xi (j + 1) = mxF ps lv xi j by
            rw [HMX.out, if_neg]
            intro ho
            exact (ov_iff.1 ho).1 hji)
          have hne : ((j : Int) != (xi : Int)) = false := by rw [bne_eq_false_iff_eq]; omega
          clear hc4 hko hkp hji hb0
          gi_wp2
          go_roundw
          case rel => exact ⟨j + 1, HLT.out, by go_num, by rw [HMX2.out]; exact HC4.out, HKO.out, HKP.out⟩
          case measure => have := HLT.out; simp [intOf]; omega
        · have hne : ((j : Int) != (xi : Int)) = true := by rw [bne_iff_ne]; omega
          cases hub : under ps xi j with
          | false =>
            have HMX2 := Lib.hid (show mxF ps lv xi (j + 1) = mxF ps lv xi j by
              rw [HMX.out, if_neg]
              intro ho
              have := (ov_iff.1 ho).2
              rw [hub] at this
              cases this)
            rw [hub] at hb0
            clear hc4 hko hkp hji hub
            gi_wp2
            go_roundw
            case rel => exact ⟨j + 1, HLT.out, by go_num, by rw [HMX2.out]; exact HC4.out, HKO.out, HKP.out⟩
            case measure => have := HLT.out; simp [intOf]; omega
          | true =>
            have HMX2 := Lib.hid (show mxF ps lv xi (j + 1) = max (mxF ps lv xi j) (lv j) by
              rw [HMX.out, if_pos]
              exact ov_iff.2 ⟨hji, hub⟩)
            rw [hub] at hb0
            obtain ⟨v1, f1⟩ := hc4.2.2.1.at0 xi (lvV_at _ hxi)
            have v2 := hc4.2.2.1.cell j (lvV_at _ hlt)
            rw [updH_same] at v1
            rw [updH_other hji] at v2
            have hl1 := HBD.out xi
            have hl2 := HBD.out j
            have hmx := mxF_le (ps := ps) (i := xi) HBD.out j
            have hpl := HPL.out
            generalize hA : max (lv xi) (mxF ps lv xi j) = a1 at v1
            have HA := Lib.hid hA
            generalize hL : lv j = a2 at v2 hl2
            have HL := Lib.hid hL
            have ha1 : a1 ≤ 6 := by omega
            have ha2 : a2 ≤ 6 := by omega
            clear hc4 hko hkp hji hub hA hL hl1 hl2 hmx hpl
            by_cases hle : (a1 : Int) < (a2 : Int)
            · have hle2 : a1 < a2 := by omega
              have hvm : max a1 a2 = a2 := by omega
              have HVM := Lib.hid hvm
              clear hvm
              gi_wp2
              refine wpIn_region_tailR 12 (by kernel_rfl) (by kernel_rfl) (by kernel_rfl) ?_
              simp only [List.take_succ_cons, List.take_zero, List.drop_succ_cons, List.drop_zero]
              repeat still_step
              try refine wpStill_nil ?_
              change wpList _ _ _ _ _ wr.drew
              go_wp2_with fail
              refine Nml.intro ?_
              have HC6 : Hid (ChC w2 (wr.setCell ⟨S + 1, xi, none⟩ (.int .i64 (a2 : Int))).drew S (.slice (some ⟨b2, o2, none⟩) nn c2) nn (updH lv xi (max (lv xi) (mxF ps lv xi (j + 1)))) m) := Lib.hid (by
                have := (HC4.out.setL xi a2).kept ((Kept.refl _).drew)
                rw [updH_twice] at this
                rw [show max (lv xi) (mxF ps lv xi (j + 1)) = a2 by have := HMX2.out; have := HA.out; have := HL.out; have := HVM.out; omega]
                exact this)
              have HK6 : Hid (KeepsOthers W (wr.setCell ⟨S + 1, xi, none⟩ (.int .i64 (a2 : Int))).drew) := Lib.hid (HKO.out.trans ((KeepsOthers.setCell _ _ _).trans (KeepsOthers.drew _)))
              have HP6 : Hid (KpS S (S + 4) W (wr.setCell ⟨S + 1, xi, none⟩ (.int .i64 (a2 : Int))).drew) := Lib.hid (HKP.out.trans ((KpS.set (n₀ := S) ⟨S + 1, xi, none⟩ _ (by simp) (by simp)).trans (KpS.kept ((Kept.refl _).drew) (by
                have := HC4.out.2.2.2.lt
                simp only [World.setCell, Array.size_modify]
                omega))))
              gi_wp2
              go_roundw
              case rel => exact ⟨j + 1, HLT.out, by go_num, HC6.out, HK6.out, HP6.out⟩
              case measure => have := HLT.out; simp [intOf]; omega
            · have hle2 : ¬ a1 < a2 := by omega
              have hvm : max a1 a2 = a1 := by omega
              have HVM := Lib.hid hvm
              clear hvm
              gi_wp2
              refine wpIn_region_tailR 12 (by kernel_rfl) (by kernel_rfl) (by kernel_rfl) ?_
              simp only [List.take_succ_cons, List.take_zero, List.drop_succ_cons, List.drop_zero]
              repeat still_step
              try refine wpStill_nil ?_
              change wpList _ _ _ _ _ wr.drew
              go_wp2_with fail
              refine Nml.intro ?_
              have HC6 : Hid (ChC w2 (wr.setCell ⟨S + 1, xi, none⟩ (.int .i64 (a1 : Int))).drew S (.slice (some ⟨b2, o2, none⟩) nn c2) nn (updH lv xi (max (lv xi) (mxF ps lv xi (j + 1)))) m) := Lib.hid (by
                have := (HC4.out.setL xi a1).kept ((Kept.refl _).drew)
                rw [updH_twice] at this
                rw [show max (lv xi) (mxF ps lv xi (j + 1)) = a1 by have := HMX2.out; have := HA.out; have := HL.out; have := HVM.out; omega]
                exact this)
              have HK6 : Hid (KeepsOthers W (wr.setCell ⟨S + 1, xi, none⟩ (.int .i64 (a1 : Int))).drew) := Lib.hid (HKO.out.trans ((KeepsOthers.setCell _ _ _).trans (KeepsOthers.drew _)))
              have HP6 : Hid (KpS S (S + 4) W (wr.setCell ⟨S + 1, xi, none⟩ (.int .i64 (a1 : Int))).drew) := Lib.hid (HKP.out.trans ((KpS.set (n₀ := S) ⟨S + 1, xi, none⟩ _ (by simp) (by simp)).trans (KpS.kept ((Kept.refl _).drew) (by
                have := HC4.out.2.2.2.lt
                simp only [World.setCell, Array.size_modify]
                omega))))
              gi_wp2
              go_roundw
              case rel => exact ⟨j + 1, HLT.out, by go_num, HC6.out, HK6.out, HP6.out⟩
              case measure => have := HLT.out; simp [intOf]; omega
      · have e : nn = j := by omega
        subst e
        obtain ⟨v1, f1⟩ := hc4.2.2.1.at0 xi (lvV_at _ hxi)
        rw [updH_same] at v1
        have hl1 := HBD.out xi
        have hmx := mxF_le (ps := ps) (i := xi) HBD.out nn
        have hpl := HPL.out
        have hc5 := hc4.setL xi (max (lv xi) (mxF ps lv xi nn) + 1)
        rw [updH_twice] at hc5
        obtain ⟨y1, g1⟩ := hc5.2.2.1.at0 xi (lvV_at _ hxi)
        rw [updH_same] at y1
        obtain ⟨y3, g3⟩ := hc5.2.2.2.at0 0 rfl
        have y0 := hc5.2.1
        have HC5 := Lib.hid hc5
        have hw5 : S + 3 < wr.heap.size := hc4.2.2.2.lt
        generalize hV : max (lv xi) (mxF ps lv xi nn) = v at v1 hc5 y1 y3 g1 g3 y0 HC5 HSTEP
        have hv6 : v ≤ 6 := by omega
        clear hc4 hko hkp hc5 hl1 hmx hpl hV hlt hj
        have ev : ((v + 1 : Nat) : Int) = (v : Int) + 1 := by omega
        rw [ev] at y1 y3 g1 g3 y0 HC5
        clear ev
        obtain ⟨w5, hw5⟩ : ∃ w5, wr.setCell ⟨S + 1, xi, none⟩ (.int .i64 ((v : Int) + 1)) = w5 := ⟨_, rfl⟩
        rw [hw5] at y0 y1 y3 g1 g3 HC5
        have HK5 := Lib.hid (show KeepsOthers W w5 by rw [← hw5]; exact HKO.out.trans (KeepsOthers.setCell _ _ _))
        have HP5 := Lib.hid (show KpS S (S + 4) W w5 by rw [← hw5]; exact HKP.out.trans (KpS.set (n₀ := S) ⟨S + 1, xi, none⟩ _ (by simp) (by simp)))
        have HW5 := Lib.hid hw5
        clear hw5
        by_cases hle : (m : Int) < (v : Int) + 1
        · have hle2 : m < v + 1 := by omega
          have hvm : max m (v + 1) = (v + 1) := by omega
          have HVM := Lib.hid hvm
          clear hvm
          gi_wp2
          rw [HW5.out]
          refine wpIn_region_tailR 6 (by kernel_rfl) (by kernel_rfl) (by kernel_rfl) ?_
          simp only [List.take_succ_cons, List.take_zero, List.drop_succ_cons, List.drop_zero]
          repeat still_step
          try refine wpStill_nil ?_
          change wpList _ _ _ _ _ w5.drew
          go_wp2_with fail
          refine Nml.intro ?_
          have HI6 : Hid (∃ lv9 m9, HtsC nn ps l h00 (pre ++ [⟨(xt, xi), hxi⟩]) lv9 m9 ∧ ChC w2 ((w5.setCell ⟨S + 3, 0, none⟩ (.int .i64 ((v : Int) + 1))).drew) S (.slice (some ⟨b2, o2, none⟩) nn c2) nn lv9 m9) := Lib.hid (by
            refine ⟨updH lv xi (v + 1), max m (v + 1), HSTEP.out, ?_⟩
            have := (HC5.out.setM ((v + 1))).kept ((Kept.refl _).drew)
            rw [HVM.out]
            exact this)
          have HK6 : Hid (KeepsOthers W ((w5.setCell ⟨S + 3, 0, none⟩ (.int .i64 ((v : Int) + 1))).drew)) := Lib.hid (HK5.out.trans ((KeepsOthers.setCell _ _ _).trans (KeepsOthers.drew _)))
          have HP6 : Hid (KpS S (S + 4) W ((w5.setCell ⟨S + 3, 0, none⟩ (.int .i64 ((v : Int) + 1))).drew)) := Lib.hid (HP5.out.trans ((KpS.set (n₀ := S) ⟨S + 3, 0, none⟩ _ (by simp) (by simp)).trans (KpS.kept ((Kept.refl _).drew) (by
            have := HC5.out.2.2.2.lt
            simp only [World.setCell, Array.size_modify]
            omega))))
          clear y0 y1 y3 g1 g3
          gi_wp2
          exact ⟨HK6.out, HP6.out, HI6.out⟩
        · have hle2 : ¬ m < v + 1 := by omega
          have hvm : max m (v + 1) = m := by omega
          have HVM := Lib.hid hvm
          clear hvm
          gi_wp2
          rw [HW5.out]
          refine wpIn_region_tailR 6 (by kernel_rfl) (by kernel_rfl) (by kernel_rfl) ?_
          simp only [List.take_succ_cons, List.take_zero, List.drop_succ_cons, List.drop_zero]
          repeat still_step
          try refine wpStill_nil ?_
          change wpList _ _ _ _ _ w5.drew
          go_wp2_with fail
          refine Nml.intro ?_
          have HI6 : Hid (∃ lv9 m9, HtsC nn ps l h00 (pre ++ [⟨(xt, xi), hxi⟩]) lv9 m9 ∧ ChC w2 ((w5.setCell ⟨S + 3, 0, none⟩ (.int .i64 (m : Int))).drew) S (.slice (some ⟨b2, o2, none⟩) nn c2) nn lv9 m9) := Lib.hid (by
            refine ⟨updH lv xi (v + 1), max m (v + 1), HSTEP.out, ?_⟩
            have := (HC5.out.setM (m)).kept ((Kept.refl _).drew)
            rw [HVM.out]
            exact this)
          have HK6 : Hid (KeepsOthers W ((w5.setCell ⟨S + 3, 0, none⟩ (.int .i64 (m : Int))).drew)) := Lib.hid (HK5.out.trans ((KeepsOthers.setCell _ _ _).trans (KeepsOthers.drew _)))
          have HP6 : Hid (KpS S (S + 4) W ((w5.setCell ⟨S + 3, 0, none⟩ (.int .i64 (m : Int))).drew)) := Lib.hid (HP5.out.trans ((KpS.set (n₀ := S) ⟨S + 3, 0, none⟩ _ (by simp) (by simp)).trans (KpS.kept ((Kept.refl _).drew) (by
            have := HC5.out.2.2.2.lt
            simp only [World.setCell, Array.size_modify]
            omega))))
          clear y0 y1 y3 g1 g3
          gi_wp2
          exact ⟨HK6.out, HP6.out, HI6.out⟩
  case done =>
    rintro D ys W hD rfl ⟨lv, m, hh, hcs⟩ hK
    have hh1 := hh.1 (by rw [bks_length])
    rw [bks_length, Nat.sub_self] at hh1
    have hlev := hh1.lev HLN.out HLL.out (by omega)
    have HLEV := Lib.hid hlev
    have hm6 : m ≤ 6 := by have := hlev.few; omega
    have hDlt : D < W.heap.size := (Array.getElem?_eq_some_iff.1 hK).1
    obtain ⟨B9, hB9⟩ : ∃ B9, W.heap.size = B9 := ⟨_, rfl⟩
    have H0 := Lib.hid (show ChL w2 S B9 D (.slice (some ⟨b2, o2, none⟩) nn c2) nn ps lv m [] m (.slice none 0 0) W from ⟨CInv.start nn ps lv m, hcs, Own.start hcs.2.2.1.kept0, fun k e => by simp [Value.ownBlock] at e, hK, by omega⟩)
    have HDB := Lib.hid (show S + 5 ≤ D ∧ D < B9 by have := HSZ.out; omega)
    clear hh hh1 hlev hcs hK hDlt hB9 hD
    go_wp2_with fail
    go_loopw [15] (fun v wr => ∃ c mc, ChL w2 S B9 D (.slice (some ⟨b2, o2, none⟩) nn c2) nn ps lv m c mc v wr) (fun v _ => m - lenV v)
    case atStart => exact ⟨[], m, H0.out⟩
    case round =>
      obtain ⟨c, mc, hcl⟩ := hrel
      have HCL := Lib.hid hcl
      obtain ⟨A5, c5, rfl, hsl5, hle5⟩ := hcl.2.2.1.form
      obtain ⟨y3, g3⟩ := hcl.2.1.2.2.2.at0 0 rfl
      have y0 := hcl.2.1.1
      have hclen := hcl.1.len
      have HSL5 := Lib.hid hsl5
      rcases mc with _ | mc
      · clear hcl hsl5
        have hLong : Longest nn ps c.length := ⟨⟨c, HCL.out.1.chain, rfl⟩, lv, by have := HLEV.out; rw [show c.length = m by omega]; exact this⟩
        have hkw : Kept w wr := HK1.out.trans (HK2.out.trans HCL.out.2.2.1.kept0)
        have hsw : w.heap.size ≤ w2.heap.size := (HK1.out.trans HK2.out).size
        have hfin : Kept w (wr.putObj D (.deferred none)) := Below.trans hkw (belowK_b (n₀ := w.heap.size) (w := w2) hsw wr D _ _ (by have := HDB.out; have := HS.out; omega) HCL.out.2.2.2.2.1 rfl rfl)
        have HLO := Lib.hid hLong
        have HFI := Lib.hid hfin
        clear hLong hkw hsw hfin
        go_wp2_with fail
        refine ⟨by simp, .inl ⟨_, _, rfl, run_takeDeferred HCL.out.2.2.2.2.1, ?_⟩⟩
        exact ⟨_, results_tmp2 rfl _ _ _, HFI.out, A5, c.length, c5, rfl, HLO.out⟩
      · have hpos : (0 : Int) < ((mc + 1 : Nat) : Int) := by omega
        obtain ⟨wb, hwb⟩ : ∃ wb, wb = wr := ⟨_, rfl⟩
        have HWB := Lib.hid hwb
        have HCW := Lib.hid (show ChL w2 S B9 D (.slice (some ⟨b2, o2, none⟩) nn c2) nn ps lv m c (mc + 1) (.slice A5 c.length c5) wb by rw [hwb]; exact hcl)
        have HK0 := Lib.hid (show Kept wb wr by rw [hwb]; exact Kept.refl _)
        clear hcl hsl5 hwb
        generalize hcn : c.length = n
        have HCN := Lib.hid hcn
        have hn6' : n ≤ 6 := by omega
        clear hcn hclen hle5
        go_wp2_with fail
        clear y0 y3 g3
        go_loopw [15, 87] (fun v t wz => ∃ i : Nat, i ≤ nn ∧ t = .int .i64 (i : Nat) ∧ v = .slice A5 n c5 ∧ Kept wb wz ∧ Hid (∀ i', i' < i → ¬ (lv i' = mc + 1 ∧ (c = [] ∨ under ps (c.getD (c.length - 1) 0) (i' : Int) = true)))) (fun _ t _ => nn - (intOf t).toNat)
        case atStart => exact ⟨0, Nat.zero_le _, rfl, rfl, HK0.out, Lib.hid fun i' h => by omega⟩
        case round =>
          obtain ⟨i, hi, rfl, rfl, hkz, HNO⟩ := hrel
          by_cases hlt : i < nn
          · have hC := HCW.out.kept hkz
            have x0 := kw_cell hC.2.1.1
            have x1 := kw_cell hC.2.1.2.1
            have x2 := kw_cell (hC.2.1.2.2.1.cell i (lvV_at _ hlt))
            have x3 := kw_cell (hC.2.1.2.2.2.cell 0 rfl)
            have i1 : (0 : Int) ≤ (i : Int) := by omega
            have i2 : (i : Int) < (nn : Int) := by omega
            have HLT := Lib.hid hlt
            have HLI := Lib.hid (show lv i = lv i from rfl)
            have HCZ := Lib.hid hC
            generalize hgi : lv i = gi at x2
            have HGI := Lib.hid hgi
            clear hC hlt hgi HLI
            by_cases hge : gi = mc + 1
            · have hbe : ((gi : Int) == (mc : Int) + 1) = true := by rw [beq_iff_eq]; omega
              have hbe2 : ((gi : Int) == ((mc + 1 : Nat) : Int)) = true := by rw [beq_iff_eq]; omega
              have hbe3 : (gi == mc + 1) = true := by rw [beq_iff_eq]; omega
              have HLV := Lib.hid (show lv i = mc + 1 by rw [HGI.out]; exact hge)
              by_cases hn0 : n = 0
              · have HU : Hid (c = [] ∨ under ps (c.getD (c.length - 1) 0) (i : Int) = true) := Lib.hid (.inl (List.eq_nil_of_length_eq_zero (by have := HCN.out; omega)))
                have HCE := Lib.hid (show c = [] from List.eq_nil_of_length_eq_zero (by have := HCN.out; omega))
                subst hn0
                clear hge
                go_wp2_with fail
                refine wp_region_kept (by kernel_rfl) (by kernel_rfl) ?_
                repeat (go_big_quiet_step (fail))
                refine wpQuiet_nil ?_
                intro w6 k6
                have HK6 := Lib.hid (hkz.trans k6)
                clear x0 x1 x2 x3
                obtain rfl : c = [] := HCE.out
                have HC6 := Lib.hid (HCW.out.kept HK6.out)
                go_wp2_with (at_builtin; refine wpList_pushAt rfl _ _ 32 rfl 3 Try.underlying32 info_i64 rfl (by decide) (by decide) _ _ _ _ HC6.out.2.2.1 #[.int .i64 (i : Int)] 3 _ 1 1 rfl rfl rfl rfl (one_i64 _) (by have := HC6.out.1.len; first | omega | (simp; done)) ?_; intro v7 w7 hown7 hgr7 hat7; have hadd := HC6.out.add HS.out HDB.out HLT.out HLV.out (.inl rfl) hown7 hgr7 hat7; obtain ⟨p3, pf3⟩ := hadd.1.2.2.2.at0 0 rfl; have HADD := Lib.hid hadd.2; obtain ⟨A7, c7, rfl, _, _⟩ := hown7.form; clear hadd hown7 hgr7 hat7)
                go_roundw
                case rel =>
                  have hlc := HC6.out.1.len
                  have hw : wrap64 (mc : Int) = (mc : Int) := IntWalk.wrap64_in _ ⟨by omega, by omega⟩
                  rw [hw]
                  exact ⟨_, mc, HADD.out⟩
                case measure => have := HC6.out.1.len; have := HCN.out; simp only [lenV]; omega
              · rcases HCW.out.1.last with hnil | ⟨z, hz, e1, e2, _⟩
                · exfalso
                  have := HCN.out
                  rw [hnil] at this
                  exact hn0 this.symm
                · obtain ⟨n', rfl⟩ : ∃ n', n = n' + 1 := ⟨n - 1, by omega⟩
                  have hsl6 := (HCZ.out.2.2.1.form)
                  obtain ⟨A6, c6, e6, hsl6, _⟩ := hsl6
                  injection e6 with e6 _ e7
                  subst e6 e7
                  obtain ⟨lb, lo, rfl, hlb, hlc⟩ := hsl6.2 (by have := HCN.out; omega)
                  have hclen2 := HCN.out
                  have hl2 : n' < c.length := by omega
                  have x4 := kw_cell (hlc n' (.int .i64 (z : Int)) (by
                    rw [List.getElem?_map, List.getElem?_eq_getElem hl2]
                    rw [show c.length - 1 = n' by omega, getD_eq hl2] at e1
                    rw [e1]
                    rfl))
                  have x5 := kw_cell ((HCZ.out.2.2.1.kept0.cell (p := ⟨b2, o2 + z, none⟩) HB2.out).trans (HC2.out z hz))
                  have hbz := upL_at ps (by omega) hz (j := i) HLT.out
                  generalize nth (upL nn ps) z = zw at x5 hbz
                  have i3 : (0 : Int) ≤ (z : Int) := by omega
                  have i4 : (z : Int) < (nn : Int) := by omega
                  have HE1 := Lib.hid e1
                  have ew : wrap64 (((n' + 1 : Nat) : Int) - 1) = (n' : Int) := by rw [show ((n' + 1 : Nat) : Int) - 1 = (n' : Int) by omega]; exact IntWalk.wrap64_in _ ⟨by omega, by omega⟩
                  have ew2 : IntKind.i64.wrap (((n' : Nat) : Int) + 1 - 1) = (n' : Int) := (IntWalk.i64_left _).trans (by rw [show (n' : Int) + 1 - 1 = (n' : Int) by omega]; exact IntWalk.wrap64_in _ ⟨by omega, by omega⟩)
                  have ew3 : (n' : Int) + 1 - 1 = (n' : Int) := by omega
                  have i5 : (0 : Int) ≤ (n' : Int) := by omega
                  have i6 : (n' : Int) < (n' : Int) + 1 := by omega
                  have hb0 : ((n' : Int) + 1 == 0) = false := by rw [beq_eq_false_iff_ne]; omega
                  clear hge hn0 hsl6 hlb hlc hclen2 hl2 e1 e2
                  cases hub : under ps z i with
                  | true =>
                    have HU : Hid (c = [] ∨ under ps (c.getD (c.length - 1) 0) (i : Int) = true) := Lib.hid (.inr (by rw [HE1.out]; exact hub))
                    rw [hub] at hbz
                    clear hub
                    go_wp2_with fail
                    refine wp_region_kept (by kernel_rfl) (by kernel_rfl) ?_
                    repeat (go_big_quiet_step (fail))
                    refine wpQuiet_nil ?_
                    intro w6 k6
                    have HK6 := Lib.hid (hkz.trans k6)
                    clear x0 x1 x2 x3 x4 x5
                    rw [← HCN.out]
                    have HC6 := Lib.hid (HCW.out.kept HK6.out)
                    go_wp2_with (at_builtin; refine wpList_pushAt rfl _ _ 32 rfl 3 Try.underlying32 info_i64 rfl (by decide) (by decide) _ _ _ _ HC6.out.2.2.1 #[.int .i64 (i : Int)] 3 _ 1 1 rfl rfl rfl rfl (one_i64 _) (by have := HC6.out.1.len; first | omega | (simp; done)) ?_; intro v7 w7 hown7 hgr7 hat7; have hadd := HC6.out.add HS.out HDB.out HLT.out HLV.out HU.out hown7 hgr7 hat7; obtain ⟨p3, pf3⟩ := hadd.1.2.2.2.at0 0 rfl; have HADD := Lib.hid hadd.2; obtain ⟨A7, c7, rfl, _, _⟩ := hown7.form; clear hadd hown7 hgr7 hat7)
                    go_roundw
                    case rel =>
                      have hlc := HC6.out.1.len
                      have hw : wrap64 (mc : Int) = (mc : Int) := IntWalk.wrap64_in _ ⟨by omega, by omega⟩
                      rw [hw]
                      exact ⟨_, mc, HADD.out⟩
                    case measure => have := HC6.out.1.len; have := HCN.out; simp only [lenV]; omega
                  | false =>
                    rw [hub] at hbz
                    have HUB := Lib.hid hub
                    clear hub
                    have HNO2 : Hid (∀ i', i' < i + 1 → ¬ (lv i' = mc + 1 ∧ (c = [] ∨ under ps (c.getD (c.length - 1) 0) (i' : Int) = true))) := Lib.hid (fun i' hi' hh => by
                      rcases Nat.lt_or_ge i' i with hlt' | hge'
                      · exact HNO.out i' hlt' hh
                      · obtain rfl : i' = i := by omega
                        rcases hh.2 with h9 | h9
                        · have := HCN.out
                          rw [h9] at this
                          simp at this
                        · rw [HE1.out, HUB.out] at h9
                          cases h9)
                    go_wp2_with fail
                    refine wp_region_kept (by kernel_rfl) (by kernel_rfl) ?_
                    repeat (go_big_quiet_step (fail))
                    refine wpQuiet_nil ?_
                    intro w6 k6
                    have HK6 := Lib.hid (hkz.trans k6)
                    clear x0 x1 x2 x3 x4 x5
                    go_wp2_with fail
                    go_roundw
                    case rel => exact ⟨i + 1, HLT.out, by go_num, rfl, HK6.out, HNO2⟩
                    case measure => have := HLT.out; simp [intOf]; omega
            · have hbe : ((gi : Int) == (mc : Int) + 1) = false := by rw [beq_eq_false_iff_ne]; omega
              have hbe2 : ((gi : Int) == ((mc + 1 : Nat) : Int)) = false := by rw [beq_eq_false_iff_ne]; omega
              have hbe3 : (gi == mc + 1) = false := by rw [beq_eq_false_iff_ne]; omega
              have HNE := Lib.hid hge
              clear hge
              have HNO2 : Hid (∀ i', i' < i + 1 → ¬ (lv i' = mc + 1 ∧ (c = [] ∨ under ps (c.getD (c.length - 1) 0) (i' : Int) = true))) := Lib.hid (fun i' hi' hh => by
                rcases Nat.lt_or_ge i' i with hlt' | hge'
                · exact HNO.out i' hlt' hh
                · obtain rfl : i' = i := by omega
                  exact HNE.out (by rw [← HGI.out]; exact hh.1))
              go_wp2_with fail
              refine wp_region_kept (by kernel_rfl) (by kernel_rfl) ?_
              repeat (go_big_quiet_step (fail))
              refine wpQuiet_nil ?_
              intro w6 k6
              have HK6 := Lib.hid (hkz.trans k6)
              clear x0 x1 x2 x3
              go_wp2_with fail
              go_roundw
              case rel => exact ⟨i + 1, HLT.out, by go_num, rfl, HK6.out, HNO2⟩
              case measure => have := HLT.out; simp [intOf]; omega
          · exfalso
            obtain ⟨i', h1, h2, h3⟩ := HCW.out.1.some HLEV.out (by omega)
            exact HNO.out i' (by omega) ⟨h2, h3⟩
  case stop =>
    rintro D c pre W _ _ h _
    exact h.elim
theorem chain_no (n : Int) (A : Option Addr) (len c : Nat) (ps : List Pr) (w : World) (hp : SlP w A len ps) (hc : ordF n ps ≠ 0) :
    Calls Try.prog 22 #[.int .i64 n, .slice A len c] w fun e w' => Kept w w' ∧ e = .returned (.tuple #[.slice none 0 0, .int .i64 (ordF n ps)]) := by
  refine (callsIn_wide (n := 10)).1 (callsIn_of_wp_marks Try.func22 rfl trivial ?_ rfl)
  simp only [Try.ntmps22, List.size_toArray, List.length_cons, List.length_nil, Nat.reduceAdd, Nat.reduceSub, Array.replicate_succ, Array.replicate_zero, List.push_toArray, List.append_toArray, List.nil_append, List.cons_append]
  refine wpIn_wide.2 ?_
  go_wp2_with fail
  refine (line_any n _ _ _ ps _ hp).mono ?_
  rintro e w1 ⟨k1, ⟨h0, _⟩ | ⟨hne, rfl⟩⟩
  case inl => exact absurd h0 hc
  have hne2 : (ordF n ps != 0) = true := hne
  have HK1 := Lib.hid k1
  clear k1 hne hc hp
  go_wp2_with fail
  exact ⟨_, results_tmp2 rfl _ _ _, HK1.out, rfl⟩
end Go.Proofs.Ytgcpomdlajoifaa
