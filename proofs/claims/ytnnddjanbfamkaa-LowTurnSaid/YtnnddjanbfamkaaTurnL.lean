/- Labels the other way up, as a list; two lists of labels that are the same; a row of the highest label. -/
import Derived.Test.YtnnddjanbfamkaaMark2
import Derived.Test.YtnnddjanbfamkaaTurnP
namespace Go.Proofs.Ytnnddjanbfamkaa
open Go Go.RowKit
set_option linter.unusedVariables false

theorem wpList_pushR {P : Program} {ops : Array Oper} {rest : List Oper} {o : Oper} {a : Act} {Q : Exit → Act → World → Prop} {w0 : World} (hgd : o.guard = none) (s x : Operand) (t : TypeId)
    (ho : o.op = .call { callee := .builtin .append, args := #[s, x], argTypes := #[t, t] })
    (e : TypeId) {z : Value} {size bytes : Nat} (ht : P.underlying t = some (.slice e)) (hi : (P.info? e).map (fun i => (i.zero, i.size, i.bytes)) = some (some z, size, bytes))
    (hzs : z.cells.size = size) (hsz : 0 < size) (hb0 : 0 < bytes)
    (wr : World) (v : Value) (n : Nat) (xs : List Value) (hown : Own w0 wr e size v n xs) (cs : Array Value) (t' : TypeId) (B m c : Nat)
    (hs : a.eval s = v) (hx : a.eval x = .slice (some ⟨B, 0, none⟩) m c) (hB : wr.heap.size = B) (hl : cs.size = m * size) (h1 : ∀ u ∈ cs.toList, u.oneCell' = true) (hn : (n + m) * bytes ≤ 140737488355328)
    (h : ∀ v' w', Own w0 w' e size v' (n + m) (xs ++ cs.toList) → (wr.alloc (.cells cs t')).grownBy w' v.ownBlock → wpList P ops Q rest (a.put o.dst v') w') : wpList P ops Q (o :: rest) a (wr.alloc (.cells cs t')) := by
  obtain ⟨i, hi0, hz, hsize, hby⟩ := info_parts hi
  subst hB
  have hnm : n + m ≤ (n + m) * bytes := Nat.le_mul_of_pos_right _ hb0
  refine wpList_append_own _ hgd s x t ho w0.heap.size e i z size bytes ht hi0 hz hsize hby hzs hsz v n xs hs (World.ownsRow.alloc hown.1 _) ⟨wr.heap.size, 0, none⟩ m c cs.toList hx (by simpa using hl) ?_ h1
    (by unfold maxLen; omega) hn (Nat.le_trans hown.2.size (by simp)) ?_
  · intro j u hu
    have hc := (Sl.new wr cs t' size m hl).2
    have hadd : (⟨wr.heap.size, 0, none⟩ : Addr).add j = ⟨wr.heap.size, j, none⟩ := by
      unfold Addr.add
      split
      · rename_i h0; subst h0; rfl
      · simp
    rw [hadd, cell_of_row _ _ _ cs t' (0, 0) (heap_alloc_new wr _)]
    simpa using hu
  · intro v' w' hown' hg _
    refine h v' w' ⟨hown', Below.grown (hown.2.alloc _) hg (Nat.le_trans hown.2.size (by simp)) fun k hk => (World.ownsRow.lt hown.1 k hk).1⟩ hg
theorem one_lab2 (a : Int) (b : Int) : ∀ u ∈ (#[Value.int .i64 a, Value.int .u32 b] : Array Value).toList, u.oneCell' = true := fun u hu => by
  simp at hu
  rcases hu with rfl | rfl <;> rfl
theorem bits_31 (x : BitVec 32) : bits .andNot .u32 31 (W x) = W (31#32 &&& ~~~x) := bits_andNot_W 31#32 x
theorem labCells_snoc (ls : List Lab) (x : Lab) : labCells (ls ++ [x]) = labCells ls ++ [.int .i64 x.1, .int .u32 (W x.2)] := by rw [labCells_append]; simp [labCells, labv]
def RetLab (w : World) (n : Nat) (ls : List Lab) (e : Ending) (w' : World) : Prop := ∃ A c, e = .returned (.slice A n c) ∧ SlLab w' A n ls ∧ Kept w w'
theorem turnLs_any (A : Option Addr) (n c : Nat) (ls : List Lab) (w : World) (hp : SlLab w A n ls) (hn : n ≤ 1000) (hok : ∀ x ∈ ls, labOk x = true) :
    Calls Try.prog 27 #[.slice A n c] w (RetLab w n (ls.map turnL)) := by
  have HL := Lib.hid hp.2
  have HB := Lib.hid bits_31
  go_enter Try.func27, Try.ntmps27
  go_wp2_with fail
  go_loopw [3, 8] (fun v t wr => ∃ k : Nat, k ≤ n ∧ t = .int .i64 k ∧ Own w wr 24 2 v k (labCells ((ls.take k).map turnL))) (fun _ t _ => n - (intOf t).toNat)
  case atStart => exact ⟨0, Nat.zero_le _, rfl, Own.start (Kept.refl _)⟩
  case round =>
    obtain ⟨k, hk, rfl, hown⟩ := hrel
    by_cases hlt : k < n
    · obtain ⟨b, off, hkl, rfl, hb, c1, c2⟩ := (hp.kept hown.2).get k hlt
      have HS := Lib.hid (show (ls.take (k + 1)).map turnL = (ls.take k).map turnL ++ [turnL ls[k]] by rw [take_snoc _ _ hkl, List.map_append]; rfl)
      have hko := labOk_iff.1 (show labOk (ls[k].1, ls[k].2) = true from hok _ (List.getElem_mem _))
      have hb1 : 0 ≤ 3 - ls[k].1 := by omega
      have hb2 : 3 - ls[k].1 ≤ 3 := by omega
      have HT := Lib.hid (show turnL ls[k] = (3 - ls[k].1, 31#32 &&& ~~~ls[k].2) from rfl)
      generalize turnL ls[k] = y at HS HT
      generalize ls[k].1 = l at c1 HT hb1 hb2
      generalize ls[k].2 = p at c2 HT
      have hbits := HB.out p
      have hown' := hown.alloc (.cells #[.int .i64 l, .int .u32 (W p)] 24)
      clear hko
      go_wp2_with (at_builtin; refine wpList_push rfl _ _ 36 rfl 24 Try.underlying36 info_label rfl (by decide) (by decide) _ _ _ _ hown' #[.int .i64 (3 - l), .int .u32 (W (31#32 &&& ~~~p))] _ _ 1 1 rfl rfl (by simp) rfl (one_lab2 _ _) (by omega) ?_; intro v' w7 hown7 _)
      go_roundw
      case rel => exact ⟨k + 1, by omega, by go_num, by rw [HS.out, labCells_snoc, HT.out]; simpa using hown7⟩
      case measure => simp [intOf]; omega
    · have HK := Lib.hid (show k = n by omega)
      have HT := Lib.hid (show (ls.take k).map turnL = ls.map turnL by rw [take_all ls k (by rw [HL.out]; omega)])
      rw [HT.out, HK.out] at hown
      obtain ⟨A2, c2, rfl, hsl, _⟩ := hown.form
      have FIN := Lib.hid (show RetLab w n (ls.map turnL) (.returned (.slice A2 n c2)) wr from ⟨A2, c2, rfl, ⟨hsl, by rw [List.length_map, HL.out]⟩, hown.2⟩)
      go_wp2_with fail
      go_ret
      exact FIN.out
theorem neq_lab (l : Int) (p : Int) (w : World) : (binOp .neq 24 (.agg #[.int .i64 l, .int .u32 p]) (.agg #[.int .i64 l, .int .u32 p])).run Try.prog w = .ok (.bool false) w := by
  have h1 : Try.prog.stoodInHeld 24 = false := by kernel_rfl
  have h2 : Try.prog.underlying 24 = some (.struct (Try.prog.fieldsOf 24)) := by kernel_rfl
  rw [run_neq_struct, run_equalIn_struct _ 9999 _ _ _ h2 h1]
  simp [Program.fieldsOf, Try.underlying24, go_sem, Try.underlying3, Try.underlying22]
set_option maxHeartbeats 400000 in
theorem labels_same (A : Option Addr) (n c : Nat) (A2 : Option Addr) (c2 : Nat) (xs : List Lab) (w : World) (hx : SlLab w A n xs) (hy : SlLab w A2 n xs) (hn : n ≤ maxLen) :
    Calls Try.prog 29 #[.slice A n c, .slice A2 n c2] w fun e w' => e = .returned (.bool true) ∧ Kept w w' := by
  unfold maxLen at hn
  have hb : ((n : Int) != (n : Int)) = false := by simp
  have hmx : Try.prog.eqGuardType Try.prog.depth 24 = false := by kernel_rfl
  go_enter Try.func29, Try.ntmps29
  go_wp2_with fail
  go_loopw [5] (fun t wr => ∃ k : Nat, k ≤ n ∧ t = .int .i64 k ∧ Kept w wr) (fun t _ => n - (intOf t).toNat)
  case atStart => exact ⟨0, Nat.zero_le _, rfl, Kept.refl _⟩
  case round =>
    obtain ⟨k, hk, rfl, hkw⟩ := hrel
    by_cases hlt : k < n
    · obtain ⟨b1, o1, hl1, rfl, _, c1', d1'⟩ := (hx.kept hkw).get k hlt
      obtain ⟨b2, o2, hl2, rfl, _, c2', d2'⟩ := (hy.kept hkw).get k hlt
      have hi1 : (0 : Int) ≤ (k : Int) := by omega
      have hi2 : (k : Int) < (n : Int) := by omega
      generalize xs[k].1 = l at c1' c2'
      generalize W xs[k].2 = p at d1' d2'
      have hnq := fun w => neq_lab l p w
      go_wp2_with fail
      go_quiet (fail)
      go_wp2_with fail
      go_roundw
      case rel => exact ⟨k + 1, by omega, by go_num, hkw.drewN nq⟩
      case measure => simp [intOf]; omega
    · go_wp2_with fail
      go_ret
      exact ⟨rfl, hkw⟩
end Go.Proofs.Ytnnddjanbfamkaa
