/- Words of acts and pairs of states in memory; slices.Clone at acts; what Leak holds. -/
import Derived.Test.YtjcooagchjjknaaChecked
import Derived.Test.YtjcooagchjjknaaView4
import Derived.Test.YtjcooagchjjknaaMapK
import Derived.Test.YtjcooagchjjknaaQueue
import Derived.DeepKeys4
import Derived.Deep.RegionLaw
import Derived.Deep.RegionHeld3
import Derived.StillTailTactics
namespace Go.Proofs.Ytjcooagchjjknaa
open Go Go.RowKit
set_option linter.unusedVariables false
set_option linter.unusedSimpArgs false

/-! ### pairs as keys -/
theorem vwLaidOut : laidOutB Try.prog = true := by kernel_rfl
theorem vwInt : Try.prog.cellsOf 3 = 1 := by kernel_rfl
theorem wf_smallV {n : Nat} (h : n ≤ 1000) : (Lit.int .i64 (n : Int)).wf = true := by
  simp [Lit.wf, IntKind.min, IntKind.max, IntKind.signed, IntKind.bits]
  omega
def vpV (p : Nat × Nat) : Value := .agg #[.int .i64 p.1, .int .i64 p.2]
theorem vpV_inj {p q : Nat × Nat} (h : vpV p = vpV q) : p = q := by
  unfold vpV at h
  simp at h
  exact Prod.ext (by omega) (by omega)
theorem vpRow : (84 : TypeId) < Try.prog.types.size := of_decide_eq_true (by kernel_rfl)
theorem vpAt : Try.prog.keyTypeAt 2 84 = true := by kernel_rfl
theorem vpLaw : Go.WideMaps.KeyLaw Try.prog 84 := deep_law_laid vwLaidOut (m := 2) (by omega) vpRow vpAt (by simp only [Try.underlying84])
theorem vpKeyed : Go.Maps.Keyed Try.prog 84 := Go.Maps.Keyed.of_law vpLaw
theorem vpKT : Try.prog.keyType 84 = true := by kernel_rfl
theorem vpCells : Try.prog.cellsOf 84 = 2 := by kernel_rfl
theorem zero_acts (w : World) : (zeroValue 65).run Try.prog w = .ok (.slice none 0 0) w := by kernel_rfl
theorem vp_key (p : Nat × Nat) (hx : p.1 ≤ 1000) (hy : p.2 ≤ 1000) : ∃ l, keyOf Try.prog 84 (vpV p) = some l := by
  obtain ⟨m, hm⟩ : ∃ m, Try.prog.types.size = m + 1 := Nat.exists_eq_succ_of_ne_zero (Nat.ne_of_gt (Nat.lt_of_le_of_lt (Nat.zero_le _) vpRow))
  have w1 := wf_smallV hx
  have w2 := wf_smallV hy
  have hu := Try.underlying84
  have hi := Try.underlying3
  unfold keyOf
  simp only [hu]
  have hf : (vpV p).formed Try.prog 84 = true := by
    unfold Value.formed vpV
    simp only [hu, vpCells]
    rfl
  rw [vpKT, hf, hm]
  simp only [Bool.and_self, if_true]
  unfold vpV
  unfold Program.keyLits
  simp only [hu]
  simp [Value.cells, vpCells, vwInt, Program.keyLits, hi, w1, w2, List.range_succ]
/-! ### words -/
theorem info_act : (Try.prog.info? 90).map (fun i => (i.zero, i.size, i.bytes)) = some (some (.agg #[.int .i64 0, .int .i64 0]), 2, 16) := by kernel_rfl
theorem info_pair : (Try.prog.info? 84).map (fun i => (i.zero, i.size, i.bytes)) = some (some (.agg #[.int .i64 0, .int .i64 0]), 2, 16) := by kernel_rfl
/-- an act as it is read -/
abbrev Ai := Int × Int
def aiC (a : Ai) : List Value := [.int .i64 a.1, .int .i64 a.2]
def actCells (l : List Ai) : List Value := l.flatMap aiC
theorem actCells_length (l : List Ai) : (actCells l).length = l.length * 2 := by
  induction l with
  | nil => rfl
  | cons a l ih =>
    unfold actCells at ih ⊢
    rw [List.flatMap_cons, List.length_append, ih, List.length_cons]
    show 2 + _ = _
    omega
theorem actCells_append (l m : List Ai) : actCells (l ++ m) = actCells l ++ actCells m := by unfold actCells; rw [List.flatMap_append]
theorem one_acts (l : List Ai) : ∀ u ∈ actCells l, u.oneCell' = true := fun u hu => by
  unfold actCells at hu
  rw [List.mem_flatMap] at hu
  obtain ⟨x, _, hx⟩ := hu
  simp [aiC] at hx
  rcases hx with rfl | rfl <;> rfl
theorem one_ai (a b : Int) : ∀ u ∈ (#[Value.int .i64 a, Value.int .i64 b] : Array Value).toList, u.oneCell' = true := fun u hu => by
  simp at hu
  rcases hu with rfl | rfl <;> rfl
def SlAct (w : World) (A : Option Addr) (n : Nat) (l : List Ai) : Prop := Sl w 2 A n (actCells l) ∧ l.length = n
theorem SlAct.kept {w w' : World} {A : Option Addr} {n : Nat} {l : List Ai} (h : SlAct w A n l) (k : Kept w w') : SlAct w' A n l := ⟨h.1.kept k, h.2⟩
theorem cloneA_any (A : Option Addr) (n c : Nat) (ls : List Ai) (w : World) (hs : SlAct w A n ls) (hn : n ≤ 1000) :
    Calls Try.prog 49 #[.slice A n c] w fun e w' => ∃ v, e = .returned v ∧ Own w w' 90 2 v n (actCells ls) := by
  have hnil := fun W => Lib.run_eql_slice_nil (P := Try.prog) W 65 90 A n c 0 0 Try.underlying65
  rcases A with _ | ad
  · have h0 : n = 0 := by
      rcases Nat.eq_zero_or_pos n with h | h
      · exact h
      · obtain ⟨b, off, e, _⟩ := hs.1.2 (by omega)
        cases e
    subst h0
    have hx : ls = [] := List.eq_nil_of_length_eq_zero hs.2
    subst hx
    go_enter Try.func49, Try.ntmps49
    go_wp2_with fail
    go_ret
    exact ⟨_, rfl, Own.start (Kept.refl _)⟩
  · have hl := hs.2
    go_enter Try.func49, Try.ntmps49
    go_wp2_with (at_builtin; refine wpList_pushAll rfl _ _ 65 rfl 90 Try.underlying65 info_act rfl (by decide) (by decide) _ _ _ _ (Own.empty (Kept.refl w) 90 2 _ rfl) _ _ _ _ (hs.kept ((Kept.refl w).alloc _)).1 rfl rfl (one_acts _) n (by omega) (by omega) ?_; intro v' w3 hown3)
    go_ret
    refine ⟨_, rfl, ?_⟩
    simpa using hown3
/-! ### what Leak holds -/
def acI (a : Ac) : Ai := (a.1, a.2)
def vkeys (vis : Vs) : List Value := vis.map fun x => vpV x.1
def prC (p : Nat × Nat) : List Value := [.int .i64 p.1, .int .i64 p.2]
/-- the pairs that are still in the queue -/
def quC (vis : Vs) (k : Nat) : List Value := (vis.drop k).flatMap fun x => prC x.1
/-- the words of the pairs that were found -/
def WdsI (w0 w : World) (g : Value → Value) (vis : Vs) : Prop := ∀ x ∈ vis, Own w0 w 90 2 (g (vpV x.1)) x.2.length (actCells (x.2.map acI))
theorem vkeys_mem {vis : Vs} {p : Nat × Nat} : vpV p ∈ vkeys vis ↔ p ∈ vis.map Prod.fst := by
  unfold vkeys
  constructor
  · intro h
    obtain ⟨x, hx, e⟩ := List.mem_map.1 h
    rw [← vpV_inj e]
    exact List.mem_map.2 ⟨x, hx, rfl⟩
  · intro h
    obtain ⟨x, hx, e⟩ := List.mem_map.1 h
    exact List.mem_map.2 ⟨x, hx, by rw [e]⟩
/-- the map of words -/
def MapW (w0 w : World) (dm : Nat) (vis : Vs) : Prop := w0.heap.size ≤ dm ∧ ∃ g, MapK w Try.prog 84 dm (vkeys vis) g ∧ WdsI w0 w g vis
/-- the queue -/
def QueW (w0 w : World) (v : Value) (vis : Vs) (k : Nat) : Prop := ∃ n g o c, vis.length = k + n ∧ v = .slice (some ⟨g, o, none⟩) n c ∧ Que w0 w 84 2 v n (quC vis k)
section
variable {w0 w w' : World} {dm : Nat} {v : Value} {vis : Vs} {k : Nat}
theorem MapW.kept (h : MapW w0 w dm vis) (hk : Kept w w') : MapW w0 w' dm vis := by
  obtain ⟨h0, g, h1, h2⟩ := h
  exact ⟨h0, g, h1.kept hk, fun x hx => (h2 x hx).kept hk⟩
theorem QueW.kept (h : QueW w0 w v vis k) (hk : Kept w w') : QueW w0 w' v vis k := by
  obtain ⟨n, g, o, c, h1, h2, h3⟩ := h
  exact ⟨n, g, o, c, h1, h2, h3.kept hk⟩
theorem MapW.lt (h : MapW w0 w dm vis) : dm < w.heap.size := by
  obtain ⟨_, g, h1, _⟩ := h
  exact h1.lt
theorem farM {P : Program} {k : TypeId} {b : Nat} {ks : List Value} {g : Value → Value} {E : TypeId} {s n : Nat} {v : Value} {xs : List Value} (h : MapK w P k b ks g) (o : Own w0 w E s v n xs) : some b ≠ v.ownBlock := by
  obtain ⟨es, clock, hb, _⟩ := h
  intro he
  rcases o.1.2 with ⟨rfl, _⟩ | ⟨gg, cap, cur, rfl, _, hg, _⟩
  · cases he
  · injection he with he
    have he : b = gg := he
    subst he
    rw [hb] at hg
    cases hg
theorem farQ {P : Program} {k : TypeId} {b : Nat} {ks : List Value} {f : Value → Value} {E : TypeId} {s n g o c : Nat} {xs : List Value} (h : MapK w P k b ks f) (q : Que w0 w E s (.slice (some ⟨g, o, none⟩) n c) n xs) : b ≠ g := by
  obtain ⟨es, clock, hb, _⟩ := h
  obtain ⟨_, _, g', o', c', cur, e, _, hgg, _⟩ := q
  injection e with e1
  injection e1 with e1
  injection e1 with e1
  subst e1
  intro he
  subst he
  rw [hb] at hgg
  cases hgg
theorem farOQ {E E2 : TypeId} {s n s2 n2 g o c : Nat} {v : Value} {xs ys : List Value} (h : Own w0 w E s v n xs) (q : Que w0 w E2 s2 (.slice (some ⟨g, o, none⟩) n2 c) n2 ys) (hne : E ≠ E2) : v.ownBlock = none ∨ v.ownBlock ≠ some g := by
  rcases h.1.2 with ⟨rfl, _⟩ | ⟨gg, cap, cur, rfl, _, hg, _⟩
  · exact .inl rfl
  · refine .inr fun he => ?_
    obtain ⟨_, _, g', o', c', cur2, e, _, hgg, _⟩ := q
    injection e with e1
    injection e1 with e1
    injection e1 with e1
    subst e1
    injection he with he
    have he : gg = g := he
    subst he
    rw [hg] at hgg
    injection hgg with hgg
    injection hgg with _ h1
    exact hne h1
/-- the start -/
theorem leak_map0 (h : Kept w0 w) (B : Nat) (hB : w.heap.size = B) : ∃ w3, (Instr.mapUpdate 85 (.map (some B)) (.agg #[.int .i64 0, .int .i64 0]) (.slice none 0 0)).run Try.prog (w.alloc (.map #[] 0)) = .ok () w3 ∧ Kept w w3 ∧ MapW w0 w3 B [((0, 0), [])] := by
  subst hB
  obtain ⟨kl, hkl⟩ := vp_key (0, 0) (by simp) (by simp)
  have hka : Kept w (w.alloc (.map #[] 0)) := (Kept.refl _).alloc _
  obtain ⟨w3, h1, h2, h3⟩ := (MapK.made w Try.prog 84 (fun _ => .slice none 0 0) w.heap.size rfl).put vpKeyed Try.underlying85 (by simp [maxLen]) (v := .slice none 0 0) hkl (by simp)
  have hk3 : Kept w w3 := hka.grown h3 (fun k hk => by injection hk with hk; omega)
  refine ⟨w3, h1, hk3, h.size, _, h2, fun x hx => ?_⟩
  rw [List.mem_singleton] at hx
  subst hx
  show Own w0 w3 _ 2 (updK _ (vpV (0, 0)) _ (vpV (0, 0))) 0 []
  rw [updK_same]
  exact Own.start (h.trans hk3)
theorem leak_que0 (h : Kept w0 w) (B : Nat) (hB : w.heap.size = B) : QueW w0 (w.alloc (.cells #[.int .i64 0, .int .i64 0] 84)) (.slice (some ⟨B, 0, none⟩) 1 1) [((0, 0), [])] 0 := by
  have := Own.made h 84 #[.int .i64 0, .int .i64 0] 2 1 B hB rfl (by simp [maxLen])
  exact ⟨1, B, 0, 1, rfl, rfl, Que.of_own this (by omega)⟩
/-- the word of a pair that was found -/
theorem MapW.look (h : MapW w0 w dm vis) {x : (Nat × Nat) × List Ac} (hx : x ∈ vis) : ∃ B c, SlAct w B x.2.length (x.2.map acI) ∧ ∀ w', Kept w w' → ∀ cc : Bool, (Instr.lookup 85 (.map (some dm)) (.agg #[.int .i64 x.1.1, .int .i64 x.1.2]) cc).run Try.prog w' = .ok (if cc then .tuple #[.slice B x.2.length c, .bool true] else .slice B x.2.length c) w' := by
  obtain ⟨h0, g, h1, h2⟩ := h
  obtain ⟨B, c, e, hs, _⟩ := (h2 x hx).form
  refine ⟨B, c, ⟨hs, by simp⟩, fun w' hk cc => ?_⟩
  have := (h1.kept hk).look vpKeyed Try.underlying85 (zero_acts w') (x := vpV x.1) (vkeys_mem.2 (List.mem_map.2 ⟨x, hx, rfl⟩)) cc
  rw [e] at this
  exact this
theorem MapW.miss (h : MapW w0 w dm vis) {p : Nat × Nat} (hp : p ∉ vis.map Prod.fst) (hx : p.1 ≤ 1000) (hy : p.2 ≤ 1000) : ∀ w', Kept w w' → (Instr.lookup 85 (.map (some dm)) (.agg #[.int .i64 p.1, .int .i64 p.2]) true).run Try.prog w' = .ok (.tuple #[.slice none 0 0, .bool false]) w' := by
  obtain ⟨h0, g, h1, h2⟩ := h
  obtain ⟨kl, hkl⟩ := vp_key p hx hy
  intro w' hk
  exact (h1.kept hk).miss vpKeyed Try.underlying85 (zero_acts w') hkl (fun e => hp (vkeys_mem.1 e)) true
/-- a new word -/
theorem MapW.put (h : MapW w0 w dm vis) {p : Nat × Nat} {l : List Ac} {z : Value} (hp : p ∉ vis.map Prod.fst) (hx : p.1 ≤ 1000) (hy : p.2 ≤ 1000) (hl : vis.length ≤ 1000) (ho : Own w0 w 90 2 z l.length (actCells (l.map acI))) :
    ∃ w', (Instr.mapUpdate 85 (.map (some dm)) (.agg #[.int .i64 p.1, .int .i64 p.2]) z).run Try.prog w = .ok () w' ∧ MapW w0 w' dm (vis ++ [(p, l)]) ∧ w.grownBy w' (some dm) := by
  obtain ⟨h0, g, h1, h2⟩ := h
  obtain ⟨kl, hkl⟩ := vp_key p hx hy
  obtain ⟨w', r1, r2, r3⟩ := h1.put vpKeyed Try.underlying85 (by unfold vkeys; rw [List.length_map]; unfold maxLen; omega) (v := z) hkl (fun e => hp (vkeys_mem.1 e))
  have hrow : ∀ k, some dm = some k → w0.heap.size ≤ k := fun k hk => by injection hk with hk; omega
  refine ⟨w', r1, ⟨h0, _, by unfold vkeys; rw [List.map_append]; exact r2, fun x hx => ?_⟩, r3⟩
  rcases List.mem_append.1 hx with hx | hx
  · have hne : vpV x.1 ≠ vpV p := fun e => hp (by rw [← vpV_inj e]; exact List.mem_map.2 ⟨x, hx, rfl⟩)
    rw [updK_other hne]
    exact (h2 x hx).grown r3 (.inr fun e => farM h1 (h2 x hx) e.symm) hrow
  · rw [List.mem_singleton] at hx
    subst hx
    show Own w0 w' _ 2 (updK _ (vpV p) _ (vpV p)) _ _
    rw [updK_same]
    exact ho.grown r3 (.inr fun e => farM h1 ho e.symm) hrow
theorem QueW.map (h : QueW w0 w v vis k) (hm : MapW w0 w dm vis) (hg : w.grownBy w' (some dm)) : QueW w0 w' v vis k := by
  obtain ⟨n, g, o, c, h1, rfl, h3⟩ := h
  obtain ⟨h0, f, m1, _⟩ := hm
  exact ⟨n, g, o, c, h1, rfl, h3.grown hg (fun e => by injection e with e; exact farQ m1 h3 e.symm) (fun k hk => by injection hk with hk; omega)⟩
theorem MapW.que {n g o c : Nat} {xs : List Value} (hm : MapW w0 w dm vis) (h : Que w0 w 84 2 (.slice (some ⟨g, o, none⟩) n c) n xs) (hg : w.grownBy w' (some g)) (hlow : w0.heap.size ≤ g) : MapW w0 w' dm vis := by
  obtain ⟨h0, f, m1, m2⟩ := hm
  exact ⟨h0, f, m1.grown hg (fun e => by injection e with e; exact farQ m1 h e), fun x hx => (m2 x hx).grown hg (farOQ (m2 x hx) h (by decide)) (fun k hk => by injection hk with hk; omega)⟩
theorem quC_snoc {x : (Nat × Nat) × List Ac} (hk : k ≤ vis.length) : quC (vis ++ [x]) k = quC vis k ++ prC x.1 := by
  unfold quC
  rw [List.drop_append_of_le_length hk, List.flatMap_append]
  simp
theorem quC_next {x : (Nat × Nat) × List Ac} (hx : vis[k]? = some x) : quC vis k = prC x.1 ++ quC vis (k + 1) := by
  obtain ⟨hk, e⟩ := List.getElem?_eq_some_iff.1 hx
  unfold quC
  rw [List.drop_eq_getElem_cons hk, List.flatMap_cons, e]
/-- the first of the queue -/
theorem QueW.head {n g o c : Nat} {x : (Nat × Nat) × List Ac} (h : Que w0 w 84 2 (.slice (some ⟨g, o, none⟩) n c) n (quC vis k)) (hx : vis[k]? = some x) : w.cell? ⟨g, o, none⟩ = some (.int .i64 x.1.1) ∧ w.cell? ⟨g, o + 1, none⟩ = some (.int .i64 x.1.2) := by
  rw [quC_next hx] at h
  exact ⟨h.cell 0 rfl, h.cell 1 rfl⟩
theorem QueW.next {n g o c : Nat} {x : (Nat × Nat) × List Ac} (h : Que w0 w 84 2 (.slice (some ⟨g, o, none⟩) (n + 1) c) (n + 1) (quC vis k)) (hx : vis[k]? = some x) (hl : vis.length = k + (n + 1)) : (c ≠ 1 → QueW w0 w (.slice (some ⟨g, o + 2, none⟩) n (c - 1)) vis (k + 1)) ∧ (c = 1 → QueW w0 w (.slice (some ⟨g, o, none⟩) n 0) vis (k + 1)) := by
  rw [quC_next hx] at h
  constructor
  · intro hc
    exact ⟨n, g, o + 2, c - 1, by omega, rfl, h.tail hc⟩
  · intro hc
    subst hc
    exact ⟨n, g, o, 0, by omega, rfl, h.tail1⟩
end
end Go.Proofs.Ytjcooagchjjknaa
