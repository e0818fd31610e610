/- 'l = append(l, xs...)' at a step of a region that draws its order. Over any program. -/
import Derived.Test.YtekpifobhgjepaaHold
namespace Go.Proofs.Ytekpifobhgjepaa
open Go Go.RowKit

theorem grown_refl (w : World) (row : Option Nat) : w.grownBy w row := ⟨rfl, rfl, rfl, Nat.le_refl _, fun _ _ _ => rfl⟩
theorem step_pushAll {P : Program} {ops : Array Oper} {o : Oper} {a : Act} {K : Act → World → Prop} {Q : Exit → Act → World → Prop} {F : Prop} {w0 : World} (hgd : o.guard = none) (s x : Operand) (t : TypeId)
    (ho : o.op = .call { callee := .builtin .append, args := #[s, x], argTypes := #[t, t] }) (v : Value) (hs : a.eval s = v) (A : Option Addr) (m c : Nat) (hx : a.eval x = .slice A m c)
    (e : TypeId) {z : Value} {size bytes : Nat} (ht : P.underlying t = some (.slice e)) (hi : (P.info? e).map (fun i => (i.zero, i.size, i.bytes)) = some (some z, size, bytes))
    (hzs : z.cells.size = size) (hsz : 0 < size) (hb1 : bytes ≤ 1000)
    (W : World) (n : Nat) (xs : List Value) (hown : Own w0 W e size v n xs) (news : List Value) (hsl : Sl W size A m news)
    (h1 : ∀ u ∈ news, u.oneCell' = true) (L : Nat) (hL : n + m = L) (hn : L ≤ 1000000)
    (h : ∀ v' w', Own w0 w' e size v' L (xs ++ news) → W.grownBy w' v.ownBlock → K (a.put o.dst v') w') :
    if Region.wanted o (yielded ops a.tmps) = true then Oper.wp P o a W K Q else F := by
  have hw : Region.wanted o (yielded ops a.tmps) = true := by simp [Region.wanted, hgd]
  rw [if_pos hw]
  obtain ⟨i, hi0, hz, hsize, hby⟩ := info_parts hi
  subst hL
  have hbytes : (n + m) * bytes ≤ 140737488355328 := by
    calc (n + m) * bytes ≤ 1000000 * 1000 := Nat.mul_le_mul hn hb1
      _ ≤ 140737488355328 := by omega
  by_cases hm : m = 0
  · subst hm
    have hnews : news = [] := List.eq_nil_of_length_eq_zero (by simpa using hsl.1)
    subst hnews
    rcases A with _ | ad
    · have hrun := run_append_of_nil (P := P) W w0.heap.size t o.type e i size ht hi0 v n xs hown.1 c
      unfold Oper.wp
      simp [execOp, ho, resolve, invoke, builtin, hs, hx, hrun, Result.andThen]
      exact h v W (by simpa using hown) (grown_refl _ _)
    · refine wp_append_own W s x t ho w0.heap.size e i z size bytes ht hi0 hz hsize hby hzs hsz v n xs hs hown.1 ad 0 c [] hx (by simp) (by simp) (by simp)
        (by unfold maxLen; omega) hbytes hown.2.size ?_
      intro v' w' hown' hg _
      exact h v' w' ⟨hown', Below.grown hown.2 hg hown.2.size fun k hk => (World.ownsRow.lt hown.1 k hk).1⟩ hg
  · obtain ⟨b, off, rfl, hb, hc⟩ := hsl.2 (by omega)
    refine wp_append_own W s x t ho w0.heap.size e i z size bytes ht hi0 hz hsize hby hzs hsz v n xs hs hown.1 ⟨b, off, none⟩ m c news hx hsl.1 ?_ h1
      (by unfold maxLen; omega) hbytes hown.2.size ?_
    · intro j u hu
      have := hc j u hu
      unfold Addr.add
      split
      · rename_i h0; subst h0; simpa using this
      · simpa using this
    · intro v' w' hown' hg _
      exact h v' w' ⟨hown', Below.grown hown.2 hg hown.2.size fun k hk => (World.ownsRow.lt hown.1 k hk).1⟩ hg
end Go.Proofs.Ytekpifobhgjepaa
