/- Craig: plain facts on tables, with no program in sight. -/
import Derived.Test.YtjliabifaohfjaaBetweenP
namespace Go.Proofs.Ytjliabifaohfjaa
open Go Go.RowKit

theorem AgreeN.symm {keep : Nat → Bool} {n s t : Nat} (h : AgreeN keep n s t) : AgreeN keep n t s := fun b hb => (h b hb).symm
theorem AgreeN.trans {keep : Nat → Bool} {n s t u : Nat} (h : AgreeN keep n s t) (k : AgreeN keep n t u) : AgreeN keep n s u := fun b hb => (k b hb).trans (h b hb)
theorem leastN_agree {f : Nat → Bool} {keep : Nat → Bool} {n s t : Nat} (h : AgreeN keep n s t) : leastN f keep n s = leastN f keep n t := by
  rw [Bool.eq_iff_iff, leastN_iff, leastN_iff]
  constructor
  · rintro ⟨u, h1, h2⟩
    exact ⟨u, h.symm.trans h1, h2⟩
  · rintro ⟨u, h1, h2⟩
    exact ⟨u, h.trans h1, h2⟩
theorem leastL_agree {n : Nat} {f : List Bool} {keep : BitVec 32} {s t : Nat} (hl : f.length = 2 ^ n) (hs : s < 2 ^ n) (h : AgreeN (keepB keep) n s t) : bat (leastL n f keep) s = bat (leastL n f keep) t := by
  have ht := agree_lt hs h
  rw [bat_leastL (by rw [hl]; exact hs), bat_leastL (by rw [hl]; exact ht)]
  exact leastN_agree h
theorem mostL_agree {n : Nat} {f : List Bool} {keep : BitVec 32} {s t : Nat} (hl : f.length = 2 ^ n) (hs : s < 2 ^ n) (h : AgreeN (keepB keep) n s t) : bat (mostL n f keep) s = bat (mostL n f keep) t := by
  have ht := agree_lt hs h
  rw [bat_mostL (by rw [hl]; exact hs), bat_mostL (by rw [hl]; exact ht), leastL_agree (by rw [notL_length]; exact hl) hs h]
theorem craig {n : Nat} {f g : List Bool} {own other : BitVec 32} (hf : f.length = 2 ^ n) (hg : g.length = 2 ^ n) :
    folTo (leastL n (leastL n f own) (own &&& other)) (mostL n g other) (2 ^ n) = folTo (leastL n f own) (mostL n g other) (2 ^ n) := by
  have hal : (leastL n f own).length = 2 ^ n := by rw [leastL_length, hf]
  rw [Bool.eq_iff_iff, folTo_iff, folTo_iff]
  constructor
  · intro h s hs ha
    exact h s hs (leastL_ext hal hs ha)
  · intro h s hs hc
    obtain ⟨t, ht, h1, h2⟩ := (leastL_iff hal hs).1 hc
    have hbit : ∀ b, (s ^^^ ((s ^^^ t) &&& own.toNat)).testBit b = if own.getLsbD b then t.testBit b else s.testBit b := by
      intro b
      rw [Nat.testBit_xor, Nat.testBit_and, Nat.testBit_xor, BitVec.testBit_toNat]
      cases own.getLsbD b <;> cases s.testBit b <;> cases t.testBit b <;> rfl
    generalize s ^^^ ((s ^^^ t) &&& own.toNat) = u at hbit
    have hsh : ∀ b, own.getLsbD b = true → other.getLsbD b = true → t.testBit b = s.testBit b := fun b ho hr => h1 b (.inl (by unfold keepB; rw [BitVec.getLsbD_and, ho, hr]; rfl))
    have hhi : ∀ b, n ≤ b → t.testBit b = s.testBit b := fun b hb => h1 b (.inr hb)
    have a1 : AgreeN (keepB own) n t u := by
      intro b hb
      rw [hbit]
      rcases hb with hb | hb
      · unfold keepB at hb; rw [if_pos hb]
      · split
        · rfl
        · exact (hhi b hb).symm
    have a2 : AgreeN (keepB other) n u s := by
      intro b hb
      rw [hbit]
      split
      · rename_i ho
        rcases hb with hb | hb
        · exact (hsh b ho hb).symm
        · exact (hhi b hb).symm
      · rfl
    have hu := agree_lt ht a1
    rw [leastL_agree hf ht a1] at h2
    rw [← mostL_agree hg hu a2]
    exact h u hu h2
theorem leastL_idem {n : Nat} {f : List Bool} {keep : BitVec 32} (hf : f.length = 2 ^ n) : leastL n (leastL n f keep) keep = leastL n f keep := by
  have hal : (leastL n f keep).length = 2 ^ n := by rw [leastL_length, hf]
  apply bat_ext (by rw [leastL_length])
  intro s hs
  rw [leastL_length, hal] at hs
  rw [Bool.eq_iff_iff]
  constructor
  · intro h
    obtain ⟨t, ht, h1, h2⟩ := (leastL_iff hal hs).1 h
    rw [leastL_agree hf hs h1]
    exact h2
  · exact leastL_ext hal hs
end Go.Proofs.Ytjliabifaohfjaa
