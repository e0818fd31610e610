/- Birkhoff: a distributive lattice has as many elements as its join-irreducible elements have down-sets. Plain laws. -/
import Derived.Test.YtgcpomdlajoifaaLatP
import Derived.Test.YtgcpomdlajoifaaCoverP
namespace Go.Proofs.Ytgcpomdlajoifaa
open Go
set_option linter.unusedVariables false

/-- i is not the join of a and b, or one of them -/
noncomputable def irAt (n : Nat) (ps : List Pr) (i a b : Nat) : Bool := decide (joinI n ps a b ≠ i) || (decide (a = i) || decide (b = i))
noncomputable def irBot (n : Nat) (ps : List Pr) (i : Nat) : Bool := nth (upL n ps) i != 1#32 <<< n - 1#32
noncomputable def irB (n : Nat) (ps : List Pr) (i : Nat) : Bool := irBot n ps i && (List.range n).all fun a => (List.range n).all fun b => irAt n ps i a b
noncomputable def irW (n : Nat) (ps : List Pr) : BitVec 32 := wordN n (irB n ps)
section
variable {n : Nat} {ps : List Pr}
theorem irBot_iff (hn : n < 32) {i : Nat} (hi : i < n) : irBot n ps i = true ↔ ∃ x, x < n ∧ under ps i x = false := by
  unfold irBot
  rw [bne_iff_ne]
  constructor
  · intro h
    refine Classical.byContradiction fun hc => h ?_
    apply BitVec.eq_of_getLsbD_eq
    intro j _
    rw [upL_bit ps (by omega) hi, full_bit n j hn]
    by_cases hj : j < n
    · cases hu : under ps i j
      · exact absurd ⟨j, hj, hu⟩ hc
      · simp
    · simp [hj]
  · rintro ⟨x, hx, hu⟩ e
    have := upL_bit ps (by omega : n ≤ 32) hi x
    rw [e, full_bit n x hn, hu] at this
    simp [hx] at this
theorem joinI_eq (h : Lat n ps) {a b : Nat} (ha : a < n) (hb : b < n) : joinI n ps a b = (jn n ps a b : Int) := by
  unfold joinI
  rw [h.jo a b ha hb]
  rfl
theorem meetI_eq (h : Lat n ps) {a b : Nat} (ha : a < n) (hb : b < n) : meetI n ps a b = (mt n ps a b : Int) := by
  unfold meetI
  rw [h.me a b ha hb]
  rfl
theorem irB_iff (h : Lat n ps) (hn : n < 32) {i : Nat} (hi : i < n) : irB n ps i = true ↔ (∃ x, x < n ∧ under ps i x = false) ∧ ∀ a b, a < n → b < n → jn n ps a b = i → a = i ∨ b = i := by
  unfold irB
  rw [Bool.and_eq_true, irBot_iff hn hi]
  simp only [List.all_eq_true, List.mem_range]
  constructor
  · rintro ⟨h1, h2⟩
    refine ⟨h1, fun a b ha hb e => ?_⟩
    have := h2 a ha b hb
    unfold irAt at this
    rw [joinI_eq h ha hb, e] at this
    simpa using this
  · rintro ⟨h1, h2⟩
    refine ⟨h1, fun a ha b hb => ?_⟩
    unfold irAt
    rw [joinI_eq h ha hb]
    by_cases e : jn n ps a b = i
    · have := h2 a b ha hb e
      simpa using .inr this
    · have e2 : (jn n ps a b : Int) ≠ (i : Int) := by omega
      simp [e2]
theorem Lat.bottom (h : Lat n ps) (hn : 1 ≤ n) : ∃ b, b < n ∧ ∀ x, x < n → under ps b x = true := by
  have key : ∀ m, m ≤ n → ∃ b, b < n ∧ ∀ x, x < m → under ps b x = true := by
    intro m
    induction m with
    | zero => intro _; exact ⟨0, by omega, fun x hx => by omega⟩
    | succ m ih =>
      intro hm
      obtain ⟨b, hb, hx⟩ := ih (by omega)
      have hmn : m < n := by omega
      obtain ⟨h1, h2, h3, _⟩ := h.ord.meet hb hmn (h.me b m hb hmn)
      refine ⟨mt n ps b m, h1, fun x hxm => ?_⟩
      by_cases e : x = m
      · subst e; exact h3
      · exact under_step h2 (hx x (by omega))
  exact key n (Nat.le_refl _)
/-- what is under x, counted -/
theorem cnt_lt (h : Lat n ps) {a x : Nat} (ha : a < n) (hx : x < n) (hu : under ps a x = true) (hne : a ≠ x) :
    (List.range n).countP (fun c : Nat => under ps c a) < (List.range n).countP (fun c : Nat => under ps c x) := by
  refine countP_lt (p := fun c : Nat => under ps c a) (q := fun c : Nat => under ps c x) (a := x) (fun c hc => under_step hc hu) (under_self x) ?_ (List.mem_range.2 hx)
  show under ps x a = false
  cases hc : under ps x a
  · rfl
  · exact absurd (h.anti ha hx hu hc) hne
/-- all is the join of what is irreducible under it -/
theorem irr_le (h : Lat n ps) (hn : n < 32) {y : Nat} (hy : y < n) : ∀ m x : Nat, x < n → (List.range n).countP (fun c : Nat => under ps c x) ≤ m → (∀ j, j < n → irB n ps j = true → under ps j x = true → under ps j y = true) → under ps x y = true := by
  intro m
  induction m with
  | zero =>
    intro x hx hc
    have : 0 < (List.range n).countP (fun c : Nat => under ps c x) := List.countP_pos_iff.2 ⟨x, List.mem_range.2 hx, under_self x⟩
    omega
  | succ m ih =>
    intro x hx hc hj
    by_cases hi : irB n ps x = true
    · exact hj x hx hi (under_self x)
    · by_cases hb : ∃ z, z < n ∧ under ps x z = false
      · have h2 : ¬ ∀ a b, a < n → b < n → jn n ps a b = x → a = x ∨ b = x := fun hall => hi ((irB_iff h hn hx).2 ⟨hb, hall⟩)
        obtain ⟨a, h2⟩ := Classical.not_forall.1 h2
        obtain ⟨b, h2⟩ := Classical.not_forall.1 h2
        have ha : a < n := Classical.byContradiction fun hc => h2 fun h => absurd h hc
        have hbn : b < n := Classical.byContradiction fun hc => h2 fun _ h => absurd h hc
        have he : jn n ps a b = x := Classical.byContradiction fun hc => h2 fun _ _ h => absurd h hc
        have hne : ¬ (a = x ∨ b = x) := fun hc => h2 fun _ _ _ => hc
        have ua : under ps a x = true := by have := h.jl ha hbn; rwa [he] at this
        have ub : under ps b x = true := by have := h.jr ha hbn; rwa [he] at this
        have ca := cnt_lt h ha hx ua (fun e => hne (.inl e))
        have cb := cnt_lt h hbn hx ub (fun e => hne (.inr e))
        have la := ih a ha (by omega) (fun j hjn hji hja => hj j hjn hji (under_step hja ua))
        have lb := ih b hbn (by omega) (fun j hjn hji hjb => hj j hjn hji (under_step hjb ub))
        have := h.jle ha hbn hy la lb
        rwa [he] at this
      · cases hu : under ps x y
        · exact absurd ⟨y, hy, hu⟩ hb
        · rfl
end
/-! ### the order of the irreducible ones -/
section
/-- the things of a list, by their places; who stands under whom -/
noncomputable def lesAt (ps : List Pr) (o : Nat → Nat) (a b : Nat) : Bool := decide (a ≠ b) && under ps (o a) (o b)
noncomputable def lesRow (ps : List Pr) (o : Nat → Nat) (a m : Nat) : List Pr := ((List.range m).filter (lesAt ps o a)).map fun b : Nat => ((a : Int), (b : Int))
noncomputable def lesTo (ps : List Pr) (o : Nat → Nat) (k a : Nat) : List Pr := (List.range a).flatMap fun x => lesRow ps o x k
noncomputable def lesL (ps : List Pr) (o : Nat → Nat) (k : Nat) : List Pr := lesTo ps o k k
variable {ps : List Pr} {o : Nat → Nat} {k : Nat}
theorem lesRow_succ (ps : List Pr) (o : Nat → Nat) (a m : Nat) : lesRow ps o a (m + 1) = lesRow ps o a m ++ (if lesAt ps o a m then [((a : Int), (m : Int))] else []) := by
  unfold lesRow
  rw [List.range_succ, List.filter_append, List.map_append]
  congr 1
  by_cases h : lesAt ps o a m = true
  · simp [h]
  · simp [h]
theorem lesTo_succ (ps : List Pr) (o : Nat → Nat) (k a : Nat) : lesTo ps o k (a + 1) = lesTo ps o k a ++ lesRow ps o a k := by
  unfold lesTo
  rw [List.range_succ, List.flatMap_append]
  simp
theorem lesRow_len (ps : List Pr) (o : Nat → Nat) (a m : Nat) : (lesRow ps o a m).length ≤ m := by
  unfold lesRow
  rw [List.length_map]
  exact Nat.le_trans (List.length_filter_le _ _) (by simp)
theorem lesTo_len (ps : List Pr) (o : Nat → Nat) (k a : Nat) : (lesTo ps o k a).length ≤ a * k := by
  induction a with
  | zero => simp [lesTo]
  | succ a ih =>
    rw [lesTo_succ, List.length_append]
    have := lesRow_len ps o a k
    rw [Nat.add_mul]
    omega
theorem mem_lesL {p : Pr} : p ∈ lesL ps o k ↔ ∃ a b : Nat, a < k ∧ b < k ∧ p = ((a : Int), (b : Int)) ∧ lesAt ps o a b = true := by
  unfold lesL lesTo lesRow
  simp only [List.mem_flatMap, List.mem_range, List.mem_map, List.mem_filter]
  constructor
  · rintro ⟨a, ha, b, ⟨hb, hc⟩, rfl⟩
    exact ⟨a, b, ha, hb, rfl, hc⟩
  · rintro ⟨a, b, ha, hb, rfl, hc⟩
    exact ⟨a, ha, b, ⟨hb, hc⟩, rfl⟩
theorem les_under {a b : Nat} (ha : a < k) (hb : b < k) : under (lesL ps o k) a b = under ps (o a) (o b) := by
  rw [Bool.eq_iff_iff, under_iff]
  constructor
  · intro h
    have := h (fun x => ∃ c : Nat, c < k ∧ x = (c : Int) ∧ under ps (o a) (o c) = true) ⟨a, ha, rfl, under_refl _ _⟩ (by
      rintro p hp ⟨c, hc, e, hu⟩
      obtain ⟨x, y, hx, hy, rfl, hl⟩ := mem_lesL.1 hp
      have e : (x : Int) = (c : Int) := e
      have : x = c := by omega
      subst this
      refine ⟨y, hy, rfl, under_trans hu ?_⟩
      unfold lesAt at hl
      rw [Bool.and_eq_true] at hl
      exact hl.2)
    obtain ⟨c, _, e, hu⟩ := this
    have : b = c := by omega
    rwa [this]
  · intro h
    by_cases e : a = b
    · subst e; exact Reach.refl _
    · exact Reach.pair (p := ((a : Int), (b : Int))) (mem_lesL.2 ⟨a, b, ha, hb, rfl, by unfold lesAt; simp [e, h]⟩)
theorem les_len5 (hk : k ≤ 5) : (lesL ps o k).length ≤ 20 := by
  have hrow : ∀ a, a < k → (lesRow ps o a k).length ≤ k - 1 := by
    intro a ha
    unfold lesRow
    rw [List.length_map, ← List.countP_eq_length_filter]
    have h1 : (List.range k).countP (lesAt ps o a) < (List.range k).countP (fun _ => true) :=
      countP_lt (a := a) (fun _ _ => rfl) rfl (by unfold lesAt; simp) (List.mem_range.2 ha)
    have h2 : (List.range k).countP (fun _ => true) ≤ k := by
      simp
    omega
  have key : ∀ m, m ≤ k → (lesTo ps o k m).length ≤ m * (k - 1) := by
    intro m
    induction m with
    | zero => intro _; simp [lesTo]
    | succ m ih =>
      intro hm
      rw [lesTo_succ, List.length_append, Nat.add_mul]
      have := ih (by omega)
      have := hrow m (by omega)
      omega
  have h := key k (Nat.le_refl _)
  have : k * (k - 1) ≤ 20 := by
    rcases (by omega : k = 0 ∨ k = 1 ∨ k = 2 ∨ k = 3 ∨ k = 4 ∨ k = 5) with rfl | rfl | rfl | rfl | rfl | rfl <;> decide
  exact Nat.le_trans h this
theorem les_anti {n : Nat} (ho : ∀ a, a < k → o a < n) (hinj : ∀ a b, a < k → b < k → o a = o b → a = b) (hanti : ∀ i j : Nat, i < n → j < n → under ps i j = true → under ps j i = true → i = j) : Anti2 k (lesL ps o k) := by
  intro i j hi hj h1 h2
  have hi : i < k := by omega
  have hj : j < k := by omega
  rw [les_under hi hj] at h1
  rw [les_under hj hi] at h2
  exact hinj i j hi hj (hanti _ _ (ho i hi) (ho j hj) h1 h2)
theorem les_ord {n : Nat} (h1 : 1 ≤ k) (h5 : k ≤ 5) (ho : ∀ a, a < k → o a < n) (hinj : ∀ a b, a < k → b < k → o a = o b → a = b) (hanti : ∀ i j : Nat, i < n → j < n → under ps i j = true → under ps j i = true → i = j) : ordF k (lesL ps o k) = 0 := by
  refine ordF_of h1 (by omega) (les_len5 h5) ?_ (les_anti ho hinj hanti)
  intro p hp
  obtain ⟨a, b, ha, hb, rfl, _⟩ := mem_lesL.1 hp
  simp
  omega
end
/-! ### Birkhoff -/
section
variable {n k : Nat} {ps : List Pr} {o : Nat → Nat}
/-- o lists what is irreducible -/
structure Irr (n : Nat) (ps : List Pr) (o : Nat → Nat) (k : Nat) : Prop where
  lt : ∀ a, a < k → o a < n
  ir : ∀ a, a < k → irB n ps (o a) = true
  inj : ∀ a b, a < k → b < k → o a = o b → a = b
  all : ∀ j, j < n → irB n ps j = true → ∃ a, a < k ∧ o a = j
noncomputable def codeF (ps : List Pr) (o : Nat → Nat) (k x : Nat) : BitVec 32 := wordN k fun a => under ps (o a) x
theorem codeF_bit (hk : k ≤ 32) (x a : Nat) : (codeF ps o k x).getLsbD a = (decide (a < k) && under ps (o a) x) := wordN_bit _ _ hk a
theorem code_le (h : Lat n ps) (hn : n < 32) (hk : k ≤ 32) (hi : Irr n ps o k) {x y : Nat} (hx : x < n) (hy : y < n) (he : codeF ps o k x = codeF ps o k y) : under ps x y = true := by
  refine irr_le h hn hy _ x hx (Nat.le_refl _) fun j hj hji hjx => ?_
  obtain ⟨a, ha, rfl⟩ := hi.all j hj hji
  have := codeF_bit (ps := ps) (o := o) hk y a
  rw [← he, codeF_bit hk, hjx] at this
  simpa [ha] using this.symm
theorem code_inj (h : Lat n ps) (hn : n < 32) (hk : k ≤ 32) (hi : Irr n ps o k) {x y : Nat} (hx : x < n) (hy : y < n) (he : codeF ps o k x = codeF ps o k y) : x = y :=
  h.anti hx hy (code_le h hn hk hi hx hy he) (code_le h hn hk hi hy hx he.symm)
theorem mem_down (hk : k < 32) {d : BitVec 32} : d ∈ downsL k (lesL ps o k) ↔ fitB k d = true ∧ ∀ a, a < k → (d.getLsbD a = true ↔ ∃ b, b < k ∧ d.getLsbD b = true ∧ under ps (o a) (o b) = true) := by
  rw [mem_downsL hk]
  constructor
  · rintro ⟨h1, h2⟩
    refine ⟨h1, fun a ha => ?_⟩
    have := dnW_bit (n := k) (ps := lesL ps o k) (s := d) (by omega) (i := a)
    rw [h2] at this
    rw [this]
    constructor
    · rintro ⟨_, b, hb, hd, hu⟩
      rw [les_under ha hb] at hu
      exact ⟨b, hb, hd, hu⟩
    · rintro ⟨b, hb, hd, hu⟩
      exact ⟨ha, b, hb, hd, by rw [les_under ha hb]; exact hu⟩
  · rintro ⟨h1, h2⟩
    refine ⟨h1, ?_⟩
    apply BitVec.eq_of_getLsbD_eq
    intro a _
    rw [Bool.eq_iff_iff, dnW_bit (by omega)]
    constructor
    · rintro ⟨ha, b, hb, hd, hu⟩
      rw [les_under ha hb] at hu
      exact (h2 a ha).2 ⟨b, hb, hd, hu⟩
    · intro hd
      have ha := fitB_iff.1 h1 a hd
      obtain ⟨b, hb, hd, hu⟩ := (h2 a ha).1 hd
      exact ⟨ha, b, hb, hd, by rw [les_under ha hb]; exact hu⟩
theorem code_down (hk : k < 32) (x : Nat) : codeF ps o k x ∈ downsL k (lesL ps o k) := by
  rw [mem_down hk]
  refine ⟨wordN_fit _ _ (by omega), fun a ha => ?_⟩
  rw [codeF_bit (by omega)]
  simp only [ha, decide_true, Bool.true_and]
  constructor
  · intro hu
    refine ⟨a, ha, ?_, under_refl _ _⟩
    rw [codeF_bit (by omega), hu]
    simpa using ha
  · rintro ⟨b, hb, hd, hu⟩
    rw [codeF_bit (by omega), Bool.and_eq_true] at hd
    exact under_trans hu hd.2
/-- every down-set is what is irreducible under one thing -/
theorem code_onto (h : Lat n ps) (hn : n < 32) (h1 : 1 ≤ n) (hs : allL n ps true = true) (hk : k < 32) (hi : Irr n ps o k) {d : BitVec 32} (hd : d ∈ downsL k (lesL ps o k)) : ∃ x, x < n ∧ codeF ps o k x = d := by
  obtain ⟨hf, hdn⟩ := (mem_down hk).1 hd
  have key : ∀ m, m ≤ k → ∃ x, x < n ∧ (∀ a, a < m → d.getLsbD a = true → under ps (o a) x = true) ∧ ∀ j, j < n → irB n ps j = true → under ps j x = true → ∃ a, a < m ∧ d.getLsbD a = true ∧ under ps j (o a) = true := by
    intro m
    induction m with
    | zero =>
      intro _
      obtain ⟨b, hb, hall⟩ := h.bottom h1
      refine ⟨b, hb, fun a ha => by omega, fun j hj hji hjb => ?_⟩
      obtain ⟨⟨z, hz, hjz⟩, _⟩ := (irB_iff h hn hj).1 hji
      rw [under_step hjb (hall z hz)] at hjz
      cases hjz
    | succ m ih =>
      intro hm
      obtain ⟨x, hx, hx1, hx2⟩ := ih (by omega)
      by_cases hdm : d.getLsbD m = true
      · have hom := hi.lt m (by omega)
        refine ⟨jn n ps x (o m), h.jlt hx hom, ?_, ?_⟩
        · intro a ha hda
          by_cases e : a = m
          · subst e; exact h.jr hx hom
          · exact under_step (hx1 a (by omega) hda) (h.jl hx hom)
        · intro j hj hji hju
          have hD := allL_iff.1 hs j x (o m) hj hx hom (.inl rfl)
          have hjm : mt n ps j (jn n ps x (o m)) = j := by
            have h3 := h.ord.meet_of hj (h.jlt hx hom) hj (under_self j) hju (fun c _ k _ => k)
            rw [h.me j _ hj (h.jlt hx hom)] at h3
            exact Option.some.inj h3
          rw [hjm] at hD
          have h4 := ((irB_iff h hn hj).1 hji).2 _ _ (h.mlt hj hx) (h.mlt hj hom) hD.symm
          rcases h4 with h4 | h4
          · have : under ps j x = true := by
              have := (h.ord.meet hj hx (h.me j x hj hx)).2.2.1
              rwa [h4] at this
            obtain ⟨a, ha, hda, hu⟩ := hx2 j hj hji this
            exact ⟨a, by omega, hda, hu⟩
          · have : under ps j (o m) = true := by
              have := (h.ord.meet hj hom (h.me j (o m) hj hom)).2.2.1
              rwa [h4] at this
            exact ⟨m, by omega, hdm, this⟩
      · refine ⟨x, hx, fun a ha hda => ?_, fun j hj hji hju => ?_⟩
        · by_cases e : a = m
          · subst e; exact absurd hda hdm
          · exact hx1 a (by omega) hda
        · obtain ⟨a, ha, hda, hu⟩ := hx2 j hj hji hju
          exact ⟨a, by omega, hda, hu⟩
  obtain ⟨x, hx, hx1, hx2⟩ := key k (Nat.le_refl _)
  refine ⟨x, hx, ?_⟩
  apply BitVec.eq_of_getLsbD_eq
  intro a _
  rw [codeF_bit (by omega), Bool.eq_iff_iff, Bool.and_eq_true, decide_eq_true_eq]
  constructor
  · rintro ⟨ha, hu⟩
    obtain ⟨b, hb, hdb, hub⟩ := hx2 (o a) (hi.lt a ha) (hi.ir a ha) hu
    exact (hdn a ha).2 ⟨b, hb, hdb, hub⟩
  · intro hda
    have ha := fitB_iff.1 hf a hda
    exact ⟨ha, hx1 a ha hda⟩
theorem birkhoff (h : Lat n ps) (hn : n < 32) (h1 : 1 ≤ n) (hs : allL n ps true = true) (hk : k < 32) (hi : Irr n ps o k) : (downsL k (lesL ps o k)).length = n := by
  have hnd : (downsL k (lesL ps o k)).Nodup := (words_nodup k hk).filter _
  have hnd2 : ((List.range n).map (codeF ps o k)).Nodup := by
    refine nodup_map_on ?_ List.nodup_range
    intro a ha b hb e
    exact code_inj h hn (by omega) hi (List.mem_range.1 ha) (List.mem_range.1 hb) e
  have l1 := nodup_len2 (downsL k (lesL ps o k)) ((List.range n).map (codeF ps o k)) hnd fun d hd => by
    obtain ⟨x, hx, e⟩ := code_onto h hn h1 hs hk hi hd
    exact List.mem_map.2 ⟨x, List.mem_range.2 hx, e⟩
  have l2 := nodup_len2 ((List.range n).map (codeF ps o k)) (downsL k (lesL ps o k)) hnd2 fun d hd => by
    obtain ⟨x, _, rfl⟩ := List.mem_map.1 hd
    exact code_down hk x
  rw [List.length_map, List.length_range] at l1 l2
  omega
theorem irr_none (h : Lat n ps) (hn : n < 32) (h1 : 1 ≤ n) (hi : Irr n ps o 0) : n = 1 := by
  refine Classical.byContradiction fun hc => ?_
  have := code_inj h hn (by omega : 0 ≤ 32) hi (x := 0) (y := 1) (by omega) (by omega) rfl
  omega
theorem irr_few (h : Lat n ps) (hn : n < 32) (h1 : 1 ≤ n) (hi : Irr n ps o k) : k + 1 ≤ n := by
  obtain ⟨b, hb, hall⟩ := h.bottom h1
  have hnd : ((List.range k).map o).Nodup := nodup_map_on (fun x hx y hy e => hi.inj x y (List.mem_range.1 hx) (List.mem_range.1 hy) e) List.nodup_range
  have hnb : b ∉ (List.range k).map o := by
    intro hm
    obtain ⟨a, ha, rfl⟩ := List.mem_map.1 hm
    have ha := List.mem_range.1 ha
    obtain ⟨⟨z, hz, hu⟩, _⟩ := (irB_iff h hn (hi.lt a ha)).1 (hi.ir a ha)
    rw [hall z hz] at hu
    cases hu
  have := nodup_len2 (b :: (List.range k).map o) (List.range n) (List.nodup_cons.2 ⟨hnb, hnd⟩) fun x hx => by
    rw [List.mem_cons] at hx
    rcases hx with rfl | hx
    · exact List.mem_range.2 hb
    · obtain ⟨a, ha, rfl⟩ := List.mem_map.1 hx
      exact List.mem_range.2 (hi.lt a (List.mem_range.1 ha))
  rw [List.length_cons, List.length_map, List.length_range, List.length_range] at this
  exact this
/-- the list of what a word holds -/
noncomputable def ownL (n : Nat) (s : BitVec 32) : List Nat := (List.range n).filter fun v => s.getLsbD v
theorem ownL_succ (s : BitVec 32) (v : Nat) : ownL (v + 1) s = ownL v s ++ (if s.getLsbD v then [v] else []) := by
  unfold ownL
  rw [List.range_succ, List.filter_append]
  congr 1
  cases h : s.getLsbD v <;> simp [h]
theorem ownL_len (v : Nat) (s : BitVec 32) : (ownL v s).length ≤ v := by
  unfold ownL
  exact Nat.le_trans (List.length_filter_le _ _) (by simp)
theorem irr_own (hn : n ≤ 32) : Irr n ps (fun a => (ownL n (irW n ps)).getD a 0) (ownL n (irW n ps)).length := by
  have hbit : ∀ v, (irW n ps).getLsbD v = (decide (v < n) && irB n ps v) := fun v => wordN_bit _ _ hn v
  have hmem : ∀ v, v ∈ ownL n (irW n ps) ↔ v < n ∧ irB n ps v = true := by
    intro v
    unfold ownL
    rw [List.mem_filter, List.mem_range, hbit, Bool.and_eq_true, decide_eq_true_eq]
    constructor
    · rintro ⟨a, _, b⟩; exact ⟨a, b⟩
    · rintro ⟨a, b⟩; exact ⟨a, a, b⟩
  have hnd : (ownL n (irW n ps)).Nodup := List.nodup_range.filter _
  generalize ownL n (irW n ps) = l at hmem hnd
  have hg : ∀ a, (ha : a < l.length) → l.getD a 0 = l[a] := fun a ha => by
    rw [List.getD_eq_getElem?_getD, List.getElem?_eq_getElem ha]; rfl
  refine ⟨fun a ha => ?_, fun a ha => ?_, fun a b ha hb e => ?_, fun j hj hi => ?_⟩
  · show l.getD a 0 < n
    rw [hg a ha]
    exact ((hmem _).1 (List.getElem_mem ha)).1
  · show irB n ps (l.getD a 0) = true
    rw [hg a ha]
    exact ((hmem _).1 (List.getElem_mem ha)).2
  · have e : l.getD a 0 = l.getD b 0 := e
    rw [hg a ha, hg b hb] at e
    exact (List.getElem_inj hnd).1 e
  · obtain ⟨a, ha, e⟩ := List.mem_iff_getElem.1 ((hmem j).2 ⟨hj, hi⟩)
    exact ⟨a, ha, by rw [← e]; exact hg a ha⟩
end
end Go.Proofs.Ytgcpomdlajoifaa
