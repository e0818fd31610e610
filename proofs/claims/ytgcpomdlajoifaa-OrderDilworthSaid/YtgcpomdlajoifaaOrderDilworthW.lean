/- OrderDilworth: the walk of the statement. -/
import Derived.Test.YtgcpomdlajoifaaSplit
import Derived.Test.YtgcpomdlajoifaaApart
import Derived.Test.YtgcpomdlajoifaaRolesApartW
import Derived.Test.YtgcpomdlajoifaaDowns
namespace Go.Proofs.Ytgcpomdlajoifaa
open Go Go.RowKit
set_option linter.unusedVariables false

theorem split_no (n : Int) (A : Option Addr) (len c : Nat) (ps : List Pr) (w : World) (hp : SlP w A len ps) (hc : ordF n ps ≠ 0) :
    Calls Try.prog 26 #[.int .i64 n, .slice A len c] w fun e w' => e = .returned (.tuple #[.slice none 0 0, .int .i64 (ordF n ps)]) ∧ Kept w w' := by
  go_enter Try.func26, Try.ntmps26
  go_wp2_with fail
  refine (table_any n _ _ _ ps _ hp).mono ?_
  rintro e w1 ⟨k1, ⟨h0, _⟩ | ⟨hne, rfl⟩⟩
  case inl => exact absurd h0 hc
  have hne2 : (ordF n ps != 0) = true := hne
  have HK1 := Lib.hid k1
  clear k1 hne hc hp
  go_wp2_with fail
  go_ret2
  exact ⟨rfl, HK1.out⟩
/-- how many of the first k of a chain are in the set -/
def manyC (ap : BitVec 32) (l : List Nat) (k : Nat) : Nat := ((l.take k).filter fun i => ap.getLsbD i).length
theorem manyC_succ (ap : BitVec 32) (l : List Nat) (k : Nat) (h : k < l.length) : manyC ap l (k + 1) = manyC ap l k + (if ap.getLsbD l[k] then 1 else 0) := by
  unfold manyC
  rw [take_snoc l k h, List.filter_append, List.length_append]
  congr 1
  cases hb : ap.getLsbD l[k] <;> simp [hb]
theorem manyC_le (ap : BitVec 32) (l : List Nat) (k : Nat) : manyC ap l k ≤ k := by
  unfold manyC
  exact Nat.le_trans (List.length_filter_le _ _) (by rw [List.length_take]; omega)
theorem chV_at {l : List Nat} {k : Nat} (h : k < l.length) : (chV l)[k]? = some (.int .i64 (l[k] : Int)) := by simp [chV, h]
set_option maxRecDepth 100000 in
set_option maxHeartbeats 4000000 in
theorem orderDilworth_yes (nn : Nat) (A : Option Addr) (len cp : Nat) (ps : List Pr) (w : World) (hp : SlP w A len ps) (hc : ordF nn ps = 0) :
    Calls Try.prog 7 #[.int .i64 nn, .slice A len cp] w fun e w' => e = .returned (.bool true) ∧ Kept w w' := by
  obtain ⟨⟨hn1, hn6, hlen⟩, hrng, hanti⟩ := ordF_zero hc
  have hn6' : nn ≤ 6 := by omega
  have HA := Lib.hid hanti
  have HC := Lib.hid hc
  have HP := Lib.hid hp
  have HN1 := Lib.hid (show 0 < nn by omega)
  clear hc hrng hanti hlen hp
  go_enter Try.func7, Try.ntmps7
  go_wp2_with fail
  refine (apart_yes nn A len cp ps _ HP.out HC.out).mono ?_
  rintro e w1 ⟨rfl, k1⟩
  have HK1 := Lib.hid k1
  clear k1
  go_wp2_with fail
  refine (split_yes nn A len cp ps _ (HP.out.kept HK1.out) HC.out).mono ?_
  rintro e w2 ⟨last, S, A2, c2, rows, rfl, hK, hCh, hSl, k2⟩
  have hE := hK.each hn6' HA.out
  have hm : MatO nn ps last := ⟨hK.ok, hK.inj⟩
  have HLEN := Lib.hid (show rows.length = bitsN (apartS nn ps) 32 by have := hCh.1; rw [List.length_map] at this; rw [this, hE.1])
  have HNZ := Lib.hid (show (apartS nn ps == 0#32) = false by
    have hr := hm.root HA.out nn 0 HN1.out (cntU_le nn ps 0)
    have hr2 := (hm.upK nn 0 HN1.out).1
    obtain ⟨v, hv, sv, _⟩ := hE.2 _ hr2 hr
    rw [beq_eq_false_iff_ne]
    intro e
    rw [e] at sv
    simp at sv)
  have HONE := Lib.hid (show ∀ r ∈ rows, (r.2.2.filter fun i => (apartS nn ps).getLsbD i).length = 1 ∧ (∀ i ∈ r.2.2, i < nn) ∧ r.2.2.length ≤ nn from fun r hr => by
    obtain ⟨j, hj, hl, hA⟩ := hCh.2 _ (List.mem_map.2 ⟨r, hr, rfl⟩)
    exact ⟨hA.one (hE.2 j hj hl), fun i hi => ((hA.2 i).1 hi).1, by simpa using nodup_len2 r.2.2 (List.range nn) hA.1 fun x hx => List.mem_range.2 ((hA.2 x).1 hx).1⟩)
  have HR6 := Lib.hid (show rows.length ≤ 6 by have := hCh.len; rw [List.length_map] at this; omega)
  have HSL := Lib.hid hSl
  have HK2 := Lib.hid (HK1.out.trans k2)
  clear hK hCh hSl k2 hE hm
  go_wp2_with fail
  refine (ordered_any nn A len cp ps _ (HP.out.kept HK2.out)).mono ?_
  rintro e w3 ⟨rfl, k3⟩
  rw [HC.out]
  have HK3 := Lib.hid (HK2.out.trans k3)
  have HSL3 := Lib.hid (HSL.out.kept k3)
  have HSZ := Lib.hid (fun W => rolesApartDone.size_any (apartS nn ps) W)
  rw [← HLEN.out] at HSZ
  have hnz := HNZ.out
  generalize hap : apartS nn ps = ap at HSZ HONE hnz ⊢
  clear k3 hap
  go_wp2_with fail
  refine (HSZ.out _).mono ?_
  rintro e w8 ⟨rfl, rfl⟩
  have hll : ((rows.length : Int) != (rows.length : Int)) = false := by simp
  go_wp2_with fail
  clear hll hnz
  go_loopw [55] (fun t wr => ∃ q : Nat, q ≤ rows.length ∧ t = .int .i64 (q : Nat) ∧ wr = w3) (fun t _ => rows.length - (intOf t).toNat)
  case atStart => exact ⟨0, Nat.zero_le _, rfl, rfl⟩
  case round =>
    obtain ⟨q, hq, rfl, rfl⟩ := hrel
    by_cases hlt : q < rows.length
    · have hr6 := HR6.out
      obtain ⟨b, o, rfl, hb, hcs⟩ := HSL3.out.1.2 (by omega)
      have cq := hcs q (rkV rows[q]) (by simp [hlt])
      have hone := HONE.out _ (List.getElem_mem hlt)
      have hrow := HSL3.out.2 _ (List.getElem_mem hlt)
      generalize rows[q] = r at cq hone hrow
      obtain ⟨g, c, l⟩ := r
      have cq2 : wr.cell? ⟨b, o + q, none⟩ = some (.slice (some ⟨g, 0, none⟩) l.length c) := cq
      have HONE1 := Lib.hid hone
      have HROW := Lib.hid hrow
      have HLT := Lib.hid hlt
      have j1 : (0 : Int) ≤ (q : Int) := by omega
      have j2 : (q : Int) < (rows.length : Int) := by omega
      clear cq hone hrow hcs hlt hq
      go_wp2_with fail
      obtain ⟨wo, hwo⟩ : ∃ wo : World, wo = wr := ⟨_, rfl⟩
      subst hwo
      go_loopw [11, 61] (fun m t wr => ∃ k : Nat, k ≤ l.length ∧ t = .int .i64 (k : Nat) ∧ m = .int .i64 (manyC ap l k : Nat) ∧ wr = wo) (fun _ t _ => l.length - (intOf t).toNat)
      case atStart => exact ⟨0, Nat.zero_le _, rfl, rfl, rfl⟩
      case round =>
        obtain ⟨k, hk, rfl, rfl, rfl⟩ := hrel
        by_cases hlt : k < l.length
        · obtain ⟨bl, ol, e, hbl, hcl⟩ := HROW.out.2 (by show 0 < l.length; omega)
          injection e with e
          injection e with ea eb
          subst ea eb
          have ck := hcl k _ (chV_at hlt)
          rw [Nat.zero_add] at ck
          have hin := HONE1.out.2.1 _ (List.getElem_mem hlt)
          have HMS := Lib.hid (manyC_succ ap l k hlt)
          have hml := manyC_le ap l k
          have hl6 : l.length ≤ nn := HONE1.out.2.2
          generalize l[k] = x at ck hin HMS
          have HB := Lib.hid (fun W b hb => bitS_is ap x (by omega) b hb W)
          have i1 : (0 : Int) ≤ (k : Int) := by omega
          have i2 : (k : Int) < (l.length : Int) := by omega
          have HLK := Lib.hid hlt
          have HML := Lib.hid hml
          clear hcl hlt hk
          cases hbt : ap.getLsbD x with
          | true =>
            have HM1 := Lib.hid (show manyC ap l (k + 1) = manyC ap l k + 1 by rw [HMS.out, hbt]; rfl)
            have HBB := Lib.hid (fun W => HB.out W true hbt)
            clear hbt
            generalize manyC ap l k = mk at hml HM1
            go_wp2_with fail
            refine (HBB.out _).mono ?_
            rintro e w9 ⟨rfl, rfl⟩
            go_wp2_with fail
            go_roundw
            case rel => exact ⟨k + 1, HLK.out, by go_num, by rw [HM1.out]; go_num, trivial⟩
            case measure => have := HLK.out; simp [intOf]; omega
          | false =>
            have HM1 := Lib.hid (show manyC ap l (k + 1) = manyC ap l k by rw [HMS.out, hbt]; rfl)
            have HBB := Lib.hid (fun W => HB.out W false hbt)
            clear hbt
            generalize manyC ap l k = mk at hml HM1
            go_wp2_with fail
            refine (HBB.out _).mono ?_
            rintro e w9 ⟨rfl, rfl⟩
            go_wp2_with fail
            go_roundw
            case rel => exact ⟨k + 1, HLK.out, by go_num, by rw [HM1.out], trivial⟩
            case measure => have := HLK.out; simp [intOf]; omega
        · have hkl : k = l.length := by omega
          have hm1 : manyC ap l k = 1 := by
            have := HONE1.out.1
            unfold manyC
            rw [hkl, List.take_length]
            exact this
          rw [hm1]
          subst hkl
          clear hm1 hlt hk
          go_wp2_with fail
          go_roundw
          case rel => exact ⟨q + 1, HLT.out, by go_num, trivial⟩
          case measure => have := HLT.out; simp [intOf]; omega
    · have hqr : q = rows.length := by omega
      subst hqr
      go_wp2_with fail
      go_ret
      exact ⟨rfl, HK3.out⟩
set_option maxRecDepth 100000 in
theorem orderDilworth_walk (n : Int) (A : Option Addr) (len cp : Nat) (ps : List Pr) (w : World) (_wn : (Lit.int .i64 n).wf = true) (hl : len ≤ maxLen) (hp : SlP w A len ps) :
    Calls Try.prog 7 #[.int .i64 n, .slice A len cp] w fun e w' => e = .returned (.bool true) ∧ Kept w w' := by
  by_cases hc : ordF n ps = 0
  · obtain ⟨⟨hn1, hn6, _⟩, _, _⟩ := ordF_zero hc
    obtain ⟨nn, rfl⟩ := Int.eq_ofNat_of_zero_le (show 0 ≤ n by omega)
    exact orderDilworth_yes nn A len cp ps w hp hc
  · have HC := Lib.hid hc
    have HP := Lib.hid hp
    have hne : (ordF n ps != 0) = true := by rw [bne_iff_ne]; exact hc
    have hnb : (ordF n ps == 0) = false := by rw [beq_eq_false_iff_ne]; exact hc
    clear hc hp
    go_enter Try.func7, Try.ntmps7
    go_wp2_with fail
    refine (apart_no n A len cp ps _ HP.out HC.out).mono ?_
    rintro e w1 ⟨rfl, k1⟩
    have HK1 := Lib.hid k1
    clear k1
    go_wp2_with fail
    refine (split_no n A len cp ps _ (HP.out.kept HK1.out) HC.out).mono ?_
    rintro e w2 ⟨rfl, k2⟩
    have HK2 := Lib.hid (HK1.out.trans k2)
    clear k2
    go_wp2_with fail
    refine (ordered_any n A len cp ps _ (HP.out.kept HK2.out)).mono ?_
    rintro e w3 ⟨rfl, k3⟩
    rw [hnb]
    have HK3 := Lib.hid (HK2.out.trans k3)
    clear k3
    go_wp2_with fail
    go_ret
    exact ⟨rfl, HK3.out⟩
end Go.Proofs.Ytgcpomdlajoifaa
