/- The walk of order.Split. -/
import Derived.Test.YtgcpomdlajoifaaIdx
import Derived.Test.YtgcpomdlajoifaaRep
import Derived.Test.YtgcpomdlajoifaaDilU
namespace Go.Proofs.Ytgcpomdlajoifaa
open Go Go.RowKit
set_option linter.unusedVariables false

theorem Own.baseS {w w1 w2 : World} {E : TypeId} {s n : Nat} {v : Value} {xs : List Value} (h : Own w1 w2 E s v n xs) (k : Kept w w1) : Own w w2 E s v n xs := by
  refine ⟨⟨h.1.1, ?_⟩, k.trans h.2⟩
  rcases h.1.2 with hn | ⟨g, cap, cur, e, hb, rest⟩
  · exact .inl hn
  · exact .inr ⟨g, cap, cur, e, Nat.le_trans k.size hb, rest⟩
theorem Row.baseS {w w1 w2 : World} {B : Nat} {e : TypeId} {xs : List Value} (h : Row w1 w2 B e xs) (k : Kept w w1) : Row w w2 B e xs := ⟨h.1, Nat.le_trans k.size h.2.1, k.trans h.2.2⟩
theorem laV_rep (n : Nat) : List.replicate n (iv (-1)) = laV (fun _ => -1) n := by
  apply List.ext_getElem
  · simp [laV]
  · intro i h1 h2; simp [laV, iv]
theorem bitF_zero : bitF 0#32 = fun _ => false := by
  funext j
  unfold bitF
  simp
def chV (l : List Nat) : List Value := l.map fun i : Nat => .int .i64 (i : Int)
theorem chV_length (l : List Nat) : (chV l).length = l.length := by simp [chV]
theorem chV_snoc (l : List Nat) (k : Nat) : chV (l ++ [k]) = chV l ++ [.int .i64 (k : Int)] := by simp [chV]
/-- a chain in memory: its block, its room, what it has -/
abbrev Rk := Nat × Nat × List Nat
def rkV (r : Rk) : Value := .slice (some ⟨r.1, 0, none⟩) r.2.2.length r.2.1
def RkO (w0 w : World) (r : Rk) : Prop := Own w0 w 3 1 (rkV r) r.2.2.length (chV r.2.2)
def SlCh (w : World) (A : Option Addr) (rows : List Rk) : Prop := Sl w 1 A rows.length (rows.map rkV) ∧ ∀ r ∈ rows, Sl w 1 (some ⟨r.1, 0, none⟩) r.2.2.length (chV r.2.2)
theorem SlCh.kept {w w' : World} {A : Option Addr} {rows : List Rk} (h : SlCh w A rows) (k : Kept w w') : SlCh w' A rows := ⟨h.1.kept k, fun r hr => (h.2 r hr).kept k⟩
theorem RkO.sl {w0 w : World} {r : Rk} (h : RkO w0 w r) : Sl w 1 (some ⟨r.1, 0, none⟩) r.2.2.length (chV r.2.2) := by
  obtain ⟨A, c, e, hs, _⟩ := Own.form h
  unfold rkV at e
  injection e with e1 e2 e3
  subst e1
  exact hs
theorem one_slD (A : Option Addr) (n c : Nat) : ∀ u ∈ (#[Value.slice A n c] : Array Value).toList, u.oneCell' = true := fun u hu => by simp at hu; subst hu; rfl
theorem info_rowD : (Try.prog.info? 32).map (fun i => (i.zero, i.size, i.bytes)) = some (some (.slice none 0 0), 1, 24) := by kernel_rfl
theorem ChI.len {n : Nat} {ps : List Pr} {last : Ls} {j z : Nat} {l : List Nat} (h : ChI n ps last j l z) : l.length ≤ n := by
  have := nodup_len2 l (List.range n) h.nd fun x hx => List.mem_range.2 (h.mem x hx).1
  simpa using this
theorem Chs.len {n q : Nat} {last : Ls} {ls : List (List Nat)} (h : Chs n last q ls) : ls.length ≤ q := by
  rw [h.1]
  have := List.length_filter_le (headB last) (List.range q)
  simpa using this
/-- how much is left of a chain -/
noncomputable def mzK (n : Nat) (ps : List Pr) (k : Int) : Nat := if k < 0 then 0 else n + 1 - cntU n ps k.toNat
theorem mzK_some (n : Nat) (ps : List Pr) (k : Nat) : mzK n ps (k : Int) = n + 1 - cntU n ps k := by
  unfold mzK
  rw [if_neg (by omega), Int.toNat_natCast]
theorem mzK_none (n : Nat) (ps : List Pr) : mzK n ps (-1) = 0 := by
  unfold mzK
  rw [if_pos (by omega)]
def RetSplit (w : World) (nn : Nat) (ps : List Pr) (e : Ending) (w' : World) : Prop :=
  ∃ (last : Ls) (S : Nat → Prop) (A' : Option Addr) (c' : Nat) (rows : List Rk), e = .returned (.tuple #[.slice A' rows.length c', .int .i64 0]) ∧ KInv (ov ps) nn last nn S ∧ Chs nn last nn (rows.map fun r => r.2.2) ∧ SlCh w' A' rows ∧ Kept w w'
set_option maxRecDepth 100000 in
set_option maxHeartbeats 4000000 in
theorem split_yes (nn : Nat) (A : Option Addr) (len c : Nat) (ps : List Pr) (w : World) (hp : SlP w A len ps) (hc : ordF nn ps = 0) :
    Calls Try.prog 26 #[.int .i64 nn, .slice A len c] w (RetSplit w nn ps) := by
  obtain ⟨⟨hn1, hn6, hlen⟩, hrng, hanti⟩ := ordF_zero hc
  have HC := Lib.hid hc
  have HA := Lib.hid hanti
  have hn6' : nn ≤ 6 := by omega
  clear hc hrng hanti hlen
  go_enter Try.func26, Try.ntmps26
  go_wp2_with fail
  refine (table_any nn _ _ _ ps _ hp).mono ?_
  rintro e w1 ⟨k1, ⟨_, A1, c1, rfl, hup⟩ | ⟨hne, _⟩⟩
  case inr => rw [HC.out] at hne; cases hne
  rw [Int.toNat_natCast] at hup
  obtain ⟨b2, o2, rfl, hb2, hup2⟩ := hup.open_ (by omega)
  have HUP := Lib.hid (fun k (hk : k < nn) => (⟨hb2, hup2 k hk⟩ : b2 < w1.heap.size ∧ w1.cell? ⟨b2, o2 + k, none⟩ = some (.int .u32 (W (nth (upL nn ps) k)))))
  have HK1 := Lib.hid k1
  clear hup hup2 k1 hp
  have hs1 : SlI (w1.alloc (.cells #[.int .i64 (-1)] 3)) (some ⟨w1.heap.size, 0, none⟩) 1 [-1] := ⟨Sl.new w1 #[.int .i64 (-1)] 3 1 1 rfl, rfl⟩
  have HREP := Lib.hid (repeat_any _ 1 nn _ hs1 (by omega) (by omega))
  have KA := Lib.hid ((Kept.refl w1).alloc (.cells #[.int .i64 (-1)] 3))
  clear hs1
  go_wp2_with fail
  refine HREP.out.mono ?_
  rintro e w2 ⟨v, rfl, hown⟩
  obtain ⟨AL, cl, rfl, _, _⟩ := hown.form
  obtain ⟨L, rfl, hrow⟩ := Row.of_own hown (by omega)
  rw [laV_rep] at hrow
  have hrow1 := hrow.baseS KA.out
  have hM0 : MtC w1 (w2.alloc (.cells #[.slice (some ⟨b2, o2, none⟩) nn c1, .slice (some ⟨L, 0, none⟩) nn cl, .int .u32 0] 73)) w2.heap.size L (.slice (some ⟨b2, o2, none⟩) nn c1) nn cl (fun _ => -1) 0#32 :=
    ⟨Row.new hrow1.kept0 73 [.slice (some ⟨b2, o2, none⟩) nn c1, .slice (some ⟨L, 0, none⟩) nn cl, .int .u32 (W 0#32)] w2.heap.size rfl, hrow1.kept ((Kept.refl _).alloc _)⟩
  have HM0 := Lib.hid hM0
  clear hown hrow hrow1 hM0
  go_wp2_with fail
  generalize w2.heap.size = X at HM0 ⊢
  go_loopw [32] (fun t wr => ∃ (i : Nat) (last : Ls) (S : Nat → Prop) (sw : BitVec 32), i ≤ nn ∧ t = .int .i64 (i : Nat) ∧ Hid (KInv (ov ps) nn last i S) ∧ MtC w1 wr X L (.slice (some ⟨b2, o2, none⟩) nn c1) nn cl last sw) (fun t _ => nn - (intOf t).toNat)
  case atStart => exact ⟨0, _, _, _, Nat.zero_le _, rfl, Lib.hid KInv.start, HM0.out⟩
  case round =>
    obtain ⟨i, last, S, sw, hi, rfl, HK, hC⟩ := hrel
    have HC := Lib.hid hC
    by_cases hlt : i < nn
    · obtain ⟨y2, g2⟩ := hC.1.at0 2 (u := .int .u32 (W sw)) rfl
      have HPRE := Lib.hid (HK.out.pre hlt)
      have hM5 : MtC w1 (wr.setCell ⟨X, 2, none⟩ (.int .u32 0)) X L (.slice (some ⟨b2, o2, none⟩) nn c1) nn cl last 0#32 := hC.seen 0#32
      have HCALL := Lib.hid (find_any w1 X L b2 o2 c1 nn cl ps hn6' HUP.out (uns nn 0#32 + 1) 0#32 last i _ (by omega) hM5 (by rw [bitF_zero]; exact HPRE.out))
      have HLT := Lib.hid hlt
      clear hC hM5
      go_wp2_with fail
      refine HCALL.out.mono ?_
      rintro e w6 ⟨b, last', s6, rfl, hpost, hM6⟩
      rw [bitF_zero] at hpost
      have HM6 := Lib.hid hM6
      obtain ⟨S', HK'⟩ : ∃ S', Hid (KInv (ov ps) nn last' (i + 1) S') := by
        cases b with
        | true => exact ⟨S, Lib.hid (HK.out.yes HLT.out hpost)⟩
        | false => exact ⟨_, Lib.hid (HK.out.no HLT.out hpost)⟩
      clear hpost hM6 hlt
      go_wp2_with fail
      go_roundw
      case rel => exact ⟨i + 1, last', S', s6, HLT.out, by go_num, HK', HM6.out⟩
      case measure => have := HLT.out; simp [intOf]; omega
    · have hin : i = nn := by omega
      subst hin
      obtain ⟨wo, hwo⟩ : ∃ wo : World, wo = wr := ⟨_, rfl⟩
      subst hwo
      have x1 := hC.1.cell 1 rfl
      have KO := Lib.hid (HK1.out.trans hC.1.kept0)
      have HMO := Lib.hid (⟨HK.out.ok, HK.out.inj⟩ : MatO i ps last)
      clear hC hlt hi
      go_wp2_with fail
      go_loopw [10, 47] (fun l t wr => ∃ (q : Nat) (rows : List Rk), q ≤ i ∧ t = .int .i64 (q : Nat) ∧ Own wo wr 32 1 l rows.length (rows.map rkV) ∧ (∀ r ∈ rows, RkO wo wr r) ∧ Hid (Chs i last q (rows.map fun r => r.2.2))) (fun _ t _ => i - (intOf t).toNat)
      case atStart => exact ⟨0, [], Nat.zero_le _, rfl, Own.start (Kept.refl _), (fun r h => by cases h), Lib.hid (Chs.start _ _)⟩
      case round =>
        obtain ⟨q, rows, hq, rfl, hown, hrows, HCH⟩ := hrel
        by_cases hlt : q < i
        · have cq := (HC.out.kept hown.kept0).2.cell q (laV_at _ hlt)
          have j1 : (0 : Int) ≤ (q : Int) := by omega
          have j2 : (q : Int) < (i : Int) := by omega
          have HOWN := Lib.hid hown
          have HROWS := Lib.hid hrows
          have HLT := Lib.hid hlt
          by_cases hneg : last q < 0
          · have hd : decide (0 ≤ last q) = false := by rw [decide_eq_false_iff_not]; omega
            have HST := Lib.hid (ChI.start (ps := ps) hlt hneg)
            have HNEG := Lib.hid hneg
            have x1q := (HC.out.kept hown.kept0).1.cell 1 rfl
            have hAL : Kept wr (wr.alloc (.cells #[.int .i64 (q : Int)] 3)) := (Kept.refl _).alloc _
            have hOC : Own wr (wr.alloc (.cells #[.int .i64 (q : Int)] 3)) 3 1 (.slice (some ⟨wr.heap.size, 0, none⟩) 1 1) 1 (chV [q]) := Own.made (Kept.refl wr) 3 #[.int .i64 (q : Int)] 1 1 _ rfl rfl (by decide)
            have HOC := Lib.hid hOC
            have HIX := Lib.hid (fun (w' : World) (k : Kept wr w') (z : Nat) => laIdx_any L i cl last (z : Int) w' (((HC.out.kept hown.kept0).kept k).2.sl i (by simp [laV])) (by omega))
            have x1k := fun (w' : World) (k : Kept wr w') => (k.cell (cell_lt x1q)).trans x1q
            have X1K := Lib.hid x1k
            have x1a := x1k _ hAL
            have HIX0 := Lib.hid (HIX.out _ hAL q)
            have HBS := Lib.hid hown.kept0
            generalize last q = lq at cq hd
            clear hown hrows hlt hneg hOC x1q x1k hAL
            go_wp2_with fail
            refine HIX0.out.mono ?_
            rintro e w5 ⟨rfl, hres⟩
            obtain ⟨v, rfl, HV⟩ : ∃ v : Int, e = .returned (.int .i64 v) ∧ Hid ((∃ k : Nat, k < i ∧ v = (k : Int) ∧ last k = (q : Int)) ∨ (v = -1 ∧ ∀ k, k < i → last k ≠ (q : Int))) := by
              rcases hres with ⟨k, hk, ek, rfl⟩ | ⟨hno, rfl⟩
              · exact ⟨_, rfl, Lib.hid (.inl ⟨k, hk, rfl, ek⟩)⟩
              · exact ⟨_, rfl, Lib.hid (.inr ⟨rfl, hno⟩)⟩
            clear hres x1a
            go_wp2_with fail
            obtain ⟨wp, hwp⟩ : ∃ wp : World, wp = wr := ⟨_, rfl⟩
            subst hwp
            go_loopw [13, 14] (fun ch k w3 => ∃ (l : List Nat) (z : Nat) (v : Int), k = .int .i64 v ∧ Own wp w3 3 1 ch l.length (chV l) ∧ Hid (ChI i ps last q l z) ∧ Hid ((∃ k : Nat, k < i ∧ v = (k : Int) ∧ last k = (z : Int)) ∨ (v = -1 ∧ ∀ k, k < i → last k ≠ (z : Int)))) (fun _ k _ => mzK i ps (intOf k))
            case atStart => exact ⟨[q], q, v, rfl, HOC.out, HST, HV⟩
            case round =>
              obtain ⟨l, z, v, rfl, hch, HI, HV⟩ := hrel
              have hlen := HI.out.len
              rcases HV.out with ⟨k, hk, rfl, ek⟩ | ⟨rfl, hno⟩
              · have hd2 : decide ((0 : Int) ≤ (k : Int)) = true := by simp
                have HIN := Lib.hid (HI.out.snoc HA.out HMO.out hk ek)
                have HLTZ := Lib.hid (ChI.lt HA.out HMO.out (HI.out.mem z HI.out.zin).1 hk ek)
                have HKK := Lib.hid hk
                have hkk0 := hch.kept0
                clear ek hk
                go_wp2_with (at_builtin; refine wpList_push rfl _ _ 32 rfl 3 Try.underlying32 info_i64 rfl (by decide) (by decide) _ _ _ _ hch #[.int .i64 (k : Int)] _ _ 1 1 rfl rfl rfl rfl (one_i64 _) (by omega) ?_; intro v7 w7 hown7 _; have x7 := X1K.out w7 hown7.kept0)
                have HO7 := Lib.hid (show Own wp w7 3 1 v7 (l ++ [k]).length (chV (l ++ [k])) by rw [chV_snoc, List.length_append]; exact hown7)
                have HIX7 := Lib.hid (HIX.out w7 hown7.kept0 k)
                clear hown7 hkk0 hlen
                refine HIX7.out.mono ?_
                rintro e w8 ⟨rfl, hres⟩
                obtain ⟨v, rfl, HV'⟩ : ∃ v : Int, e = .returned (.int .i64 v) ∧ Hid ((∃ k' : Nat, k' < i ∧ v = (k' : Int) ∧ last k' = (k : Int)) ∨ (v = -1 ∧ ∀ k', k' < i → last k' ≠ (k : Int))) := by
                  rcases hres with ⟨k', hk, ek, rfl⟩ | ⟨hno, rfl⟩
                  · exact ⟨_, rfl, Lib.hid (.inl ⟨k', hk, rfl, ek⟩)⟩
                  · exact ⟨_, rfl, Lib.hid (.inr ⟨rfl, hno⟩)⟩
                have HME : Hid (mzK i ps v < mzK i ps (k : Int)) := Lib.hid (by
                  have hck := cntU_le i ps k
                  rw [mzK_some]
                  rcases HV'.out with ⟨k', hk', rfl, ek'⟩ | ⟨rfl, _⟩
                  · have := ChI.lt HA.out HMO.out HKK.out hk' ek'
                    have := cntU_le i ps k'
                    rw [mzK_some]
                    omega
                  · rw [mzK_none]
                    omega)
                clear hres x7
                go_wp2_with fail
                go_roundw
                case rel => exact ⟨l ++ [k], k, v, rfl, HO7.out, HIN, HV'⟩
                case measure => exact HME.out
              · have hd2 : decide ((0 : Int) ≤ -1) = false := rfl
                have HALL := Lib.hid (HI.out.done HA.out HMO.out hno)
                obtain ⟨Ac, cc, rfl, _, _⟩ := hch.form
                obtain ⟨g, rfl, _, _⟩ := hch.block (List.length_pos_of_mem HI.out.zin)
                have HCH2 := Lib.hid (HCH.out.snoc HLT.out HNEG.out HALL.out)
                have hrl := HCH.out.len
                rw [List.length_map] at hrl
                have hol := HOWN.out.kept hch.kept0
                have HOL := Lib.hid hol
                have HRN := Lib.hid (show RkO wo wr (g, cc, l) from hch.baseS HBS.out)
                have HRO := Lib.hid (fun r hr => (Own.kept (HROWS.out r hr) hch.kept0 : RkO wo wr r))
                clear hno hch hlen
                go_wp2_with (at_builtin; refine wpList_push rfl _ _ 42 rfl 32 Try.underlying42 info_rowD rfl (by decide) (by decide) _ _ _ _ hol #[.slice (some ⟨g, 0, none⟩) l.length cc] _ _ 1 1 rfl rfl rfl rfl (one_slD _ _ _) (by omega) ?_; intro v7 w7 hown7 hg7)
                have HX7 := Lib.hid (show Own wo w7 32 1 v7 (rows ++ [((g, cc, l) : Rk)]).length ((rows ++ [((g, cc, l) : Rk)]).map rkV) by
                  rw [List.map_append, List.length_append]; exact hown7)
                have HR7 := Lib.hid (show ∀ r ∈ rows ++ [((g, cc, l) : Rk)], RkO wo w7 r from fun r hr => by
                  have hfar : RkO wo wr r := by
                    rcases List.mem_append.1 hr with hr | hr
                    · exact HRO.out r hr
                    · rw [List.mem_singleton] at hr
                      subst hr
                      exact HRN.out
                  exact Own.grown (Own.alloc hfar _) hg7 (Own.far2 hfar HOL.out (by decide)) HOL.out.since)
                have HC7 := Lib.hid (show Chs i last (q + 1) ((rows ++ [((g, cc, l) : Rk)]).map fun r => r.2.2) by rw [List.map_append]; exact HCH2.out)
                clear hown7 hg7 hol hrl
                go_wp2_with fail
                go_roundw
                case rel => exact ⟨q + 1, rows ++ [((g, cc, l) : Rk)], HLT.out, by go_num, HX7.out, HR7.out, HC7⟩
                case measure => have := HLT.out; simp [intOf]; omega
          · have HSK := Lib.hid (HCH.out.skip hneg)
            have hd : decide (0 ≤ last q) = true := by rw [decide_eq_true_eq]; omega
            generalize last q = lq at cq hd
            clear hown hrows hlt hneg
            go_wp2_with fail
            go_roundw
            case rel => exact ⟨q + 1, rows, HLT.out, by go_num, HOWN.out, HROWS.out, HSK⟩
            case measure => have := HLT.out; simp [intOf]; omega
        · have hqi : q = i := by omega
          subst hqi
          obtain ⟨A', c', rfl, hsl, _⟩ := hown.form
          have FIN : Hid (RetSplit w q ps (.returned (.tuple #[.slice A' rows.length c', .int .i64 0])) wr) := Lib.hid ⟨last, S, A', c', rows, rfl, HK.out, HCH.out, ⟨hsl, fun r hr => (hrows r hr).sl⟩, KO.out.trans hown.kept0⟩
          clear hown hrows hlt hsl
          go_wp2_with fail
          go_ret2
          exact FIN.out
end Go.Proofs.Ytgcpomdlajoifaa
