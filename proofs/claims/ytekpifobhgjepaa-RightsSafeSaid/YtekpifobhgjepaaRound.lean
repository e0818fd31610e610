/- The walk of rights.round. -/
import Derived.Test.YtekpifobhgjepaaRights
namespace Go.Proofs.Ytekpifobhgjepaa
open Go Go.RowKit
set_option linter.unusedVariables false

theorem info_wrow : (Try.prog.info? 42).map (fun i => (i.zero, i.size, i.bytes)) = some (some (.slice none 0 0), 1, 24) := by kernel_rfl
/-- where a round is: its matrix is the call's own -/
def NxInv (w wr : World) (n : Nat) (Bs Cs : Nat → Nat) (A : Option Addr) (cap : Nat) (nx : Mx) : Prop := Own w wr 42 1 (.slice A n cap) n (outL n n Bs Cs) ∧ Jag w wr 23 n n Bs nx
theorem NxInv.kept {w wr w' : World} {n : Nat} {Bs Cs : Nat → Nat} {A : Option Addr} {cap : Nat} {nx : Mx} (h : NxInv w wr n Bs Cs A cap nx) (k : Kept wr w') : NxInv w w' n Bs Cs A cap nx := ⟨h.1.kept k, h.2.kept k⟩
theorem NxInv.set {w wr : World} {n : Nat} {Bs Cs : Nat → Nat} {A : Option Addr} {cap : Nat} {nx : Mx} (h : NxInv w wr n Bs Cs A cap nx) {i : Nat} (hi : i < n) (k : Nat) (v : BitVec 32) : NxInv w (wr.setCell ⟨Bs i, k, none⟩ (.int .u32 (W v))) n Bs Cs A cap (setM nx i k v) :=
  ⟨h.1.setRow (h.2.1 i hi) (by decide) k _, h.2.set hi k v⟩
/-- what a round hands back -/
def RetRound (w : World) (n : Nat) (cs : List Ch) (m : Mx) (e : Ending) (w' : World) : Prop :=
  ∃ A c rs2 more, e = .returned (.tuple #[.slice A n c, .bool more]) ∧ Kept w w' ∧ SlX w' A n rs2 ∧ (∀ r ∈ rs2, r.2.1 = n) ∧ RInv n cs m (mxOf rs2) more ∧ D0 n cs m (mxOf rs2) n
theorem D0.same {n : Nat} {cs : List Ch} {m nx nx2 : Mx} {i : Nat} (h : D0 n cs m nx i) (hi : i ≤ n) (e : eqM n nx2 nx) : D0 n cs m nx2 i :=
  fun a b c ha hb hc => (h a b c ha hb hc).mono (by rw [e a c (by omega) hc]; exact subB_refl _)
theorem Row.since {w w1 w2 : World} {B : Nat} {e : TypeId} {xs : List Value} (h : Row w1 w2 B e xs) (k : Kept w w1) : Row w w2 B e xs := ⟨h.1, Nat.le_trans k.size h.2.1, k.trans h.2.2⟩
theorem rowOf_of {n k : Nat} {m : Mx} {xs : List (BitVec 32)} (hl : xs.length = n) (h : ∀ j, m k j = nth xs j) : xs.map wv = rowOf n m k := by
  unfold rowOf
  apply List.ext_getElem
  · simp [hl]
  · intro i h1 h2
    rw [List.getElem_map, List.getElem_map, List.getElem_range, h, nth_eq _ _ (by simpa using h1)]
set_option maxRecDepth 100000 in
set_option maxHeartbeats 16000000 in
theorem round_any (n : Nat) (A : Option Addr) (c : Nat) (rs : List Wr) (A2 : Option Addr) (k2 c2 : Nat) (cs : List Ch) (w : World) (hs : SlX w A n rs) (hc : SlC w A2 k2 cs) (hn1 : 1 ≤ n) (hn6 : n ≤ 6) (hk2 : k2 ≤ 1000) (hr : ∀ r ∈ rs, r.2.1 = n) :
    Calls Try.prog 47 #[.slice A n c, .slice A2 k2 c2] w (RetRound w n cs (mxOf rs)) := by
  have HR := Lib.hid hr
  clear hr
  go_enter Try.func47, Try.ntmps47
  go_wp2_with fail
  go_loopw [6, 19] (fun vn t wr => ∃ (k : Nat) (Bs Cs : Nat → Nat), k ≤ n ∧ t = .int .i64 k ∧ Own w wr 42 1 vn k (outL n k Bs Cs) ∧ Jag w wr 23 n k Bs (mxOf rs)) (fun _ t _ => n - (intOf t).toNat)
  case atStart => exact ⟨0, fun _ => 0, fun _ => 0, Nat.zero_le _, rfl, Own.start (Kept.refl _), Jag.nil _ _ _ _ _ _⟩
  case round =>
    obtain ⟨k, Bs, Cs, hk, rfl, hown, hjag⟩ := hrel
    by_cases hlt : k < n
    · obtain ⟨b, off, hkq, rfl, hb, cq, hrow⟩ := (hs.kept hown.kept0).get k hlt
      have e1 := HR.out _ (List.getElem_mem hkq)
      have hx := hrow.1
      have HM := Lib.hid (fun j => mxOf_at hkq j)
      rw [e1] at cq hx
      generalize rs[k] = r at cq hx HM
      have hi1 : (0 : Int) ≤ (k : Int) := by omega
      have hi2 : (k : Int) < (n : Int) := by omega
      obtain ⟨A4, c4, rfl, hsl4, hc4⟩ := hown.form
      have hjag0 := hjag
      go_wp2_with fail
      refine (clone_any r.1 n r.2.2.1 r.2.2.2 _ hx (by omega)).mono ?_
      rintro e w2 ⟨v2, rfl, hown2⟩
      have hxl := hx.2
      rw [hxl] at hown2
      obtain ⟨A5, c5, rfl, hsl5, hc5⟩ := hown2.form
      obtain ⟨B, rfl, hrowB⟩ := Row.of_own hown2 (by omega)
      have hbB := hrowB.2.1
      rw [rowOf_of hxl HM.out] at hrowB
      have kw2 := hown2.kept0
      have hrowB2 := hrowB.since hown.kept0
      have OA := Lib.hid (hown.kept kw2)
      have JA := Lib.hid ((hjag.kept kw2).kept ((Kept.refl _).alloc (.cells #[.slice (some ⟨B, 0, none⟩) n c5] 42)))
      have RA := Lib.hid (hrowB2.kept ((Kept.refl _).alloc (.cells #[.slice (some ⟨B, 0, none⟩) n c5] 42)))
      have HB := Lib.hid (fun i (hi : i < k) => Nat.ne_of_lt (Nat.lt_of_lt_of_le (hjag0.1 i hi).lt hbB))
      have HF1 := Lib.hid (fun i (hi : i < k) => (OA.out.far ((hjag.kept kw2).1 i hi) (by decide)))
      have HF2 := Lib.hid (OA.out.far hrowB2 (by decide))
      clear hown2 hsl5 hrowB hrowB2 hjag hjag0 kw2 hx hsl4
      go_wp2_with (at_builtin; refine wpList_push rfl _ _ 48 rfl 42 Try.underlying48 info_wrow rfl (by decide) (by decide) _ _ _ _ OA.out #[.slice (some ⟨B, 0, none⟩) n c5] 42 _ 1 1 rfl rfl rfl rfl (by intro u hu; simp at hu; subst hu; rfl) (by omega) ?_; intro v7 w7 hown7 hgr7; have J7 := Lib.hid (JA.out.grown hgr7 HF1.out OA.out.since); have R7 := Lib.hid (RA.out.grown hgr7 HF2.out OA.out.since); have O7 := Lib.hid hown7; clear hown7 hgr7)
      go_roundw
      case rel => exact ⟨k + 1, upd1 Bs k B, upd1 Cs k c5, by omega, by go_num, by rw [outL_snoc]; exact O7.out, J7.out.snoc R7.out HB.out⟩
      case measure => simp [intOf]; omega
    · obtain rfl : k = n := by omega
      obtain ⟨A4, c4, rfl, hsl4, hc4⟩ := hown.form
      have NX := Lib.hid (show NxInv w wr k Bs Cs A4 c4 (mxOf rs) from ⟨hown, hjag⟩)
      have KW0 := Lib.hid hown.kept0
      clear hown hjag hsl4
      go_wp2_with fail
      go_loopw [9, 31] (fun vm t wr => ∃ (i : Nat) (nx : Mx) (more : Bool), i ≤ k ∧ vm = .bool more ∧ t = .int .i64 i ∧ NxInv w wr k Bs Cs A4 c4 nx ∧ Kept w wr ∧ Hid (RInv k cs (mxOf rs) nx more ∧ D0 k cs (mxOf rs) nx i)) (fun _ t _ => k - (intOf t).toNat)
      case atStart => exact ⟨0, mxOf rs, false, Nat.zero_le _, rfl, rfl, NX.out, KW0.out, Lib.hid ⟨RInv.start, D0.start⟩⟩
      case round =>
        obtain ⟨i, nx, more, hi, rfl, rfl, hnx, kw, HI⟩ := hrel
        by_cases hlti : i < k
        · obtain ⟨b, off, hkq, rfl, hb, cq0, hrow⟩ := hs.get i hlti
          have cq := (kw.cell (p := ⟨b, off + i, none⟩) hb).trans cq0
          clear cq0
          have e1 := HR.out _ (List.getElem_mem hkq)
          have HM := Lib.hid (fun j => mxOf_at hkq j)
          have hx := hrow.1
          rw [e1] at cq hx
          generalize rs[i] = r at cq hx HM
          obtain ⟨ra, rl, rc, rxs⟩ := r
          simp only at cq hx HM
          have hi1 : (0 : Int) ≤ (i : Int) := by omega
          have hi2 : (i : Int) < (k : Int) := by omega
          clear hrow e1
          go_wp2_with fail
          go_loopw [9, 38] (fun vm t wr2 => ∃ (j : Nat) (nx : Mx) (more : Bool), j ≤ k ∧ vm = .bool more ∧ t = .int .i64 j ∧ NxInv w wr2 k Bs Cs A4 c4 nx ∧ Hid (RInv k cs (mxOf rs) nx more ∧ D1 k cs (mxOf rs) nx i j)) (fun _ t _ => k - (intOf t).toNat)
          case atStart => exact ⟨0, nx, more, Nat.zero_le _, rfl, rfl, hnx, Lib.hid ⟨HI.out.1, HI.out.2.down⟩⟩
          case round =>
            clear hnx HI
            obtain ⟨j, nx, more, hj, rfl, rfl, hnx, HI⟩ := hrel
            have kw2 := hnx.1.kept0
            by_cases hltj : j < k
            · obtain ⟨b2, off2, rfl, hb2, cj⟩ := (hx.kept kw2).getN j hltj
              have HX := Lib.hid (HM.out j)
              have hj1 : (0 : Int) ≤ (j : Int) := by omega
              have hj2 : (j : Int) < (k : Int) := by omega
              generalize nth rxs j = x at cj HX
              go_wp2_with fail
              go_loopw [9, 45] (fun vm t wr3 => ∃ (l : Nat) (nx : Mx) (more : Bool), l ≤ k ∧ vm = .bool more ∧ t = .int .i64 l ∧ NxInv w wr3 k Bs Cs A4 c4 nx ∧ Hid (RInv k cs (mxOf rs) nx more ∧ D2 k cs (mxOf rs) nx i j l)) (fun _ t _ => k - (intOf t).toNat)
              case atStart => exact ⟨0, nx, more, Nat.zero_le _, rfl, rfl, hnx, Lib.hid ⟨HI.out.1, HI.out.2.down⟩⟩
              case round =>
                clear hnx HI
                obtain ⟨l, nx, more, hl, rfl, rfl, hnx, HI⟩ := hrel
                by_cases hltl : l < k
                · have hl1 : (0 : Int) ≤ (l : Int) := by omega
                  have hl2 : (l : Int) < (k : Int) := by omega
                  go_wp2_with fail
                  go_loopw [9, 50] (fun vm t wr4 => ∃ (q : Nat) (nx : Mx) (more : Bool), q ≤ k2 ∧ vm = .bool more ∧ t = .int .i64 q ∧ NxInv w wr4 k Bs Cs A4 c4 nx ∧ Hid (RInv k cs (mxOf rs) nx more ∧ D3 k cs (mxOf rs) nx i j l q)) (fun _ t _ => k2 - (intOf t).toNat)
                  case atStart => exact ⟨0, nx, more, Nat.zero_le _, rfl, rfl, hnx, Lib.hid ⟨HI.out.1, HI.out.2.down⟩⟩
                  case round =>
                    clear hnx HI
                    obtain ⟨q, nx, more, hq, rfl, rfl, hnx, HI⟩ := hrel
                    by_cases hltq : q < k2
                    · have kwa := hnx.1.kept0
                      obtain ⟨b5, off5, hq5, rfl, hb5, d1, d2, d3⟩ := (hc.kept kwa).get q hltq
                      have hat := (hs.kept kwa).at_ HR.out j l hltj hltl
                      obtain ⟨b6, off6, b7, off7, c7, e6, m1, m2⟩ := hat
                      injection e6 with e6
                      injection e6 with e6a e6b
                      subst e6a e6b
                      obtain ⟨g, rfl, hg0, hglt⟩ := hnx.1.block (by omega)
                      have n1 := hnx.1.cell i (outL_at hlti)
                      obtain ⟨n2, n3⟩ := hnx.2.cell hlti hltl
                      have HSKIP := Lib.hid (fun hsk => D3.skip HI.out.2 hq5 hsk)
                      have HFIRE := Lib.hid (fun hf hs => show RInv k cs (mxOf rs) (setM nx i l (nx i l ||| cs[q].2.2)) true ∧ D3 k cs (mxOf rs) (setM nx i l (nx i l ||| cs[q].2.2)) i j l (q + 1) from ⟨HI.out.1.fire hlti hltj hltl hq5 hf hs, D3.fire HI.out.2 hq5⟩)
                      have HF := Lib.hid (show fires (mxOf rs) cs[q] i j l = (subB cs[q].1 x && subB cs[q].2.1 (mxOf rs j l)) by rw [← HX.out]; rfl)
                      have HRI := Lib.hid HI.out.1
                      have HNX := Lib.hid hnx
                      generalize cs[q] = ch at d1 d2 d3 HSKIP HFIRE HF
                      obtain ⟨ca, cb, cc⟩ := ch
                      simp only at d1 d2 d3 HSKIP HFIRE HF
                      generalize mxOf rs j l = y at m2 HF
                      generalize nx i l = z at n2 HSKIP HFIRE
                      have hq1 : (0 : Int) ≤ (q : Int) := by omega
                      have hq2 : (q : Int) < (k2 : Int) := by omega
                      have hka : Kept wr (wr.alloc (.cells #[.int .u32 (W ca), .int .u32 (W cb), .int .u32 (W cc)] 51)) := (Kept.refl _).alloc _
                      have HNXa := Lib.hid (hnx.kept hka)
                      have m1' := (hka.cell (cell_lt m1)).trans m1
                      have m2' := (hka.cell (cell_lt m2)).trans m2
                      have n1' := (hka.cell (cell_lt n1)).trans n1
                      have n2' := (hka.cell (cell_lt n2)).trans n2
                      have bx := Box.new wr #[.int .u32 (W ca), .int .u32 (W cb), .int .u32 (W cc)] 51 wr.heap.size rfl
                      have p0 := bx.at_ 0 rfl
                      have p1 := bx.at_ 1 rfl
                      have p2 := bx.at_ 2 rfl
                      clear bx hnx HI
                      cases hb1 : subB ca x
                      · have HB := Lib.hid hb1
                        go_wp2_with fail
                        go_quiet (fail)
                        go_wp2_with fail
                        go_roundw
                        case rel => exact ⟨q + 1, nx, more, by omega, rfl, by go_num, HNX.out.kept (hka.drewN nq), Lib.hid ⟨HRI.out, HSKIP.out (fun h => by rw [HF.out, HB.out] at h; cases h)⟩⟩
                        case measure => simp [intOf]; omega
                      · cases hb2 : subB cb y
                        · have HB := Lib.hid hb2
                          go_wp2_with fail
                          go_quiet (fail)
                          go_wp2_with fail
                          go_roundw
                          case rel => exact ⟨q + 1, nx, more, by omega, rfl, by go_num, HNX.out.kept (hka.drewN nq), Lib.hid ⟨HRI.out, HSKIP.out (fun h => by rw [HF.out, HB.out, Bool.and_false] at h; cases h)⟩⟩
                          case measure => simp [intOf]; omega
                        · cases hb3 : subB cc z
                          · have HB := Lib.hid hb3
                            have HB1 := Lib.hid hb1
                            have HB2 := Lib.hid hb2
                            go_wp2_with fail
                            go_quiet (fail)
                            have k5 := Lib.hid (hka.drewN (nq + 1))
                            have HNXb := Lib.hid (HNX.out.kept k5.out)
                            have n1b := (k5.out.cell (cell_lt n1)).trans n1
                            have n2b := (k5.out.cell (cell_lt n2)).trans n2
                            have n3b := (HNXb.out.2.cell hlti hltl).2
                            have p2b := ((Kept.drewN (Kept.refl _) (nq + 1)).cell (cell_lt p2)).trans p2
                            have h2b := (HNXb.out.2.1 i hlti).lt
                            clear n1 n2 n3 n1' n2' m1 m2 m1' m2' p0 p1
                            go_wp2_with fail
                            go_region
                            have HS := Lib.hid (HNXb.out.set hlti l (z ||| cc))
                            go_wp2_with fail
                            go_roundw
                            case rel =>
                              have hf := HFIRE.out (by rw [HF.out, HB1.out, HB2.out]; rfl) HB.out
                              exact ⟨q + 1, _, true, by omega, rfl, by go_num, HS.out, Lib.hid hf⟩
                            case measure => simp [intOf]; omega
                          · have HB := Lib.hid hb3
                            go_wp2_with fail
                            go_quiet (fail)
                            go_wp2_with fail
                            go_roundw
                            case rel => exact ⟨q + 1, nx, more, by omega, rfl, by go_num, HNX.out.kept (hka.drewN nq), Lib.hid ⟨HRI.out, HSKIP.out (fun h => HB.out)⟩⟩
                            case measure => simp [intOf]; omega
                    · have HDN := Lib.hid (HI.out.2.up (by rw [(hc.kept hnx.1.kept0).2]; omega))
                      have HRI := Lib.hid HI.out.1
                      go_wp2_with fail
                      go_roundw
                      case rel => exact ⟨l + 1, nx, more, by omega, rfl, by go_num, hnx, Lib.hid ⟨HRI.out, HDN.out⟩⟩
                      case measure => simp [intOf]; omega
                · obtain rfl : l = k := by omega
                  have HDN := Lib.hid HI.out.2.up
                  have HRI := Lib.hid HI.out.1
                  go_wp2_with fail
                  go_roundw
                  case rel => exact ⟨j + 1, nx, more, by omega, rfl, by go_num, hnx, Lib.hid ⟨HRI.out, HDN.out⟩⟩
                  case measure => simp [intOf]; omega
            · obtain rfl : j = k := by omega
              have HDN := Lib.hid HI.out.2.up
              have HRI := Lib.hid HI.out.1
              go_wp2_with fail
              go_roundw
              case rel => exact ⟨i + 1, nx, more, by omega, rfl, by go_num, hnx, hnx.1.kept0, Lib.hid ⟨HRI.out, HDN.out⟩⟩
              case measure => simp [intOf]; omega
        · obtain rfl : i = k := by omega
          have HRI := Lib.hid HI.out.1
          have HDN := Lib.hid HI.out.2
          have heq : eqM i (mxOf (rowsW i i Bs Cs nx)) nx := fun a b ha hb => rowsW_mx ha hb
          have FIN := Lib.hid (show RetRound w i cs (mxOf rs) (.returned (.tuple #[.slice A4 i c4, .bool more])) wr from ⟨A4, c4, rowsW i i Bs Cs nx, more, rfl, kw, hnx.2.sl hnx.1 (by unfold maxLen; omega), rowsW_len _ _ _ _ _, HRI.out.same heq, HDN.out.same (Nat.le_refl _) heq⟩)
          clear heq hnx
          go_wp2_with fail
          go_ret2
          exact FIN.out
end Go.Proofs.Ytekpifobhgjepaa
