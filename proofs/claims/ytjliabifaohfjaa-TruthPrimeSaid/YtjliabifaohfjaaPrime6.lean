/- The walk of truth.Primes. -/
import Derived.Test.YtjliabifaohfjaaPrime5
import Derived.Test.YtjliabifaohfjaaTruth
import Derived.StillTailTactics
import Derived.BigQuiet
namespace Go.Proofs.Ytjliabifaohfjaa
open Go Go.RowKit
set_option linter.unusedVariables false
set_option linter.unusedSimpArgs false

/-- what Primes hands back -/
def RetPrimes (w : World) (n : Nat) (f : Nat → Bool) (e : Ending) (w' : World) : Prop :=
  ∃ (m : Nat) (A : Option Addr) (c : Nat) (ys : List Cb), e = .returned (.tuple #[.slice A m c, .int .i64 0]) ∧ ys.length = m ∧ m ≤ 2000 ∧ Sl w' 2 A m (cbCells ys) ∧ SndC (2 ^ n) f ys ∧ CmpC (2 ^ n) f ys ∧ Kept w w'
def PRel (w : World) (n : Nat) (f : Nat → Bool) (k : Nat) (p : Value × Value) (wr : World) : Prop :=
  ∃ b lev P r, p.1 = .map (some b) ∧ Own w wr 40 2 p.2 P.length (cbCells P) ∧ LevK wr b lev ∧ w.heap.size ≤ b ∧ RndI n f r lev P ∧ n + 1 - r ≤ k
def MRel (w : World) (n : Nat) (f : Nat → Bool) (r : Nat) (lv : List Cb) (p0 b b2 : Nat) (ks : List Value) (vq : Value) (wq : World) : Prop :=
  ∃ (L : List Value) (cnt : Nat) (P' next : List Cb), Own w wq 40 2 vq P'.length (cbCells P') ∧ RanK wq Try.prog 40 b (b2 + 1) ks (fun _ => .bool true) L cnt ∧ LevK wq b2 next ∧ Hid (MidI n f r lv p0 L P' next)
theorem ini_cells {n k len : Nat} (hn : n ≤ 4) (hl : len = 2 ^ n) (hk : k < len) : cbV (iniC n k) = .agg #[.int .u32 (k : Int), .int .u32 ((len : Int) - 1 - (k : Int))] := by
  have h16 : 2 ^ n ≤ 16 := pow_le4 n hn
  unfold cbV iniC W
  rw [← hl] at h16 ⊢
  simp only [BitVec.toNat_ofNat]
  have e1 : k % 2 ^ 32 = k := Nat.mod_eq_of_lt (by omega)
  have e2 : (len - (k + 1)) % 2 ^ 32 = len - (k + 1) := Nat.mod_eq_of_lt (by omega)
  have e3 : ((len - (k + 1) : Nat) : Int) = (len : Int) - 1 - (k : Int) := by omega
  rw [e1, e2, e3]
theorem u32_in (x : Int) (h0 : 0 ≤ x) (h1 : x < 4294967296) : IntKind.u32.wrap x = x := by
  obtain ⟨y, rfl⟩ := bvOf h0 h1
  exact wrapW y
set_option maxRecDepth 100000 in
set_option maxHeartbeats 4000000 in
theorem primes_ok (n : Nat) (A : Option Addr) (len c : Nat) (f : List Bool) (w : World) (hl : len ≤ maxLen) (hf : SlB w A len f) (hc : truthF n f = 0) :
    Calls Try.prog 18 #[.int .i64 n, .slice A len c] w (RetPrimes w n (bat f)) := by
  have hz := truthF_zero hc
  have hn : n ≤ 4 := by omega
  have hlen : len = 2 ^ n := by rw [← hf.2, hz.2.2, Int.toNat_natCast]
  have h16 : len ≤ 16 := by rw [hlen]; exact pow_le4 n hn
  have HLEN := Lib.hid hlen
  have HC := Lib.hid hc
  obtain ⟨M, hM⟩ := measure_of (PRel w n (bat f))
  have HM := Lib.hid hM
  have hmm := @run_makeMap Try.prog
  clear hc hz hlen hM
  go_enter Try.func18, Try.ntmps18
  go_wp2_with fail
  refine (truthCheck_any _ _ _ _ f _ hl hf).mono ?_
  rintro e w1 ⟨rfl, rfl⟩
  rw [HC.out]
  go_wp2_with fail
  go_loopw [24] (fun t wr => ∃ k lev, k ≤ len ∧ t = .int .i64 (k : Nat) ∧ LevK wr w.heap.size lev ∧ Kept w wr ∧ Hid (IniI n (bat f) k lev)) (fun t _ => len - (intOf t).toNat)
  case atStart => exact ⟨0, [], Nat.zero_le _, rfl, LevK.made w _ rfl, (Kept.refl _).alloc _, Lib.hid (IniI.start _ _)⟩
  case round =>
    obtain ⟨k, lev, hk, rfl, hlev, hkw, HI⟩ := hrel
    by_cases hlt : k < len
    · obtain ⟨bb, off, rfl, hbb, cq⟩ := (hf.kept hkw).getN k hlt
      have HB := Lib.hid (show bat f k = bat f k from rfl)
      cases hb : bat f k
      · rw [hb] at cq
        have HS := Lib.hid (HI.out.skip hb)
        clear hb
        go_wp2_with fail
        go_roundw
        case rel => exact ⟨k + 1, lev, by omega, by go_num, hlev, hkw, HS⟩
        case measure => simp [intOf]; omega
      · rw [hb] at cq
        obtain ⟨w', lev', hrun, hlev', hmem, hl', hg⟩ := hlev.put (by have := HI.out.len; omega) (iniC n k)
        have HS := Lib.hid (HI.out.put hb hmem hl')
        rw [ini_cells hn HLEN.out hlt] at hrun
        have g1 : IntKind.u32.wrap (k : Int) = (k : Int) := u32_in _ (by omega) (by omega)
        have g2 : IntKind.u32.wrap ((len : Int) - 1 - (k : Int)) = (len : Int) - 1 - (k : Int) := u32_in _ (by omega) (by omega)
        have HK := Lib.hid (hkw.grown hg (fun j hj => by injection hj with hj; omega))
        clear hb hmem hl' hg
        go_wp2_with fail
        go_roundw
        case rel => exact ⟨k + 1, lev', by omega, by go_num, hlev', HK.out, HS⟩
        case measure => simp [intOf]; omega
    · have HI2 : Hid (RndI n (bat f) 0 lev []) := Lib.hid (IniI.rnd hn (by
        have := HI.out
        rw [show k = 2 ^ n by have := HLEN.out; omega] at this
        exact this))
      clear HI
      go_wp2_with fail
      go_loopw [7, 10] (fun vm vl wr => ∃ k, PRel w n (bat f) k (vm, vl) wr) (fun vm vl wr => M (vm, vl) wr)
      case atStart => exact ⟨_, _, lev, [], 0, rfl, Own.start hkw, hlev, Nat.le_refl _, HI2.out, Nat.le_refl _⟩
      case round =>
        obtain ⟨k0, hk0⟩ := hrel
        obtain ⟨b, lv, P, r, hv1, hown, hlv, hb, hrnd, hle⟩ := (HM.out _ _ _ hk0).1
        simp only at hv1 hown
        subst hv1
        clear hk0
        have HRND := Lib.hid hrnd
        have HLE := Lib.hid hle
        have hlev256 : lv.length ≤ 256 := by
          by_cases he : lv = []
          · rw [he]; simp
          · exact lev_few hn hlv.nodup (fun c hc => (hrnd.shape c hc).2)
        have hfew : P.length ≤ 2000 := by
          have h1 := hrnd.few
          have h2 := hrnd.round
          omega
        have hlen : ∀ ty, (Builtin.len_ #[60] ty #[.map (some b)]).run Try.prog wr = .ok (.int .i64 lv.length) wr := fun ty => by
          have := MapK.len hlv Try.underlying60 ty
          rw [List.length_map] at this
          exact this
        clear hrnd hle
        by_cases h0 : lv.length = 0
        · have HE : Hid (lv = []) := Lib.hid (List.eq_nil_of_length_eq_zero h0)
          rw [h0] at hlen
          have hlen : ∀ ty, (Builtin.len_ #[60] ty #[.map (some b)]).run Try.prog wr = .ok (.int .i64 0) wr := hlen
          clear h0
          obtain ⟨Av, cv, rfl, _, _⟩ := hown.form
          have HSORT := Lib.hid (sortSays w wr (.slice Av P.length cv) P.length P hown rfl (by omega))
          go_wp2_with fail
          refine HSORT.out.mono ?_
          rintro e w4 ⟨rfl, ys, A4, c4, hv, hp, hsl, hk4⟩
          injection hv with hv1 _ hv3
          subst hv1 hv3
          have FIN := Lib.hid (show RetPrimes w n (bat f) (.returned (.tuple #[.slice Av P.length cv, .int .i64 0])) w4 from by
            have hr := HRND.out
            rw [HE.out] at hr
            have hs := hr.sound
            have hf := hr.full
            rw [List.append_nil] at hs hf
            exact ⟨P.length, Av, cv, ys, rfl, hp.length_eq, hfew, hsl, fun c hc => hs c (hp.mem_iff.1 hc), fun s hs1 hfs => by
              obtain ⟨c, hc, hcov⟩ := hf s hs1 hfs
              exact ⟨c, hp.mem_iff.2 hc, hcov⟩, hk4⟩)
          clear hp hsl hk4 hown
          go_wp2_with fail
          go_ret2
          exact FIN.out
        · have HPOS := Lib.hid (show 0 < lv.length by omega)
          have hd : decide (0 < lv.length) = true := decide_eq_true HPOS.out
          clear h0
          obtain ⟨Av, cv, rfl, _, _⟩ := hown.form
          have HLV := Lib.hid hlv
          have HOWN := Lib.hid hown
          have HBB := Lib.hid hb
          obtain ⟨b2, hb2⟩ : ∃ b2, wr.heap.size = b2 := ⟨_, rfl⟩
          have HB2 := Lib.hid (show w.heap.size ≤ b2 by rw [← hb2]; exact hown.kept0.size)
          have HBL := Lib.hid (show b < b2 by rw [← hb2]; exact hlv.lt)
          have HMD := Lib.hid (LevK.made wr b2 hb2)
          have e1 : (wr.alloc (.map #[] 0)).heap.size = b2 + 1 := by simp [hb2]
          go_wp2_with (at_range; refine wpList_range_K rfl _ 60 rfl 4 clKeyed Try.underlying60 rfl (MapK.alloc hlv _) (by rw [List.length_map]; unfold maxLen; omega) ?_; intro w3 cnt hran hgr hsz)
          go_frame
          rw [e1] at hran hsz ⊢
          have K3 : Kept (wr.alloc (.map #[] 0)) w3 := Kept.grown (Kept.refl _) hgr (fun k hk => by cases hk)
          have O3 := Lib.hid ((hown.alloc (.map #[] 0)).kept K3)
          have L3 := Lib.hid (HMD.out.kept K3)
          have R3 := Lib.hid hran
          clear hran hgr K3 e1 hlv hown hlen hsz hmm
          obtain ⟨ks, hks⟩ : ∃ ks, lv.map cbV = ks := ⟨_, rfl⟩
          have HKS := Lib.hid hks
          rw [hks] at R3
          clear hks
          go_wp2_with fail
          go_loopw [10] (fun vq wq => MRel w n (bat f) r lv P.length b b2 ks vq wq) (fun _ wq => wq.rangeLeft b (b2 + 1))
          case atStart => exact ⟨ks, cnt, P, [], O3.out, R3.out, L3.out, Lib.hid (by rw [← HKS.out]; exact HRND.out.mid)⟩
          case round =>
            obtain ⟨L, cnt1, P', next, hown, hran, hnext, HMID⟩ := hrel
            obtain ⟨Aq, cq, rfl, _, _⟩ := hown.form
            have HRANQ := Lib.hid hran
            have HOWNQ := Lib.hid hown
            have HNEXT := Lib.hid hnext
            have hP' : P'.length ≤ 3000 := by
              have := HMID.out.few
              omega
            clear hown hnext
            go_wp2_with (at_next; refine wpList_next_K rfl _ rfl clKeyed rfl hran ?_ ?_)
            · intro hno
              have HST := Lib.hid (show PRel w n (bat f) (n + 1 - (r + 1)) (.map (some b2), .slice Aq P'.length cq) _ from ⟨b2, next, P', r + 1, rfl, HOWNQ.out, HNEXT.out, HB2.out, HMID.out.rnd hno hlev256 HRND.out.few (HRND.out.pos HPOS.out), Nat.le_refl _⟩)
              have HRN := Lib.hid (HRND.out.pos HPOS.out)
              clear hno hran
              go_wp2_with fail
              go_roundw
              case rel => exact ⟨_, HST.out⟩
              case measure =>
                have h1 := (HM.out _ _ _ HST.out).2
                have h2 := HLE.out
                have h3 := HRN.out
                simp at h1 h2 ⊢
                omega
            · intro x v w4 cnt4 L4 hxL hxks hL4 hran4 hlt4 hg4 hs4 hen
              rw [← HKS.out] at hxks
              obtain ⟨⟨c1, c2⟩, hc, rfl⟩ := List.mem_map.1 hxks
              have hrow := Row.new (w0 := w) (w := w4) (HOWNQ.out.kept0.grown hg4 (fun k hk => by injection hk with hk; have := HB2.out; omega)) 40 [.int .u32 (W c1), .int .u32 (W c2)] w4.heap.size rfl
              have ho4 := HOWNQ.out.grown hg4 (.inr fun e => hran.farP HOWNQ.out e.symm) (fun k hk => by injection hk with hk; have := HB2.out; omega)
              have hn4 : LevK w4 b2 next := MapK.grown HNEXT.out hg4 (by simp)
              obtain ⟨B, hB⟩ : ∃ B, w4.heap.size = B := ⟨_, rfl⟩
              have HBB4 := Lib.hid (show b2 < B by rw [← hB]; exact hn4.lt)
              have hka : Kept w4 (w4.alloc (.cells #[.int .u32 (W c1), .int .u32 (W c2)] 40)) := (Kept.refl _).alloc _
              have O4 := Lib.hid (ho4.kept hka)
              have N4 := Lib.hid (hn4.kept hka)
              have R4 := Lib.hid (hran4.kept hka)
              rw [hB] at hrow
              have W4 := Lib.hid hrow
              have HLT4 := Lib.hid hlt4
              have HL4 := Lib.hid hL4
              have HXL := Lib.hid hxL
              have HCM := Lib.hid hc
              have HRANQ2 := Lib.hid hran
              clear hrow ho4 hn4 hka hran4 hlt4 hL4 hxL hc hxks hg4 hs4 hran
              unfold cbV at hen ⊢
              simp only at hen
              go_wp2_with fail
              go_loopw [13, 52] (fun vp vi wz => ∃ (i : Nat) (pr : Bool) (nx : List Cb), i ≤ n ∧ vp = .bool pr ∧ vi = .int .i64 (i : Nat) ∧ Row w wz B 40 [.int .u32 (W c1), .int .u32 (W c2)] ∧ Own w wz 40 2 (.slice Aq P'.length cq) P'.length (cbCells P') ∧ RanK wz Try.prog 40 b (b2 + 1) ks (fun _ => .bool true) L4 cnt4 ∧ LevK wz b2 nx ∧ Hid (InI n (bat f) r (c1, c2) next pr nx)) (fun _ vi _ => n - (intOf vi).toNat)
              case atStart => exact ⟨0, true, next, Nat.zero_le _, rfl, rfl, W4.out, O4.out, R4.out, N4.out, Lib.hid (HMID.out.in_ _)⟩
              case round =>
                obtain ⟨i, pr, nx, hi, rfl, rfl, hrow, hown, hran, hnx, HI⟩ := hrel
                have m0 := hrow.cell 0 rfl
                have m1 := hrow.cell 1 rfl
                by_cases hlt : i < n
                · have hi31 : i ≤ 31 := by omega
                  cases hfx : fixB (c1, c2) i
                  · have g : (c1 ||| c2).getLsbD i = false := hfx
                    clear hfx
                    go_wp2_with fail
                    go_roundw
                    case rel => exact ⟨i + 1, pr, nx, by omega, rfl, by go_num, hrow, hown, hran, hnx, HI⟩
                    case measure => simp [intOf]; omega
                  · have HFX := Lib.hid hfx
                    have g : (c1 ||| c2).getLsbD i = true := hfx
                    clear hfx
                    have hlv : LevK wr b lv := by
                      have := hran.mapk
                      rw [← HKS.out] at this
                      exact this
                    by_cases hnb : nbC (c1, c2) i ∈ lv
                    · have hlook : ∀ m : Nat, (Instr.lookup 60 (.map (some b)) (.agg #[.int .u32 (W (c1 ^^^ 1#32 <<< i)), .int .u32 (W (c2 ^^^ 1#32 <<< i))]) false).run Try.prog (wr.drewN m) = .ok (.bool true) (wr.drewN m) := fun m => by
                        have := (hlv.kept ((Kept.refl wr).drewN m)).look (nbC (c1, c2) i)
                        rw [decide_eq_true hnb] at this
                        exact this
                      have hnx256 : nx.length ≤ 256 := lev_few hn hnx.nodup (fun c hc => (HI.out.nxt c hc).2)
                      have KD := Lib.hid (fun m => (Kept.refl wr).drewN m)
                      have HROW := Lib.hid hrow
                      have HOWN2 := Lib.hid hown
                      have HRAN2 := Lib.hid hran
                      have HNX2 := Lib.hid hnx
                      have HNB := Lib.hid hnb
                      clear hnb hlv hrow hown hran hnx
                      go_wp2_with fail
                      go_quiet (fail)
                      go_wp2_with fail
                      have ROW6 := Lib.hid (HROW.out.kept (KD.out nq))
                      have OWN6 := Lib.hid (HOWN2.out.kept (KD.out nq))
                      have RAN6 := Lib.hid (HRAN2.out.kept (KD.out nq))
                      have NX6 := Lib.hid (HNX2.out.kept (KD.out nq))
                      obtain ⟨w6, hw6⟩ : ∃ w6, wr.drewN nq = w6 := ⟨_, rfl⟩
                      rw [hw6] at ROW6 OWN6 RAN6 NX6 ⊢
                      clear hw6 hlook m0 m1
                      have m0 := ROW6.out.cell 0 rfl
                      have m1 := ROW6.out.cell 1 rfl
                      obtain ⟨w7, nx2, hrun, hnx7, hmem, hl', hg7⟩ := (NX6.out.kept (Kept.refl w6).drew).put (by omega) (mgC (c1, c2) i)
                      have hrow7 : k ≤ k → ∀ q, some b2 = some q → w.heap.size ≤ q := fun _ q hq => by injection hq with hq; have := HB2.out; omega
                      have ROW7 := Lib.hid ((ROW6.out.drew).grown hg7 (fun e => by injection e with e; have := HBB4.out; omega) (hrow7 (Nat.le_refl _)))
                      have OWN7 := Lib.hid ((OWN6.out.drew).grown hg7 (.inr fun e => (NX6.out.kept (Kept.refl w6).drew).farP OWN6.out.drew e.symm) (hrow7 (Nat.le_refl _)))
                      have RAN7 := Lib.hid ((RAN6.out.kept (Kept.refl w6).drew).grown hg7 (fun e => by injection e with e; have := HBL.out; omega) (fun e => by injection e with e; omega))
                      have NX7 := Lib.hid hnx7
                      have HI7 := Lib.hid (HI.out.put HRND.out hn HCM.out hlt HFX.out HNB.out hmem)
                      have hrun : (Instr.mapUpdate 60 (.map (some b2)) (.agg #[.int .u32 (W (c1 &&& ~~~(1#32 <<< i))), .int .u32 (W (c2 &&& ~~~(1#32 <<< i)))]) (.bool true)).run Try.prog w6.drew = .ok () w7 := hrun
                      clear hg7 hmem hl' hnx7 hrow7
                      go_still_tail 12, (by kernel_rfl)
                      go_wp2_with fail
                      go_roundw
                      case rel => exact ⟨i + 1, false, nx2, by omega, rfl, by go_num, ROW7.out, OWN7.out, RAN7.out, NX7.out, HI7⟩
                      case measure => simp [intOf]; omega
                    · have hlook : ∀ m : Nat, (Instr.lookup 60 (.map (some b)) (.agg #[.int .u32 (W (c1 ^^^ 1#32 <<< i)), .int .u32 (W (c2 ^^^ 1#32 <<< i))]) false).run Try.prog (wr.drewN m) = .ok (.bool false) (wr.drewN m) := fun m => by
                        have := (hlv.kept ((Kept.refl wr).drewN m)).look (nbC (c1, c2) i)
                        rw [decide_eq_false hnb] at this
                        exact this
                      have KD := Lib.hid (fun m => (Kept.refl wr).drewN m)
                      have HROW := Lib.hid hrow
                      have HOWN2 := Lib.hid hown
                      have HRAN2 := Lib.hid hran
                      have HNX2 := Lib.hid hnx
                      clear hnb hlv hrow hown hran hnx
                      go_wp2_with fail
                      go_quiet (fail)
                      go_wp2_with fail
                      go_roundw
                      case rel => exact ⟨i + 1, pr, nx, by omega, rfl, by go_num, HROW.out.kept (KD.out _), HOWN2.out.kept (KD.out _), HRAN2.out.kept (KD.out _), HNX2.out.kept (KD.out _), HI⟩
                      case measure => simp [intOf]; omega
                · have HDN := Lib.hid (HMID.out.done HRND.out.sound.right HCM.out HXL.out HL4.out HI.out)
                  have HRANZ := Lib.hid hran
                  cases pr
                  · have HDN : Hid (MidI n (bat f) r lv P.length L4 P' nx) := HDN
                    clear hran
                    go_wp2_with fail
                    go_roundw
                    case rel => exact ⟨L4, cnt4, P', nx, hown, HRANZ.out, hnx, HDN⟩
                    case measure =>
                      rw [HRANZ.out.left_eq, HRANQ2.out.left_eq]
                      exact HLT4.out
                  · have HDN : Hid (MidI n (bat f) r lv P.length L4 (P' ++ [(c1, c2)]) nx) := HDN
                    have HNX2 := Lib.hid hnx
                    have HOWN2 := Lib.hid hown
                    clear hran hnx
                    go_wp2_with (at_builtin; refine wpList_push rfl _ _ 36 rfl 40 Try.underlying36 info_cb rfl (by decide) (by decide) _ _ _ _ hown #[.int .u32 (W c1), .int .u32 (W c2)] _ _ 1 1 rfl rfl rfl rfl (one_cb _ _) (by omega) ?_; intro v7 w7 hown7 hg7)
                    have KA : Kept wr (wr.alloc (.cells #[.int .u32 (W c1), .int .u32 (W c2)] 40)) := (Kept.refl _).alloc _
                    have RAN7 := Lib.hid ((HRANZ.out.kept KA).grown hg7 (HRANZ.out.mapk.farP HOWN2.out) (HRANZ.out.farP HOWN2.out))
                    have NX7 : Hid (LevK w7 b2 nx) := Lib.hid (MapK.grown (HNX2.out.kept KA) hg7 (MapK.farP HNX2.out HOWN2.out))
                    have OWN7 : Hid (Own w w7 40 2 v7 (P' ++ [(c1, c2)]).length (cbCells (P' ++ [(c1, c2)]))) := Lib.hid (by rw [cbCells_snoc, List.length_append]; exact hown7)
                    clear hown7 hg7 KA
                    go_wp2_with fail
                    go_roundw
                    case rel => exact ⟨L4, cnt4, P' ++ [(c1, c2)], nx, OWN7.out, RAN7.out, NX7.out, HDN⟩
                    case measure =>
                      rw [RAN7.out.left_eq, HRANQ2.out.left_eq]
                      exact HLT4.out
end Go.Proofs.Ytjliabifaohfjaa
