/- The walks of package know: Each, Common. -/
import Derived.Test.YtodkpojmonikiaaKnow3
namespace Go.Proofs.Ytodkpojmonikiaa
open Go Go.RowKit
set_option linter.unusedVariables false

/-- what each knows, by the first k -/
def eachTo (n : Nat) (rows : List (List Int)) (ev : BitVec 32) (k : Nat) : BitVec 32 := (rows.take k).foldl (fun a r => a &&& knW n r ev) ev
def eachW (n : Nat) (rows : List (List Int)) (ev : BitVec 32) : BitVec 32 := rows.foldl (fun a r => a &&& knW n r ev) ev
theorem eachTo_succ (n : Nat) (rows : List (List Int)) (ev : BitVec 32) (k : Nat) (h : k < rows.length) : eachTo n rows ev (k + 1) = eachTo n rows ev k &&& knW n rows[k] ev := by
  unfold eachTo
  rw [foldl_snoc _ _ _ _ h]
theorem fold_and_bit (n : Nat) (ev : BitVec 32) (b : Nat) : ∀ (rows : List (List Int)) (a : BitVec 32), (rows.foldl (fun a r => a &&& knW n r ev) a).getLsbD b = true ↔ a.getLsbD b = true ∧ ∀ r ∈ rows, (knW n r ev).getLsbD b = true := by
  intro rows
  induction rows with
  | nil => intro a; simp
  | cons r t ih =>
    intro a
    rw [List.foldl_cons, ih, BitVec.getLsbD_and, Bool.and_eq_true]
    constructor
    · rintro ⟨⟨h1, h2⟩, h3⟩
      refine ⟨h1, fun x hx => ?_⟩
      rcases List.mem_cons.1 hx with rfl | hx
      · exact h2
      · exact h3 x hx
    · rintro ⟨h1, h2⟩
      exact ⟨⟨h1, h2 r (by simp)⟩, fun x hx => h2 x (by simp [hx])⟩
theorem eachW_bit {n : Nat} {rows : List (List Int)} {ev : BitVec 32} {b : Nat} : (eachW n rows ev).getLsbD b = true ↔ ev.getLsbD b = true ∧ ∀ r ∈ rows, (knW n r ev).getLsbD b = true := fold_and_bit n ev b rows ev
theorem eachW_sub {n : Nat} {rows : List (List Int)} {ev : BitVec 32} : subB (eachW n rows ev) ev = true := subB_iff.2 fun _ h => (eachW_bit.1 h).1
theorem knW_mono {n : Nat} {r : List Int} {a b : BitVec 32} (hn : n ≤ 32) (h : subB a b = true) : subB (knW n r a) (knW n r b) = true :=
  subB_iff.2 fun w hw => (knW_bit hn).2 ⟨((knW_bit hn).1 hw).1, fun v hv e => subB_iff.1 h v (((knW_bit hn).1 hw).2 v hv e)⟩
theorem eachW_mono {n : Nat} {rows : List (List Int)} {a b : BitVec 32} (hn : n ≤ 32) (h : subB a b = true) : subB (eachW n rows a) (eachW n rows b) = true :=
  subB_iff.2 fun w hw => eachW_bit.2 ⟨subB_iff.1 h w (eachW_bit.1 hw).1, fun r hr => subB_iff.1 (knW_mono hn h) w ((eachW_bit.1 hw).2 r hr)⟩
/-- the greatest event within one that each knows where it is so -/
def IsCommon (n : Nat) (rows : List (List Int)) (ev c : BitVec 32) : Prop := subB c ev = true ∧ eachW n rows c = c ∧ ∀ s, subB s ev = true → eachW n rows s = s → subB s c = true
def ComInv (n : Nat) (rows : List (List Int)) (ev c : BitVec 32) : Prop := subB c ev = true ∧ ∀ s, subB s ev = true → eachW n rows s = s → subB s c = true
theorem ComInv.start (n : Nat) (rows : List (List Int)) (ev : BitVec 32) : ComInv n rows ev ev := ⟨subB_refl _, fun _ h _ => h⟩
theorem ComInv.step {n : Nat} {rows : List (List Int)} {ev c : BitVec 32} (hn : n ≤ 32) (h : ComInv n rows ev c) : ComInv n rows ev (eachW n rows c) :=
  ⟨subB_trans eachW_sub h.1, fun s hs e => by have := eachW_mono (rows := rows) hn (h.2 s hs e); rwa [e] at this⟩
theorem each_any (n : Nat) (A : Option Addr) (len c : Nat) (rs : List Rv) (ev : BitVec 32) (w : World) (hs : SlM w A len rs) (hn : n ≤ 32) (hl : len ≤ 5) (hrl : ∀ r ∈ rs, r.2.1 = n) :
    Calls Try.prog 51 #[.slice A len c, .int .u32 (W ev)] w fun e w' => e = .returned (.int .u32 (W (eachW n (numsL rs) ev))) ∧ w = w' := by
  have HL := Lib.hid hs.len
  have HRL := Lib.hid hrl
  clear hrl
  go_enter Try.func51, Try.ntmps51
  go_wp2_with fail
  go_loop [5, 11] (fun o t => ∃ q : Nat, q ≤ len ∧ t = .int .i64 q ∧ o = .int .u32 (W (eachTo n (numsL rs) ev q))) (fun _ t => len - (intOf t).toNat)
  case atStart => exact ⟨0, Nat.zero_le _, rfl, rfl⟩
  case round =>
    obtain ⟨q, hq, rfl, rfl⟩ := hrel
    by_cases hlt : q < len
    · obtain ⟨b, off, hk, rfl, hb, cq, hrow, _⟩ := hs.get q hlt
      have hkn : q < (numsL rs).length := by unfold numsL; rw [List.length_map]; exact hk
      have HS := Lib.hid (show eachTo n (numsL rs) ev (q + 1) = eachTo n (numsL rs) ev q &&& knW n rs[q].2.2.2 ev by rw [eachTo_succ _ _ _ _ hkn]; simp [numsL])
      have HN := Lib.hid (HRL.out _ (List.getElem_mem hk))
      generalize rs[q] = r at cq hrow HS HN
      generalize eachTo n (numsL rs) ev q = y at HS
      go_wp2_with fail
      refine (knows_any _ _ _ r.2.2.2 ev _ hrow (by have := HN.out; omega)).mono ?_
      rintro e w2 ⟨rfl, rfl⟩
      rw [HN.out]
      go_wp2_with fail
      go_round
      case rel => exact ⟨q + 1, by omega, by go_num, by rw [HS.out]⟩
      case measure => simp [intOf]; omega
    · have HK := Lib.hid (show eachTo n (numsL rs) ev q = eachW n (numsL rs) ev by unfold eachTo eachW; rw [take_all _ q (by unfold numsL; rw [List.length_map, HL.out]; omega)])
      go_wp2_with fail
      go_ret
      exact ⟨by rw [HK.out]; rfl, rfl⟩
theorem eachX_ok (n : Nat) (A : Option Addr) (len c : Nat) (rs : List Rv) (ev : BitVec 32) (w : World) (hs : SlM w A len rs) (hc : knowF n rs ev = 0) :
    Calls Try.prog 22 #[.int .i64 n, .slice A len c, .int .u32 (W ev)] w fun e w' => e = .returned (.tuple #[.int .u32 (W (eachW n (numsL rs) ev)), .int .i64 0]) ∧ Kept w w' := by
  have hz := knowF_zero hc
  have hl5 : len ≤ 5 := by have := hz.1.2.2.2; rw [hs.len] at this; exact this
  have hn6 := hz.1.2.1
  have HRL := Lib.hid (show ∀ r ∈ rs, r.2.1 = n from fun r hr => by have := hz.2.1 r hr; omega)
  have HC := Lib.hid hc
  clear hc hz
  go_enter Try.func22, Try.ntmps22
  go_wp2_with fail
  refine (wrong_any n _ _ _ rs ev _ hs).mono ?_
  rintro e w1 ⟨rfl, k1⟩
  rw [HC.out]
  go_wp2_with fail
  refine (each_any n _ _ _ rs ev _ (hs.kept k1) (by omega) hl5 HRL.out).mono ?_
  rintro e w2 ⟨rfl, rfl⟩
  go_wp2_with fail
  go_ret2
  exact ⟨rfl, k1⟩
def RetCommon (w : World) (n : Nat) (rs : List Rv) (ev : BitVec 32) (e : Ending) (w' : World) : Prop :=
  ∃ c, e = .returned (.tuple #[.int .u32 (W c), .int .i64 0]) ∧ IsCommon n (numsL rs) ev c ∧ Kept w w'
theorem commonX_ok (n : Nat) (A : Option Addr) (len c : Nat) (rs : List Rv) (ev : BitVec 32) (w : World) (hs : SlM w A len rs) (hc : knowF n rs ev = 0) :
    Calls Try.prog 21 #[.int .i64 n, .slice A len c, .int .u32 (W ev)] w (RetCommon w n rs ev) := by
  have hz := knowF_zero hc
  have hl5 : len ≤ 5 := by have := hz.1.2.2.2; rw [hs.len] at this; exact this
  have hn6 := hz.1.2.1
  have HRL := Lib.hid (show ∀ r ∈ rs, r.2.1 = n from fun r hr => by have := hz.2.1 r hr; omega)
  have HC := Lib.hid hc
  clear hc hz
  go_enter Try.func21, Try.ntmps21
  go_wp2_with fail
  refine (wrong_any n _ _ _ rs ev _ hs).mono ?_
  rintro e w1 ⟨rfl, k1⟩
  rw [HC.out]
  go_wp2_with fail
  refine (each_any n _ _ _ rs ev _ (hs.kept k1) (by omega) hl5 HRL.out).mono ?_
  rintro e w2 ⟨rfl, rfl⟩
  go_wp2_with fail
  go_loop [2, 9] (fun o t => ∃ x : BitVec 32, o = .int .u32 (W x) ∧ t = .int .u32 (W (eachW n (numsL rs) x)) ∧ Hid (ComInv n (numsL rs) ev x)) (fun o _ => (intOf o).toNat)
  case atStart => exact ⟨ev, rfl, rfl, Lib.hid (ComInv.start n _ ev)⟩
  case round =>
    obtain ⟨x, rfl, rfl, hinv⟩ := hrel
    have HST := Lib.hid (hinv.out.step (by omega))
    have HSUB := Lib.hid (eachW_sub (n := n) (rows := numsL rs) (ev := x))
    cases hne : eachW n (numsL rs) x != x
    · have HE := Lib.hid (show eachW n (numsL rs) x = x by simpa using hne)
      have FIN := Lib.hid (show RetCommon w n rs ev (.returned (.tuple #[.int .u32 (W x), .int .i64 0])) w1 from ⟨x, rfl, ⟨hinv.out.1, HE.out, hinv.out.2⟩, k1⟩)
      go_wp2_with fail
      go_ret2
      exact FIN.out
    · have HNE := Lib.hid (show ¬ eachW n (numsL rs) x = x by simpa using hne)
      generalize eachW n (numsL rs) x = y at hne HST HSUB HNE
      go_wp2_with fail
      refine (each_any n _ _ _ rs y _ (hs.kept k1) (by omega) hl5 HRL.out).mono ?_
      rintro e w3 ⟨rfl, rfl⟩
      go_wp2_with fail
      go_round
      case rel => exact ⟨y, rfl, rfl, HST⟩
      case measure =>
        simp only [intOf]
        unfold W
        rw [Int.toNat_natCast, Int.toNat_natCast]
        exact subB_lt HSUB.out HNE.out
theorem commonX_no (n : Int) (A : Option Addr) (len c : Nat) (rs : List Rv) (ev : BitVec 32) (w : World) (hs : SlM w A len rs) (hc : (knowF n rs ev != 0) = true) :
    Calls Try.prog 21 #[.int .i64 n, .slice A len c, .int .u32 (W ev)] w fun e w' => e = .returned (.tuple #[.int .u32 0, .int .i64 (knowF n rs ev)]) ∧ Kept w w' := by
  go_enter Try.func21, Try.ntmps21
  go_wp2_with fail
  refine (wrong_any n _ _ _ rs ev _ hs).mono ?_
  rintro e w1 ⟨rfl, k1⟩
  go_wp2_with fail
  go_ret2
  exact ⟨rfl, k1⟩
theorem common_conn {n : Nat} {rows : List (List Int)} {c : BitVec 32} (hn : n ≤ 32) (h : eachW n rows c = c) {w v : Nat} (hw : w < n) (hc : Conn n rows w v) : c.getLsbD w = c.getLsbD v := by
  have up : ∀ x y, Conn n rows x y → c.getLsbD x = true → c.getLsbD y = true := fun x y hxy hx => hxy (fun z => c.getLsbD z = true) hx fun a b hab ha => by
    rw [← h] at ha
    obtain ⟨_, hb, r, hr, e⟩ := hab
    exact ((knW_bit hn).1 ((eachW_bit.1 ha).2 r hr)).2 b hb e
  rw [Bool.eq_iff_iff]
  exact ⟨up w v hc, up v w hc.symm⟩
end Go.Proofs.Ytodkpojmonikiaa
