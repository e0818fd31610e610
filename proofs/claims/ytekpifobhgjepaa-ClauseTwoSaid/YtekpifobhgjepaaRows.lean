/-
  No cell of these rows narrows 'for every input' (looked for: loops, veiled, ifaces, maps, wideKeys, modest, calm, conditions, laid).
  DERIVED. THE GIVEN ROWS OF THIS SEAT. 9 by the template 'for every input the law returns true; each argument reads behind the call as it read before'; 0 by the template 'total and deterministic' (their statements: YtekpifobhgjepaaTotals.lean).
  GIVEN WITH THE SEED: the statements are not yours to turn. If you find one false, say at which input.
  Laid BY PROGRAM, IN A SANDBOX (cutbox-rows.mjs): the forced cells as the released guide's own fill.sh prints them over the translation 00d007c3c871479a… (all of the seat's roots in one cut). By AI agents, Wed Nov 11 2026. No macro, syntax, notation, axiom, sorry.
-/
import Derived.Test.YtekpifobhgjepaaChecked
import GoSem.Claim
import GoSem.ClaimJoined
import GoSem.ClaimMapViews
import Derived.JoinedTies
import Derived.KernelRfl
namespace Go.Proofs.Ytekpifobhgjepaa
/- THE CELL 'sum', in the pinned program and in every row, IS THE sha256 OF THE DUMP (.gsa) THAT YtekpifobhgjepaaProg.lean LOADS. Nothing in Lean hashes anything: it is a label: what it is worth is what the hold of that sum in a sandbox is worth. -/
noncomputable def Try.pinned : Pinned := { name := "ytekpifobhgjepaa", sum := "00d007c3c871479aa68aa8858d46991afe0ccead7ebd03b9f4593e73c9a3f248", checked := Try.checked }
namespace Rows
def none {H : Type} : Left H := { results := [], args := [] }

/-- 'syllogistkeep.ClauseResolve': WHATEVER THE INPUT: true; the input reads as it did. -/
def clauseResolveSpec : ChangeSpec := { name := "clauseResolve", fn := fun _ => fun
  | [d1, d2, d3, d4] => { results := [.lit (.bool true)], args := [d1, d2, d3, d4] }
  | _ => none }
def clauseResolveRow : OpenClaim := { program := "ytekpifobhgjepaa", sum := "00d007c3c871479aa68aa8858d46991afe0ccead7ebd03b9f4593e73c9a3f248", func := "syllogist/syllogistkeep.ClauseResolve", spec := "clauseResolve", unfollowed := true, recurses := true, plainKeys := false, apart := false }
def ClauseResolveSaid : Prop := clauseResolveRow.holds Try.pinned (OpenSpec.ofChange clauseResolveSpec)

/-- ITS FALSE NEIGHBOUR: 'it returns false'. Refute it at one input. -/
def clauseResolveWrong : ChangeSpec := { name := "clauseResolve", fn := fun _ => fun
  | [d1, d2, d3, d4] => { results := [.lit (.bool false)], args := [d1, d2, d3, d4] }
  | _ => none }
def ClauseResolveWrongFalsely : Prop := clauseResolveRow.holds Try.pinned (OpenSpec.ofChange clauseResolveWrong)

/-- 'syllogistkeep.ClauseHorn': WHATEVER THE INPUT: true; the input reads as it did. -/
def clauseHornSpec : ChangeSpec := { name := "clauseHorn", fn := fun _ => fun
  | [d1, d2, d3, d4] => { results := [.lit (.bool true)], args := [d1, d2, d3, d4] }
  | _ => none }
def clauseHornRow : OpenClaim := { program := "ytekpifobhgjepaa", sum := "00d007c3c871479aa68aa8858d46991afe0ccead7ebd03b9f4593e73c9a3f248", func := "syllogist/syllogistkeep.ClauseHorn", spec := "clauseHorn", unfollowed := true, recurses := true, plainKeys := false, apart := false }
def ClauseHornSaid : Prop := clauseHornRow.holds Try.pinned (OpenSpec.ofChange clauseHornSpec)

/-- ITS FALSE NEIGHBOUR: 'it returns false'. Refute it at one input. -/
def clauseHornWrong : ChangeSpec := { name := "clauseHorn", fn := fun _ => fun
  | [d1, d2, d3, d4] => { results := [.lit (.bool false)], args := [d1, d2, d3, d4] }
  | _ => none }
def ClauseHornWrongFalsely : Prop := clauseHornRow.holds Try.pinned (OpenSpec.ofChange clauseHornWrong)

/-- 'syllogistkeep.ClauseTwo': WHATEVER THE INPUT: true; the input reads as it did. -/
def clauseTwoSpec : ChangeSpec := { name := "clauseTwo", fn := fun _ => fun
  | [d1, d2] => { results := [.lit (.bool true)], args := [d1, d2] }
  | _ => none }
def clauseTwoRow : OpenClaim := { program := "ytekpifobhgjepaa", sum := "00d007c3c871479aa68aa8858d46991afe0ccead7ebd03b9f4593e73c9a3f248", func := "syllogist/syllogistkeep.ClauseTwo", spec := "clauseTwo", unfollowed := true, recurses := true, plainKeys := false, apart := false }
def ClauseTwoSaid : Prop := clauseTwoRow.holds Try.pinned (OpenSpec.ofChange clauseTwoSpec)

/-- ITS FALSE NEIGHBOUR: 'it returns false'. Refute it at one input. -/
def clauseTwoWrong : ChangeSpec := { name := "clauseTwo", fn := fun _ => fun
  | [d1, d2] => { results := [.lit (.bool false)], args := [d1, d2] }
  | _ => none }
def ClauseTwoWrongFalsely : Prop := clauseTwoRow.holds Try.pinned (OpenSpec.ofChange clauseTwoWrong)

/-- 'syllogistkeep.TwoTurn': WHATEVER THE INPUT: true; the input reads as it did. -/
def twoTurnSpec : ChangeSpec := { name := "twoTurn", fn := fun _ => fun
  | [d1, d2, d3, d4] => { results := [.lit (.bool true)], args := [d1, d2, d3, d4] }
  | _ => none }
def twoTurnRow : OpenClaim := { program := "ytekpifobhgjepaa", sum := "00d007c3c871479aa68aa8858d46991afe0ccead7ebd03b9f4593e73c9a3f248", func := "syllogist/syllogistkeep.TwoTurn", spec := "twoTurn", plainKeys := false, apart := false }
def TwoTurnSaid : Prop := twoTurnRow.holds Try.pinned (OpenSpec.ofChange twoTurnSpec)

/-- ITS FALSE NEIGHBOUR: 'it returns false'. Refute it at one input. -/
def twoTurnWrong : ChangeSpec := { name := "twoTurn", fn := fun _ => fun
  | [d1, d2, d3, d4] => { results := [.lit (.bool false)], args := [d1, d2, d3, d4] }
  | _ => none }
def TwoTurnWrongFalsely : Prop := twoTurnRow.holds Try.pinned (OpenSpec.ofChange twoTurnWrong)

/-- 'syllogistkeep.TwoSolve': WHATEVER THE INPUT: true; the input reads as it did. -/
def twoSolveSpec : ChangeSpec := { name := "twoSolve", fn := fun _ => fun
  | [d1, d2] => { results := [.lit (.bool true)], args := [d1, d2] }
  | _ => none }
def twoSolveRow : OpenClaim := { program := "ytekpifobhgjepaa", sum := "00d007c3c871479aa68aa8858d46991afe0ccead7ebd03b9f4593e73c9a3f248", func := "syllogist/syllogistkeep.TwoSolve", spec := "twoSolve", unfollowed := true, recurses := true, plainKeys := false, apart := false }
def TwoSolveSaid : Prop := twoSolveRow.holds Try.pinned (OpenSpec.ofChange twoSolveSpec)

/-- ITS FALSE NEIGHBOUR: 'it returns false'. Refute it at one input. -/
def twoSolveWrong : ChangeSpec := { name := "twoSolve", fn := fun _ => fun
  | [d1, d2] => { results := [.lit (.bool false)], args := [d1, d2] }
  | _ => none }
def TwoSolveWrongFalsely : Prop := twoSolveRow.holds Try.pinned (OpenSpec.ofChange twoSolveWrong)

/-- 'syllogistkeep.RightsClose': WHATEVER THE INPUT: true; the input reads as it did. -/
def rightsCloseSpec : ChangeSpec := { name := "rightsClose", fn := fun _ => fun
  | [d1, d2, d3, d4] => { results := [.lit (.bool true)], args := [d1, d2, d3, d4] }
  | _ => none }
def rightsCloseRow : OpenClaim := { program := "ytekpifobhgjepaa", sum := "00d007c3c871479aa68aa8858d46991afe0ccead7ebd03b9f4593e73c9a3f248", func := "syllogist/syllogistkeep.RightsClose", spec := "rightsClose", unfollowed := true, recurses := true, plainKeys := false, apart := false }
def RightsCloseSaid : Prop := rightsCloseRow.holds Try.pinned (OpenSpec.ofChange rightsCloseSpec)

/-- ITS FALSE NEIGHBOUR: 'it returns false'. Refute it at one input. -/
def rightsCloseWrong : ChangeSpec := { name := "rightsClose", fn := fun _ => fun
  | [d1, d2, d3, d4] => { results := [.lit (.bool false)], args := [d1, d2, d3, d4] }
  | _ => none }
def RightsCloseWrongFalsely : Prop := rightsCloseRow.holds Try.pinned (OpenSpec.ofChange rightsCloseWrong)

/-- 'syllogistkeep.RightsSafe': WHATEVER THE INPUT: true; the input reads as it did. -/
def rightsSafeSpec : ChangeSpec := { name := "rightsSafe", fn := fun _ => fun
  | [d1, d2, d3, d4, d5, d6] => { results := [.lit (.bool true)], args := [d1, d2, d3, d4, d5, d6] }
  | _ => none }
def rightsSafeRow : OpenClaim := { program := "ytekpifobhgjepaa", sum := "00d007c3c871479aa68aa8858d46991afe0ccead7ebd03b9f4593e73c9a3f248", func := "syllogist/syllogistkeep.RightsSafe", spec := "rightsSafe", unfollowed := true, recurses := true, plainKeys := false, apart := false }
def RightsSafeSaid : Prop := rightsSafeRow.holds Try.pinned (OpenSpec.ofChange rightsSafeSpec)

/-- ITS FALSE NEIGHBOUR: 'it returns false'. Refute it at one input. -/
def rightsSafeWrong : ChangeSpec := { name := "rightsSafe", fn := fun _ => fun
  | [d1, d2, d3, d4, d5, d6] => { results := [.lit (.bool false)], args := [d1, d2, d3, d4, d5, d6] }
  | _ => none }
def RightsSafeWrongFalsely : Prop := rightsSafeRow.holds Try.pinned (OpenSpec.ofChange rightsSafeWrong)

/-- 'syllogistkeep.GrantSide': WHATEVER THE INPUT: true; the input reads as it did. -/
def grantSideSpec : ChangeSpec := { name := "grantSide", fn := fun _ => fun
  | [d1, d2, d3, d4, d5, d6] => { results := [.lit (.bool true)], args := [d1, d2, d3, d4, d5, d6] }
  | _ => none }
def grantSideRow : OpenClaim := { program := "ytekpifobhgjepaa", sum := "00d007c3c871479aa68aa8858d46991afe0ccead7ebd03b9f4593e73c9a3f248", func := "syllogist/syllogistkeep.GrantSide", spec := "grantSide", plainKeys := false, apart := false }
def GrantSideSaid : Prop := grantSideRow.holds Try.pinned (OpenSpec.ofChange grantSideSpec)

/-- ITS FALSE NEIGHBOUR: 'it returns false'. Refute it at one input. -/
def grantSideWrong : ChangeSpec := { name := "grantSide", fn := fun _ => fun
  | [d1, d2, d3, d4, d5, d6] => { results := [.lit (.bool false)], args := [d1, d2, d3, d4, d5, d6] }
  | _ => none }
def GrantSideWrongFalsely : Prop := grantSideRow.holds Try.pinned (OpenSpec.ofChange grantSideWrong)

/-- 'syllogistkeep.GrantTakes': WHATEVER THE INPUT: true; the input reads as it did. -/
def grantTakesSpec : ChangeSpec := { name := "grantTakes", fn := fun _ => fun
  | [d1, d2, d3, d4, d5, d6] => { results := [.lit (.bool true)], args := [d1, d2, d3, d4, d5, d6] }
  | _ => none }
def grantTakesRow : OpenClaim := { program := "ytekpifobhgjepaa", sum := "00d007c3c871479aa68aa8858d46991afe0ccead7ebd03b9f4593e73c9a3f248", func := "syllogist/syllogistkeep.GrantTakes", spec := "grantTakes", unfollowed := true, recurses := true, plainKeys := false, apart := false }
def GrantTakesSaid : Prop := grantTakesRow.holds Try.pinned (OpenSpec.ofChange grantTakesSpec)

/-- ITS FALSE NEIGHBOUR: 'it returns false'. Refute it at one input. -/
def grantTakesWrong : ChangeSpec := { name := "grantTakes", fn := fun _ => fun
  | [d1, d2, d3, d4, d5, d6] => { results := [.lit (.bool false)], args := [d1, d2, d3, d4, d5, d6] }
  | _ => none }
def GrantTakesWrongFalsely : Prop := grantTakesRow.holds Try.pinned (OpenSpec.ofChange grantTakesWrong)

/- THE SECOND FORM. 'bulk': how many values and letters a reading holds, each counted each time it is reached (what is shared counts as often as it is met; a slice's spare places count too). A statement '..UptoSaid' is the law's where the arguments, and the package variables that the reading takes, are together of bulk at most 1048576: NARROWER than '..Said'. Prove '..Said' where nothing that the law and all that it calls make is longer than what came in: it says more and counts as full. Else prove '..UptoSaid'. A law counts once. -/
mutual
def uptoBulk {H : Type} : DataW H → Nat
  | .lit (.string bytes) => bytes.length + 1
  | .lit _ => 1
  | .nil => 1
  | .ptr d => uptoBulk d + 1
  | .slice elems spare => uptoBulkAll elems + uptoBulkAll spare + 1
  | .agg parts => uptoBulkAll parts + 1
  | .iface _ d => uptoBulk d + 1
  | .map entries => uptoBulkEntries entries + 1
  | .held _ => 1
def uptoBulkAll {H : Type} : List (DataW H) → Nat
  | [] => 0
  | d :: r => uptoBulk d + uptoBulkAll r
def uptoBulkEntries {H : Type} : List (Lit × DataW H) → Nat
  | [] => 0
  | x :: r => uptoBulkEntry x + uptoBulkEntries r
def uptoBulkEntry {H : Type} : Lit × DataW H → Nat
  | (.string bytes, d) => bytes.length + uptoBulk d + 1
  | (_, d) => uptoBulk d + 1
 end
def uptoSmall : (H : Type) → List (DataW H) → Bool := fun _ ds => decide (uptoBulkAll ds ≤ 1048576)
def OpenSpec.upto (s : _root_.Go.ChangeSpec) : _root_.Go.OpenSpec := { _root_.Go.OpenSpec.ofChange s with cond := some uptoSmall }

/-- 'syllogistkeep.ClauseResolve', WHERE WHAT IT READS IS OF BULK AT MOST 1048576: true; the input reads as it did. -/
def clauseResolveUptoRow : OpenClaim := { program := "ytekpifobhgjepaa", sum := "00d007c3c871479aa68aa8858d46991afe0ccead7ebd03b9f4593e73c9a3f248", func := "syllogist/syllogistkeep.ClauseResolve", spec := "clauseResolve", unfollowed := true, recurses := true, plainKeys := false, apart := false, narrowed := true }
def ClauseResolveUptoSaid : Prop := clauseResolveUptoRow.holds Try.pinned (OpenSpec.upto clauseResolveSpec)

/-- 'syllogistkeep.ClauseHorn', WHERE WHAT IT READS IS OF BULK AT MOST 1048576: true; the input reads as it did. -/
def clauseHornUptoRow : OpenClaim := { program := "ytekpifobhgjepaa", sum := "00d007c3c871479aa68aa8858d46991afe0ccead7ebd03b9f4593e73c9a3f248", func := "syllogist/syllogistkeep.ClauseHorn", spec := "clauseHorn", unfollowed := true, recurses := true, plainKeys := false, apart := false, narrowed := true }
def ClauseHornUptoSaid : Prop := clauseHornUptoRow.holds Try.pinned (OpenSpec.upto clauseHornSpec)

/-- 'syllogistkeep.ClauseTwo', WHERE WHAT IT READS IS OF BULK AT MOST 1048576: true; the input reads as it did. -/
def clauseTwoUptoRow : OpenClaim := { program := "ytekpifobhgjepaa", sum := "00d007c3c871479aa68aa8858d46991afe0ccead7ebd03b9f4593e73c9a3f248", func := "syllogist/syllogistkeep.ClauseTwo", spec := "clauseTwo", unfollowed := true, recurses := true, plainKeys := false, apart := false, narrowed := true }
def ClauseTwoUptoSaid : Prop := clauseTwoUptoRow.holds Try.pinned (OpenSpec.upto clauseTwoSpec)

/-- 'syllogistkeep.TwoTurn', WHERE WHAT IT READS IS OF BULK AT MOST 1048576: true; the input reads as it did. -/
def twoTurnUptoRow : OpenClaim := { program := "ytekpifobhgjepaa", sum := "00d007c3c871479aa68aa8858d46991afe0ccead7ebd03b9f4593e73c9a3f248", func := "syllogist/syllogistkeep.TwoTurn", spec := "twoTurn", plainKeys := false, apart := false, narrowed := true }
def TwoTurnUptoSaid : Prop := twoTurnUptoRow.holds Try.pinned (OpenSpec.upto twoTurnSpec)

/-- 'syllogistkeep.TwoSolve', WHERE WHAT IT READS IS OF BULK AT MOST 1048576: true; the input reads as it did. -/
def twoSolveUptoRow : OpenClaim := { program := "ytekpifobhgjepaa", sum := "00d007c3c871479aa68aa8858d46991afe0ccead7ebd03b9f4593e73c9a3f248", func := "syllogist/syllogistkeep.TwoSolve", spec := "twoSolve", unfollowed := true, recurses := true, plainKeys := false, apart := false, narrowed := true }
def TwoSolveUptoSaid : Prop := twoSolveUptoRow.holds Try.pinned (OpenSpec.upto twoSolveSpec)

/-- 'syllogistkeep.RightsClose', WHERE WHAT IT READS IS OF BULK AT MOST 1048576: true; the input reads as it did. -/
def rightsCloseUptoRow : OpenClaim := { program := "ytekpifobhgjepaa", sum := "00d007c3c871479aa68aa8858d46991afe0ccead7ebd03b9f4593e73c9a3f248", func := "syllogist/syllogistkeep.RightsClose", spec := "rightsClose", unfollowed := true, recurses := true, plainKeys := false, apart := false, narrowed := true }
def RightsCloseUptoSaid : Prop := rightsCloseUptoRow.holds Try.pinned (OpenSpec.upto rightsCloseSpec)

/-- 'syllogistkeep.RightsSafe', WHERE WHAT IT READS IS OF BULK AT MOST 1048576: true; the input reads as it did. -/
def rightsSafeUptoRow : OpenClaim := { program := "ytekpifobhgjepaa", sum := "00d007c3c871479aa68aa8858d46991afe0ccead7ebd03b9f4593e73c9a3f248", func := "syllogist/syllogistkeep.RightsSafe", spec := "rightsSafe", unfollowed := true, recurses := true, plainKeys := false, apart := false, narrowed := true }
def RightsSafeUptoSaid : Prop := rightsSafeUptoRow.holds Try.pinned (OpenSpec.upto rightsSafeSpec)

/-- 'syllogistkeep.GrantSide', WHERE WHAT IT READS IS OF BULK AT MOST 1048576: true; the input reads as it did. -/
def grantSideUptoRow : OpenClaim := { program := "ytekpifobhgjepaa", sum := "00d007c3c871479aa68aa8858d46991afe0ccead7ebd03b9f4593e73c9a3f248", func := "syllogist/syllogistkeep.GrantSide", spec := "grantSide", plainKeys := false, apart := false, narrowed := true }
def GrantSideUptoSaid : Prop := grantSideUptoRow.holds Try.pinned (OpenSpec.upto grantSideSpec)

/-- 'syllogistkeep.GrantTakes', WHERE WHAT IT READS IS OF BULK AT MOST 1048576: true; the input reads as it did. -/
def grantTakesUptoRow : OpenClaim := { program := "ytekpifobhgjepaa", sum := "00d007c3c871479aa68aa8858d46991afe0ccead7ebd03b9f4593e73c9a3f248", func := "syllogist/syllogistkeep.GrantTakes", spec := "grantTakes", unfollowed := true, recurses := true, plainKeys := false, apart := false, narrowed := true }
def GrantTakesUptoSaid : Prop := grantTakesUptoRow.holds Try.pinned (OpenSpec.upto grantTakesSpec)

end Rows
end Go.Proofs.Ytekpifobhgjepaa
