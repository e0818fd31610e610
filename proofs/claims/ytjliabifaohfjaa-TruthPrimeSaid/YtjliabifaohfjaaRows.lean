/-
  No cell of these rows narrows 'for every input' (looked for: loops, veiled, ifaces, maps, wideKeys, modest, calm, conditions, laid).
  DERIVED. THE GIVEN ROWS OF THIS SEAT. 9 by the template 'for every input the law returns true; each argument reads behind the call as it read before'; 0 by the template 'total and deterministic' (their statements: YtjliabifaohfjaaTotals.lean).
  GIVEN WITH THE SEED: the statements are not yours to turn. If you find one false, say at which input.
  Laid BY PROGRAM, IN A SANDBOX (cutbox-rows.mjs): the forced cells as the released guide's own fill.sh prints them over the translation e4bd92ba1f7b2f24… (all of the seat's roots in one cut). By AI agents, Wed Nov 11 2026. No macro, syntax, notation, axiom, sorry.
-/
import Derived.Test.YtjliabifaohfjaaChecked
import GoSem.Claim
import GoSem.ClaimJoined
import GoSem.ClaimMapViews
import Derived.JoinedTies
import Derived.KernelRfl
namespace Go.Proofs.Ytjliabifaohfjaa
/- THE CELL 'sum', in the pinned program and in every row, IS THE sha256 OF THE DUMP (.gsa) THAT YtjliabifaohfjaaProg.lean LOADS. Nothing in Lean hashes anything: it is a label: what it is worth is what the hold of that sum in a sandbox is worth. -/
noncomputable def Try.pinned : Pinned := { name := "ytjliabifaohfjaa", sum := "e4bd92ba1f7b2f2400288242839150c46e6a95b6540273671af3bc71b126bbb8", checked := Try.checked }
namespace Rows
def none {H : Type} : Left H := { results := [], args := [] }

/-- 'syllogistkeep.TruthDual': WHATEVER THE INPUT: true; the input reads as it did. -/
def truthDualSpec : ChangeSpec := { name := "truthDual", fn := fun _ => fun
  | [d1, d2, d3] => { results := [.lit (.bool true)], args := [d1, d2, d3] }
  | _ => none }
def truthDualRow : OpenClaim := { program := "ytjliabifaohfjaa", sum := "e4bd92ba1f7b2f2400288242839150c46e6a95b6540273671af3bc71b126bbb8", func := "syllogist/syllogistkeep.TruthDual", spec := "truthDual", plainKeys := false, apart := false }
def TruthDualSaid : Prop := truthDualRow.holds Try.pinned (OpenSpec.ofChange truthDualSpec)

/-- ITS FALSE NEIGHBOUR: 'it returns false'. Refute it at one input. -/
def truthDualWrong : ChangeSpec := { name := "truthDual", fn := fun _ => fun
  | [d1, d2, d3] => { results := [.lit (.bool false)], args := [d1, d2, d3] }
  | _ => none }
def TruthDualWrongFalsely : Prop := truthDualRow.holds Try.pinned (OpenSpec.ofChange truthDualWrong)

/-- 'syllogistkeep.TruthSum': WHATEVER THE INPUT: true; the input reads as it did. -/
def truthSumSpec : ChangeSpec := { name := "truthSum", fn := fun _ => fun
  | [d1, d2, d3] => { results := [.lit (.bool true)], args := [d1, d2, d3] }
  | _ => none }
def truthSumRow : OpenClaim := { program := "ytjliabifaohfjaa", sum := "e4bd92ba1f7b2f2400288242839150c46e6a95b6540273671af3bc71b126bbb8", func := "syllogist/syllogistkeep.TruthSum", spec := "truthSum", plainKeys := false, apart := false }
def TruthSumSaid : Prop := truthSumRow.holds Try.pinned (OpenSpec.ofChange truthSumSpec)

/-- ITS FALSE NEIGHBOUR: 'it returns false'. Refute it at one input. -/
def truthSumWrong : ChangeSpec := { name := "truthSum", fn := fun _ => fun
  | [d1, d2, d3] => { results := [.lit (.bool false)], args := [d1, d2, d3] }
  | _ => none }
def TruthSumWrongFalsely : Prop := truthSumRow.holds Try.pinned (OpenSpec.ofChange truthSumWrong)

/-- 'syllogistkeep.TruthPost': WHATEVER THE INPUT: true; the input reads as it did. -/
def truthPostSpec : ChangeSpec := { name := "truthPost", fn := fun _ => fun
  | [d1, d2, d3] => { results := [.lit (.bool true)], args := [d1, d2, d3] }
  | _ => none }
def truthPostRow : OpenClaim := { program := "ytjliabifaohfjaa", sum := "e4bd92ba1f7b2f2400288242839150c46e6a95b6540273671af3bc71b126bbb8", func := "syllogist/syllogistkeep.TruthPost", spec := "truthPost", plainKeys := false, apart := false }
def TruthPostSaid : Prop := truthPostRow.holds Try.pinned (OpenSpec.ofChange truthPostSpec)

/-- ITS FALSE NEIGHBOUR: 'it returns false'. Refute it at one input. -/
def truthPostWrong : ChangeSpec := { name := "truthPost", fn := fun _ => fun
  | [d1, d2, d3] => { results := [.lit (.bool false)], args := [d1, d2, d3] }
  | _ => none }
def TruthPostWrongFalsely : Prop := truthPostRow.holds Try.pinned (OpenSpec.ofChange truthPostWrong)

/-- 'syllogistkeep.TruthPrime': WHATEVER THE INPUT: true; the input reads as it did. -/
def truthPrimeSpec : ChangeSpec := { name := "truthPrime", fn := fun _ => fun
  | [d1, d2] => { results := [.lit (.bool true)], args := [d1, d2] }
  | _ => none }
def truthPrimeRow : OpenClaim := { program := "ytjliabifaohfjaa", sum := "e4bd92ba1f7b2f2400288242839150c46e6a95b6540273671af3bc71b126bbb8", func := "syllogist/syllogistkeep.TruthPrime", spec := "truthPrime", unfollowed := true, recurses := true, plainKeys := false, apart := false }
def TruthPrimeSaid : Prop := truthPrimeRow.holds Try.pinned (OpenSpec.ofChange truthPrimeSpec)

/-- ITS FALSE NEIGHBOUR: 'it returns false'. Refute it at one input. -/
def truthPrimeWrong : ChangeSpec := { name := "truthPrime", fn := fun _ => fun
  | [d1, d2] => { results := [.lit (.bool false)], args := [d1, d2] }
  | _ => none }
def TruthPrimeWrongFalsely : Prop := truthPrimeRow.holds Try.pinned (OpenSpec.ofChange truthPrimeWrong)

/-- 'syllogistkeep.BetweenBeth': WHATEVER THE INPUT: true; the input reads as it did. -/
def betweenBethSpec : ChangeSpec := { name := "betweenBeth", fn := fun _ => fun
  | [d1, d2, d3] => { results := [.lit (.bool true)], args := [d1, d2, d3] }
  | _ => none }
def betweenBethRow : OpenClaim := { program := "ytjliabifaohfjaa", sum := "e4bd92ba1f7b2f2400288242839150c46e6a95b6540273671af3bc71b126bbb8", func := "syllogist/syllogistkeep.BetweenBeth", spec := "betweenBeth", plainKeys := false, apart := false }
def BetweenBethSaid : Prop := betweenBethRow.holds Try.pinned (OpenSpec.ofChange betweenBethSpec)

/-- ITS FALSE NEIGHBOUR: 'it returns false'. Refute it at one input. -/
def betweenBethWrong : ChangeSpec := { name := "betweenBeth", fn := fun _ => fun
  | [d1, d2, d3] => { results := [.lit (.bool false)], args := [d1, d2, d3] }
  | _ => none }
def BetweenBethWrongFalsely : Prop := betweenBethRow.holds Try.pinned (OpenSpec.ofChange betweenBethWrong)

/-- 'syllogistkeep.BetweenDual': WHATEVER THE INPUT: true; the input reads as it did. -/
def betweenDualSpec : ChangeSpec := { name := "betweenDual", fn := fun _ => fun
  | [d1, d2, d3] => { results := [.lit (.bool true)], args := [d1, d2, d3] }
  | _ => none }
def betweenDualRow : OpenClaim := { program := "ytjliabifaohfjaa", sum := "e4bd92ba1f7b2f2400288242839150c46e6a95b6540273671af3bc71b126bbb8", func := "syllogist/syllogistkeep.BetweenDual", spec := "betweenDual", plainKeys := false, apart := false }
def BetweenDualSaid : Prop := betweenDualRow.holds Try.pinned (OpenSpec.ofChange betweenDualSpec)

/-- ITS FALSE NEIGHBOUR: 'it returns false'. Refute it at one input. -/
def betweenDualWrong : ChangeSpec := { name := "betweenDual", fn := fun _ => fun
  | [d1, d2, d3] => { results := [.lit (.bool false)], args := [d1, d2, d3] }
  | _ => none }
def BetweenDualWrongFalsely : Prop := betweenDualRow.holds Try.pinned (OpenSpec.ofChange betweenDualWrong)

/-- 'syllogistkeep.BetweenCraig': WHATEVER THE INPUT: true; the input reads as it did. -/
def betweenCraigSpec : ChangeSpec := { name := "betweenCraig", fn := fun _ => fun
  | [d1, d2, d3, d4, d5] => { results := [.lit (.bool true)], args := [d1, d2, d3, d4, d5] }
  | _ => none }
def betweenCraigRow : OpenClaim := { program := "ytjliabifaohfjaa", sum := "e4bd92ba1f7b2f2400288242839150c46e6a95b6540273671af3bc71b126bbb8", func := "syllogist/syllogistkeep.BetweenCraig", spec := "betweenCraig", plainKeys := false, apart := false }
def BetweenCraigSaid : Prop := betweenCraigRow.holds Try.pinned (OpenSpec.ofChange betweenCraigSpec)

/-- ITS FALSE NEIGHBOUR: 'it returns false'. Refute it at one input. -/
def betweenCraigWrong : ChangeSpec := { name := "betweenCraig", fn := fun _ => fun
  | [d1, d2, d3, d4, d5] => { results := [.lit (.bool false)], args := [d1, d2, d3, d4, d5] }
  | _ => none }
def BetweenCraigWrongFalsely : Prop := betweenCraigRow.holds Try.pinned (OpenSpec.ofChange betweenCraigWrong)

/-- 'syllogistkeep.ChoiceOne': WHATEVER THE INPUT: true; the input reads as it did. -/
def choiceOneSpec : ChangeSpec := { name := "choiceOne", fn := fun _ => fun
  | [d1, d2, d3] => { results := [.lit (.bool true)], args := [d1, d2, d3] }
  | _ => none }
def choiceOneRow : OpenClaim := { program := "ytjliabifaohfjaa", sum := "e4bd92ba1f7b2f2400288242839150c46e6a95b6540273671af3bc71b126bbb8", func := "syllogist/syllogistkeep.ChoiceOne", spec := "choiceOne", recurses := true, plainKeys := false, apart := false }
def ChoiceOneSaid : Prop := choiceOneRow.holds Try.pinned (OpenSpec.ofChange choiceOneSpec)

/-- ITS FALSE NEIGHBOUR: 'it returns false'. Refute it at one input. -/
def choiceOneWrong : ChangeSpec := { name := "choiceOne", fn := fun _ => fun
  | [d1, d2, d3] => { results := [.lit (.bool false)], args := [d1, d2, d3] }
  | _ => none }
def ChoiceOneWrongFalsely : Prop := choiceOneRow.holds Try.pinned (OpenSpec.ofChange choiceOneWrong)

/-- 'syllogistkeep.ChoiceAnd': WHATEVER THE INPUT: true; the input reads as it did. -/
def choiceAndSpec : ChangeSpec := { name := "choiceAnd", fn := fun _ => fun
  | [d1, d2, d3] => { results := [.lit (.bool true)], args := [d1, d2, d3] }
  | _ => none }
def choiceAndRow : OpenClaim := { program := "ytjliabifaohfjaa", sum := "e4bd92ba1f7b2f2400288242839150c46e6a95b6540273671af3bc71b126bbb8", func := "syllogist/syllogistkeep.ChoiceAnd", spec := "choiceAnd", unfollowed := true, recurses := true, plainKeys := false, apart := false }
def ChoiceAndSaid : Prop := choiceAndRow.holds Try.pinned (OpenSpec.ofChange choiceAndSpec)

/-- ITS FALSE NEIGHBOUR: 'it returns false'. Refute it at one input. -/
def choiceAndWrong : ChangeSpec := { name := "choiceAnd", fn := fun _ => fun
  | [d1, d2, d3] => { results := [.lit (.bool false)], args := [d1, d2, d3] }
  | _ => none }
def ChoiceAndWrongFalsely : Prop := choiceAndRow.holds Try.pinned (OpenSpec.ofChange choiceAndWrong)

/- THE SECOND FORM. 'bulk': how many values and letters a reading holds, each counted each time it is reached (what is shared counts as often as it is met; a slice's spare places count too). A statement '..UptoSaid' is the law's where the arguments, and the package variables that the reading takes, are together of bulk at most 1048576: NARROWER than '..Said'. Prove '..Said' where nothing that the law and all that it calls make is longer than what came in: it says more and counts as full. Else prove '..UptoSaid'. A law counts once. -/
mutual
def uptoBulk {H : Type} : DataW H → Nat
  | .lit (.string bytes) => bytes.length + 1
  | .lit _ => 1
  | .nil => 1
  | .ptr d => uptoBulk d + 1
  | .slice elems spare => uptoBulkAll elems + uptoBulkAll spare + 1
  | .agg parts => uptoBulkAll parts + 1
  | .iface _ d => uptoBulk d + 1
  | .map entries => uptoBulkEntries entries + 1
  | .held _ => 1
def uptoBulkAll {H : Type} : List (DataW H) → Nat
  | [] => 0
  | d :: r => uptoBulk d + uptoBulkAll r
def uptoBulkEntries {H : Type} : List (Lit × DataW H) → Nat
  | [] => 0
  | x :: r => uptoBulkEntry x + uptoBulkEntries r
def uptoBulkEntry {H : Type} : Lit × DataW H → Nat
  | (.string bytes, d) => bytes.length + uptoBulk d + 1
  | (_, d) => uptoBulk d + 1
 end
def uptoSmall : (H : Type) → List (DataW H) → Bool := fun _ ds => decide (uptoBulkAll ds ≤ 1048576)
def OpenSpec.upto (s : _root_.Go.ChangeSpec) : _root_.Go.OpenSpec := { _root_.Go.OpenSpec.ofChange s with cond := some uptoSmall }

/-- 'syllogistkeep.TruthDual', WHERE WHAT IT READS IS OF BULK AT MOST 1048576: true; the input reads as it did. -/
def truthDualUptoRow : OpenClaim := { program := "ytjliabifaohfjaa", sum := "e4bd92ba1f7b2f2400288242839150c46e6a95b6540273671af3bc71b126bbb8", func := "syllogist/syllogistkeep.TruthDual", spec := "truthDual", plainKeys := false, apart := false, narrowed := true }
def TruthDualUptoSaid : Prop := truthDualUptoRow.holds Try.pinned (OpenSpec.upto truthDualSpec)

/-- 'syllogistkeep.TruthSum', WHERE WHAT IT READS IS OF BULK AT MOST 1048576: true; the input reads as it did. -/
def truthSumUptoRow : OpenClaim := { program := "ytjliabifaohfjaa", sum := "e4bd92ba1f7b2f2400288242839150c46e6a95b6540273671af3bc71b126bbb8", func := "syllogist/syllogistkeep.TruthSum", spec := "truthSum", plainKeys := false, apart := false, narrowed := true }
def TruthSumUptoSaid : Prop := truthSumUptoRow.holds Try.pinned (OpenSpec.upto truthSumSpec)

/-- 'syllogistkeep.TruthPost', WHERE WHAT IT READS IS OF BULK AT MOST 1048576: true; the input reads as it did. -/
def truthPostUptoRow : OpenClaim := { program := "ytjliabifaohfjaa", sum := "e4bd92ba1f7b2f2400288242839150c46e6a95b6540273671af3bc71b126bbb8", func := "syllogist/syllogistkeep.TruthPost", spec := "truthPost", plainKeys := false, apart := false, narrowed := true }
def TruthPostUptoSaid : Prop := truthPostUptoRow.holds Try.pinned (OpenSpec.upto truthPostSpec)

/-- 'syllogistkeep.TruthPrime', WHERE WHAT IT READS IS OF BULK AT MOST 1048576: true; the input reads as it did. -/
def truthPrimeUptoRow : OpenClaim := { program := "ytjliabifaohfjaa", sum := "e4bd92ba1f7b2f2400288242839150c46e6a95b6540273671af3bc71b126bbb8", func := "syllogist/syllogistkeep.TruthPrime", spec := "truthPrime", unfollowed := true, recurses := true, plainKeys := false, apart := false, narrowed := true }
def TruthPrimeUptoSaid : Prop := truthPrimeUptoRow.holds Try.pinned (OpenSpec.upto truthPrimeSpec)

/-- 'syllogistkeep.BetweenBeth', WHERE WHAT IT READS IS OF BULK AT MOST 1048576: true; the input reads as it did. -/
def betweenBethUptoRow : OpenClaim := { program := "ytjliabifaohfjaa", sum := "e4bd92ba1f7b2f2400288242839150c46e6a95b6540273671af3bc71b126bbb8", func := "syllogist/syllogistkeep.BetweenBeth", spec := "betweenBeth", plainKeys := false, apart := false, narrowed := true }
def BetweenBethUptoSaid : Prop := betweenBethUptoRow.holds Try.pinned (OpenSpec.upto betweenBethSpec)

/-- 'syllogistkeep.BetweenDual', WHERE WHAT IT READS IS OF BULK AT MOST 1048576: true; the input reads as it did. -/
def betweenDualUptoRow : OpenClaim := { program := "ytjliabifaohfjaa", sum := "e4bd92ba1f7b2f2400288242839150c46e6a95b6540273671af3bc71b126bbb8", func := "syllogist/syllogistkeep.BetweenDual", spec := "betweenDual", plainKeys := false, apart := false, narrowed := true }
def BetweenDualUptoSaid : Prop := betweenDualUptoRow.holds Try.pinned (OpenSpec.upto betweenDualSpec)

/-- 'syllogistkeep.BetweenCraig', WHERE WHAT IT READS IS OF BULK AT MOST 1048576: true; the input reads as it did. -/
def betweenCraigUptoRow : OpenClaim := { program := "ytjliabifaohfjaa", sum := "e4bd92ba1f7b2f2400288242839150c46e6a95b6540273671af3bc71b126bbb8", func := "syllogist/syllogistkeep.BetweenCraig", spec := "betweenCraig", plainKeys := false, apart := false, narrowed := true }
def BetweenCraigUptoSaid : Prop := betweenCraigUptoRow.holds Try.pinned (OpenSpec.upto betweenCraigSpec)

/-- 'syllogistkeep.ChoiceOne', WHERE WHAT IT READS IS OF BULK AT MOST 1048576: true; the input reads as it did. -/
def choiceOneUptoRow : OpenClaim := { program := "ytjliabifaohfjaa", sum := "e4bd92ba1f7b2f2400288242839150c46e6a95b6540273671af3bc71b126bbb8", func := "syllogist/syllogistkeep.ChoiceOne", spec := "choiceOne", recurses := true, plainKeys := false, apart := false, narrowed := true }
def ChoiceOneUptoSaid : Prop := choiceOneUptoRow.holds Try.pinned (OpenSpec.upto choiceOneSpec)

/-- 'syllogistkeep.ChoiceAnd', WHERE WHAT IT READS IS OF BULK AT MOST 1048576: true; the input reads as it did. -/
def choiceAndUptoRow : OpenClaim := { program := "ytjliabifaohfjaa", sum := "e4bd92ba1f7b2f2400288242839150c46e6a95b6540273671af3bc71b126bbb8", func := "syllogist/syllogistkeep.ChoiceAnd", spec := "choiceAnd", unfollowed := true, recurses := true, plainKeys := false, apart := false, narrowed := true }
def ChoiceAndUptoSaid : Prop := choiceAndUptoRow.holds Try.pinned (OpenSpec.upto choiceAndSpec)

end Rows
end Go.Proofs.Ytjliabifaohfjaa
