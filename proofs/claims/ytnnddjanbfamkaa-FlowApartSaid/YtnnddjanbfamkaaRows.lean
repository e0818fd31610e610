/-
  NARROWER THAN 'FOR EVERY INPUT', by the rows' own cells (each row's printed sentence says how): FlowRaise: loops · FlowApart: loops.
  DERIVED. THE GIVEN ROWS OF THIS SEAT. 10 by the template 'for every input the law returns true; each argument reads behind the call as it read before'; 0 by the template 'total and deterministic' (their statements: YtnnddjanbfamkaaTotals.lean).
  GIVEN WITH THE SEED: the statements are not yours to turn. If you find one false, say at which input.
  Laid BY PROGRAM, IN A SANDBOX (cutbox-rows.mjs): the forced cells as the released guide's own fill.sh prints them over the translation bd65e0e045ba1e6f… (all of the seat's roots in one cut). By AI agents, Wed Nov 11 2026. No macro, syntax, notation, axiom, sorry.
-/
import Derived.Test.YtnnddjanbfamkaaChecked
import GoSem.Claim
import GoSem.ClaimJoined
import GoSem.ClaimMapViews
import Derived.JoinedTies
import Derived.KernelRfl
namespace Go.Proofs.Ytnnddjanbfamkaa
/- THE CELL 'sum', in the pinned program and in every row, IS THE sha256 OF THE DUMP (.gsa) THAT YtnnddjanbfamkaaProg.lean LOADS. Nothing in Lean hashes anything: it is a label: what it is worth is what the hold of that sum in a sandbox is worth. -/
noncomputable def Try.pinned : Pinned := { name := "ytnnddjanbfamkaa", sum := "bd65e0e045ba1e6f9866dfdbdfb202d38ed2d963aace5b3bc6731d60768f4b1f", checked := Try.checked }
namespace Rows
def none {H : Type} : Left H := { results := [], args := [] }

/-- 'syllogistkeep.LabelNumber': WHATEVER THE INPUT: true; the input reads as it did. -/
def labelNumberSpec : ChangeSpec := { name := "labelNumber", fn := fun _ => fun
  | [d1, d2] => { results := [.lit (.bool true)], args := [d1, d2] }
  | _ => none }
def labelNumberRow : OpenClaim := { program := "ytnnddjanbfamkaa", sum := "bd65e0e045ba1e6f9866dfdbdfb202d38ed2d963aace5b3bc6731d60768f4b1f", func := "syllogist/syllogistkeep.LabelNumber", spec := "labelNumber", apart := false }
def LabelNumberSaid : Prop := labelNumberRow.holds Try.pinned (OpenSpec.ofChange labelNumberSpec)

/-- ITS FALSE NEIGHBOUR: 'it returns false'. Refute it at one input. -/
def labelNumberWrong : ChangeSpec := { name := "labelNumber", fn := fun _ => fun
  | [d1, d2] => { results := [.lit (.bool false)], args := [d1, d2] }
  | _ => none }
def LabelNumberWrongFalsely : Prop := labelNumberRow.holds Try.pinned (OpenSpec.ofChange labelNumberWrong)

/-- 'syllogistkeep.LabelLaws': WHATEVER THE INPUT: true; the input reads as it did. -/
def labelLawsSpec : ChangeSpec := { name := "labelLaws", fn := fun _ => fun
  | [d1, d2, d3] => { results := [.lit (.bool true)], args := [d1, d2, d3] }
  | _ => none }
def labelLawsRow : OpenClaim := { program := "ytnnddjanbfamkaa", sum := "bd65e0e045ba1e6f9866dfdbdfb202d38ed2d963aace5b3bc6731d60768f4b1f", func := "syllogist/syllogistkeep.LabelLaws", spec := "labelLaws", apart := false }
def LabelLawsSaid : Prop := labelLawsRow.holds Try.pinned (OpenSpec.ofChange labelLawsSpec)

/-- ITS FALSE NEIGHBOUR: 'it returns false'. Refute it at one input. -/
def labelLawsWrong : ChangeSpec := { name := "labelLaws", fn := fun _ => fun
  | [d1, d2, d3] => { results := [.lit (.bool false)], args := [d1, d2, d3] }
  | _ => none }
def LabelLawsWrongFalsely : Prop := labelLawsRow.holds Try.pinned (OpenSpec.ofChange labelLawsWrong)

/-- 'syllogistkeep.MarkFlow': WHATEVER THE INPUT: true; the input reads as it did. -/
def markFlowSpec : ChangeSpec := { name := "markFlow", fn := fun _ => fun
  | [d1, d2, d3] => { results := [.lit (.bool true)], args := [d1, d2, d3] }
  | _ => none }
def markFlowRow : OpenClaim := { program := "ytnnddjanbfamkaa", sum := "bd65e0e045ba1e6f9866dfdbdfb202d38ed2d963aace5b3bc6731d60768f4b1f", func := "syllogist/syllogistkeep.MarkFlow", spec := "markFlow", unfollowed := true, recurses := true, apart := false }
def MarkFlowSaid : Prop := markFlowRow.holds Try.pinned (OpenSpec.ofChange markFlowSpec)

/-- ITS FALSE NEIGHBOUR: 'it returns false'. Refute it at one input. -/
def markFlowWrong : ChangeSpec := { name := "markFlow", fn := fun _ => fun
  | [d1, d2, d3] => { results := [.lit (.bool false)], args := [d1, d2, d3] }
  | _ => none }
def MarkFlowWrongFalsely : Prop := markFlowRow.holds Try.pinned (OpenSpec.ofChange markFlowWrong)

/-- 'syllogistkeep.MarkFront': WHATEVER THE INPUT: true; the input reads as it did. -/
def markFrontSpec : ChangeSpec := { name := "markFront", fn := fun _ => fun
  | [d1, d2, d3, d4] => { results := [.lit (.bool true)], args := [d1, d2, d3, d4] }
  | _ => none }
def markFrontRow : OpenClaim := { program := "ytnnddjanbfamkaa", sum := "bd65e0e045ba1e6f9866dfdbdfb202d38ed2d963aace5b3bc6731d60768f4b1f", func := "syllogist/syllogistkeep.MarkFront", spec := "markFront", unfollowed := true, recurses := true, apart := false }
def MarkFrontSaid : Prop := markFrontRow.holds Try.pinned (OpenSpec.ofChange markFrontSpec)

/-- ITS FALSE NEIGHBOUR: 'it returns false'. Refute it at one input. -/
def markFrontWrong : ChangeSpec := { name := "markFront", fn := fun _ => fun
  | [d1, d2, d3, d4] => { results := [.lit (.bool false)], args := [d1, d2, d3, d4] }
  | _ => none }
def MarkFrontWrongFalsely : Prop := markFrontRow.holds Try.pinned (OpenSpec.ofChange markFrontWrong)

/-- 'syllogistkeep.LowFlow': WHATEVER THE INPUT: true; the input reads as it did. -/
def lowFlowSpec : ChangeSpec := { name := "lowFlow", fn := fun _ => fun
  | [d1, d2, d3] => { results := [.lit (.bool true)], args := [d1, d2, d3] }
  | _ => none }
def lowFlowRow : OpenClaim := { program := "ytnnddjanbfamkaa", sum := "bd65e0e045ba1e6f9866dfdbdfb202d38ed2d963aace5b3bc6731d60768f4b1f", func := "syllogist/syllogistkeep.LowFlow", spec := "lowFlow", apart := false }
def LowFlowSaid : Prop := lowFlowRow.holds Try.pinned (OpenSpec.ofChange lowFlowSpec)

/-- ITS FALSE NEIGHBOUR: 'it returns false'. Refute it at one input. -/
def lowFlowWrong : ChangeSpec := { name := "lowFlow", fn := fun _ => fun
  | [d1, d2, d3] => { results := [.lit (.bool false)], args := [d1, d2, d3] }
  | _ => none }
def LowFlowWrongFalsely : Prop := lowFlowRow.holds Try.pinned (OpenSpec.ofChange lowFlowWrong)

/-- 'syllogistkeep.LowTurn': WHATEVER THE INPUT: true; the input reads as it did. -/
def lowTurnSpec : ChangeSpec := { name := "lowTurn", fn := fun _ => fun
  | [d1, d2, d3] => { results := [.lit (.bool true)], args := [d1, d2, d3] }
  | _ => none }
def lowTurnRow : OpenClaim := { program := "ytnnddjanbfamkaa", sum := "bd65e0e045ba1e6f9866dfdbdfb202d38ed2d963aace5b3bc6731d60768f4b1f", func := "syllogist/syllogistkeep.LowTurn", spec := "lowTurn", unfollowed := true, recurses := true, apart := false }
def LowTurnSaid : Prop := lowTurnRow.holds Try.pinned (OpenSpec.ofChange lowTurnSpec)

/-- ITS FALSE NEIGHBOUR: 'it returns false'. Refute it at one input. -/
def lowTurnWrong : ChangeSpec := { name := "lowTurn", fn := fun _ => fun
  | [d1, d2, d3] => { results := [.lit (.bool false)], args := [d1, d2, d3] }
  | _ => none }
def LowTurnWrongFalsely : Prop := lowTurnRow.holds Try.pinned (OpenSpec.ofChange lowTurnWrong)

/-- 'syllogistkeep.FlowRaise': WHATEVER THE INPUT: true; the input reads as it did. -/
def flowRaiseSpec : ChangeSpec := { name := "flowRaise", fn := fun _ => fun
  | [d1, d2, d3, d4] => { results := [.lit (.bool true)], args := [d1, d2, d3, d4] }
  | _ => none }
def flowRaiseRow : OpenClaim := { program := "ytnnddjanbfamkaa", sum := "bd65e0e045ba1e6f9866dfdbdfb202d38ed2d963aace5b3bc6731d60768f4b1f", func := "syllogist/syllogistkeep.FlowRaise", spec := "flowRaise", unfollowed := true, recurses := true, loops := true, apart := false }
def FlowRaiseSaid : Prop := flowRaiseRow.holds Try.pinned (OpenSpec.ofChange flowRaiseSpec)

/-- ITS FALSE NEIGHBOUR: 'it returns false'. Refute it at one input. -/
def flowRaiseWrong : ChangeSpec := { name := "flowRaise", fn := fun _ => fun
  | [d1, d2, d3, d4] => { results := [.lit (.bool false)], args := [d1, d2, d3, d4] }
  | _ => none }
def FlowRaiseWrongFalsely : Prop := flowRaiseRow.holds Try.pinned (OpenSpec.ofChange flowRaiseWrong)

/-- 'syllogistkeep.FlowApart': WHATEVER THE INPUT: true; the input reads as it did. -/
def flowApartSpec : ChangeSpec := { name := "flowApart", fn := fun _ => fun
  | [d1, d2, d3, d4, d5, d6] => { results := [.lit (.bool true)], args := [d1, d2, d3, d4, d5, d6] }
  | _ => none }
def flowApartRow : OpenClaim := { program := "ytnnddjanbfamkaa", sum := "bd65e0e045ba1e6f9866dfdbdfb202d38ed2d963aace5b3bc6731d60768f4b1f", func := "syllogist/syllogistkeep.FlowApart", spec := "flowApart", unfollowed := true, recurses := true, loops := true, apart := false }
def FlowApartSaid : Prop := flowApartRow.holds Try.pinned (OpenSpec.ofChange flowApartSpec)

/-- ITS FALSE NEIGHBOUR: 'it returns false'. Refute it at one input. -/
def flowApartWrong : ChangeSpec := { name := "flowApart", fn := fun _ => fun
  | [d1, d2, d3, d4, d5, d6] => { results := [.lit (.bool false)], args := [d1, d2, d3, d4, d5, d6] }
  | _ => none }
def FlowApartWrongFalsely : Prop := flowApartRow.holds Try.pinned (OpenSpec.ofChange flowApartWrong)

/-- 'syllogistkeep.WallApart': WHATEVER THE INPUT: true; the input reads as it did. -/
def wallApartSpec : ChangeSpec := { name := "wallApart", fn := fun _ => fun
  | [d1, d2, d3, d4] => { results := [.lit (.bool true)], args := [d1, d2, d3, d4] }
  | _ => none }
def wallApartRow : OpenClaim := { program := "ytnnddjanbfamkaa", sum := "bd65e0e045ba1e6f9866dfdbdfb202d38ed2d963aace5b3bc6731d60768f4b1f", func := "syllogist/syllogistkeep.WallApart", spec := "wallApart", unfollowed := true, recurses := true, apart := false }
def WallApartSaid : Prop := wallApartRow.holds Try.pinned (OpenSpec.ofChange wallApartSpec)

/-- ITS FALSE NEIGHBOUR: 'it returns false'. Refute it at one input. -/
def wallApartWrong : ChangeSpec := { name := "wallApart", fn := fun _ => fun
  | [d1, d2, d3, d4] => { results := [.lit (.bool false)], args := [d1, d2, d3, d4] }
  | _ => none }
def WallApartWrongFalsely : Prop := wallApartRow.holds Try.pinned (OpenSpec.ofChange wallApartWrong)

/-- 'syllogistkeep.WallFew': WHATEVER THE INPUT: true; the input reads as it did. -/
def wallFewSpec : ChangeSpec := { name := "wallFew", fn := fun _ => fun
  | [d1, d2] => { results := [.lit (.bool true)], args := [d1, d2] }
  | _ => none }
def wallFewRow : OpenClaim := { program := "ytnnddjanbfamkaa", sum := "bd65e0e045ba1e6f9866dfdbdfb202d38ed2d963aace5b3bc6731d60768f4b1f", func := "syllogist/syllogistkeep.WallFew", spec := "wallFew", unfollowed := true, recurses := true, apart := false }
def WallFewSaid : Prop := wallFewRow.holds Try.pinned (OpenSpec.ofChange wallFewSpec)

/-- ITS FALSE NEIGHBOUR: 'it returns false'. Refute it at one input. -/
def wallFewWrong : ChangeSpec := { name := "wallFew", fn := fun _ => fun
  | [d1, d2] => { results := [.lit (.bool false)], args := [d1, d2] }
  | _ => none }
def WallFewWrongFalsely : Prop := wallFewRow.holds Try.pinned (OpenSpec.ofChange wallFewWrong)

/- THE SECOND FORM. 'bulk': how many values and letters a reading holds, each counted each time it is reached (what is shared counts as often as it is met; a slice's spare places count too). A statement '..UptoSaid' is the law's where the arguments, and the package variables that the reading takes, are together of bulk at most 1048576: NARROWER than '..Said'. Prove '..Said' where nothing that the law and all that it calls make is longer than what came in: it says more and counts as full. Else prove '..UptoSaid'. A law counts once. -/
mutual
def uptoBulk {H : Type} : DataW H → Nat
  | .lit (.string bytes) => bytes.length + 1
  | .lit _ => 1
  | .nil => 1
  | .ptr d => uptoBulk d + 1
  | .slice elems spare => uptoBulkAll elems + uptoBulkAll spare + 1
  | .agg parts => uptoBulkAll parts + 1
  | .iface _ d => uptoBulk d + 1
  | .map entries => uptoBulkEntries entries + 1
  | .held _ => 1
def uptoBulkAll {H : Type} : List (DataW H) → Nat
  | [] => 0
  | d :: r => uptoBulk d + uptoBulkAll r
def uptoBulkEntries {H : Type} : List (Lit × DataW H) → Nat
  | [] => 0
  | x :: r => uptoBulkEntry x + uptoBulkEntries r
def uptoBulkEntry {H : Type} : Lit × DataW H → Nat
  | (.string bytes, d) => bytes.length + uptoBulk d + 1
  | (_, d) => uptoBulk d + 1
 end
def uptoSmall : (H : Type) → List (DataW H) → Bool := fun _ ds => decide (uptoBulkAll ds ≤ 1048576)
def OpenSpec.upto (s : _root_.Go.ChangeSpec) : _root_.Go.OpenSpec := { _root_.Go.OpenSpec.ofChange s with cond := some uptoSmall }

/-- 'syllogistkeep.LabelNumber', WHERE WHAT IT READS IS OF BULK AT MOST 1048576: true; the input reads as it did. -/
def labelNumberUptoRow : OpenClaim := { program := "ytnnddjanbfamkaa", sum := "bd65e0e045ba1e6f9866dfdbdfb202d38ed2d963aace5b3bc6731d60768f4b1f", func := "syllogist/syllogistkeep.LabelNumber", spec := "labelNumber", apart := false, narrowed := true }
def LabelNumberUptoSaid : Prop := labelNumberUptoRow.holds Try.pinned (OpenSpec.upto labelNumberSpec)

/-- 'syllogistkeep.LabelLaws', WHERE WHAT IT READS IS OF BULK AT MOST 1048576: true; the input reads as it did. -/
def labelLawsUptoRow : OpenClaim := { program := "ytnnddjanbfamkaa", sum := "bd65e0e045ba1e6f9866dfdbdfb202d38ed2d963aace5b3bc6731d60768f4b1f", func := "syllogist/syllogistkeep.LabelLaws", spec := "labelLaws", apart := false, narrowed := true }
def LabelLawsUptoSaid : Prop := labelLawsUptoRow.holds Try.pinned (OpenSpec.upto labelLawsSpec)

/-- 'syllogistkeep.MarkFlow', WHERE WHAT IT READS IS OF BULK AT MOST 1048576: true; the input reads as it did. -/
def markFlowUptoRow : OpenClaim := { program := "ytnnddjanbfamkaa", sum := "bd65e0e045ba1e6f9866dfdbdfb202d38ed2d963aace5b3bc6731d60768f4b1f", func := "syllogist/syllogistkeep.MarkFlow", spec := "markFlow", unfollowed := true, recurses := true, apart := false, narrowed := true }
def MarkFlowUptoSaid : Prop := markFlowUptoRow.holds Try.pinned (OpenSpec.upto markFlowSpec)

/-- 'syllogistkeep.MarkFront', WHERE WHAT IT READS IS OF BULK AT MOST 1048576: true; the input reads as it did. -/
def markFrontUptoRow : OpenClaim := { program := "ytnnddjanbfamkaa", sum := "bd65e0e045ba1e6f9866dfdbdfb202d38ed2d963aace5b3bc6731d60768f4b1f", func := "syllogist/syllogistkeep.MarkFront", spec := "markFront", unfollowed := true, recurses := true, apart := false, narrowed := true }
def MarkFrontUptoSaid : Prop := markFrontUptoRow.holds Try.pinned (OpenSpec.upto markFrontSpec)

/-- 'syllogistkeep.LowFlow', WHERE WHAT IT READS IS OF BULK AT MOST 1048576: true; the input reads as it did. -/
def lowFlowUptoRow : OpenClaim := { program := "ytnnddjanbfamkaa", sum := "bd65e0e045ba1e6f9866dfdbdfb202d38ed2d963aace5b3bc6731d60768f4b1f", func := "syllogist/syllogistkeep.LowFlow", spec := "lowFlow", apart := false, narrowed := true }
def LowFlowUptoSaid : Prop := lowFlowUptoRow.holds Try.pinned (OpenSpec.upto lowFlowSpec)

/-- 'syllogistkeep.LowTurn', WHERE WHAT IT READS IS OF BULK AT MOST 1048576: true; the input reads as it did. -/
def lowTurnUptoRow : OpenClaim := { program := "ytnnddjanbfamkaa", sum := "bd65e0e045ba1e6f9866dfdbdfb202d38ed2d963aace5b3bc6731d60768f4b1f", func := "syllogist/syllogistkeep.LowTurn", spec := "lowTurn", unfollowed := true, recurses := true, apart := false, narrowed := true }
def LowTurnUptoSaid : Prop := lowTurnUptoRow.holds Try.pinned (OpenSpec.upto lowTurnSpec)

/-- 'syllogistkeep.FlowRaise', WHERE WHAT IT READS IS OF BULK AT MOST 1048576: true; the input reads as it did. -/
def flowRaiseUptoRow : OpenClaim := { program := "ytnnddjanbfamkaa", sum := "bd65e0e045ba1e6f9866dfdbdfb202d38ed2d963aace5b3bc6731d60768f4b1f", func := "syllogist/syllogistkeep.FlowRaise", spec := "flowRaise", unfollowed := true, recurses := true, loops := true, apart := false, narrowed := true }
def FlowRaiseUptoSaid : Prop := flowRaiseUptoRow.holds Try.pinned (OpenSpec.upto flowRaiseSpec)

/-- 'syllogistkeep.FlowApart', WHERE WHAT IT READS IS OF BULK AT MOST 1048576: true; the input reads as it did. -/
def flowApartUptoRow : OpenClaim := { program := "ytnnddjanbfamkaa", sum := "bd65e0e045ba1e6f9866dfdbdfb202d38ed2d963aace5b3bc6731d60768f4b1f", func := "syllogist/syllogistkeep.FlowApart", spec := "flowApart", unfollowed := true, recurses := true, loops := true, apart := false, narrowed := true }
def FlowApartUptoSaid : Prop := flowApartUptoRow.holds Try.pinned (OpenSpec.upto flowApartSpec)

/-- 'syllogistkeep.WallApart', WHERE WHAT IT READS IS OF BULK AT MOST 1048576: true; the input reads as it did. -/
def wallApartUptoRow : OpenClaim := { program := "ytnnddjanbfamkaa", sum := "bd65e0e045ba1e6f9866dfdbdfb202d38ed2d963aace5b3bc6731d60768f4b1f", func := "syllogist/syllogistkeep.WallApart", spec := "wallApart", unfollowed := true, recurses := true, apart := false, narrowed := true }
def WallApartUptoSaid : Prop := wallApartUptoRow.holds Try.pinned (OpenSpec.upto wallApartSpec)

/-- 'syllogistkeep.WallFew', WHERE WHAT IT READS IS OF BULK AT MOST 1048576: true; the input reads as it did. -/
def wallFewUptoRow : OpenClaim := { program := "ytnnddjanbfamkaa", sum := "bd65e0e045ba1e6f9866dfdbdfb202d38ed2d963aace5b3bc6731d60768f4b1f", func := "syllogist/syllogistkeep.WallFew", spec := "wallFew", unfollowed := true, recurses := true, apart := false, narrowed := true }
def WallFewUptoSaid : Prop := wallFewUptoRow.holds Try.pinned (OpenSpec.upto wallFewSpec)

end Rows
end Go.Proofs.Ytnnddjanbfamkaa
