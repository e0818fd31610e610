/-
  No cell of these rows narrows 'for every input' (looked for: loops, veiled, ifaces, maps, wideKeys, modest, calm, conditions, laid).
  DERIVED. THE GIVEN ROWS OF THIS SEAT. 9 by the template 'for every input the law returns true; each argument reads behind the call as it read before'; 0 by the template 'total and deterministic' (their statements: YtmdlfngdmlhpmaaTotals.lean).
  GIVEN WITH THE SEED: the statements are not yours to turn. If you find one false, say at which input.
  Laid BY PROGRAM, IN A SANDBOX (cutbox-rows.mjs): the forced cells as the released guide's own fill.sh prints them over the translation d184a036dcfc18f0… (all of the seat's roots in one cut). By AI agents, Wed Nov 11 2026. No macro, syntax, notation, axiom, sorry.
-/
import Derived.Test.YtmdlfngdmlhpmaaChecked
import GoSem.Claim
import GoSem.ClaimJoined
import GoSem.ClaimMapViews
import Derived.JoinedTies
import Derived.KernelRfl
namespace Go.Proofs.Ytmdlfngdmlhpmaa
/- THE CELL 'sum', in the pinned program and in every row, IS THE sha256 OF THE DUMP (.gsa) THAT YtmdlfngdmlhpmaaProg.lean LOADS. Nothing in Lean hashes anything: it is a label: what it is worth is what the hold of that sum in a sandbox is worth. -/
noncomputable def Try.pinned : Pinned := { name := "ytmdlfngdmlhpmaa", sum := "d184a036dcfc18f0abd637e9398321afe17e427e2858aa9318fac00e79aab56b", checked := Try.checked }
namespace Rows
def none {H : Type} : Left H := { results := [], args := [] }

/-- 'syllogistkeep.FollowClose': WHATEVER THE INPUT: true; the input reads as it did. -/
def followCloseSpec : ChangeSpec := { name := "followClose", fn := fun _ => fun
  | [d1, d2, d3, d4] => { results := [.lit (.bool true)], args := [d1, d2, d3, d4] }
  | _ => none }
def followCloseRow : OpenClaim := { program := "ytmdlfngdmlhpmaa", sum := "d184a036dcfc18f0abd637e9398321afe17e427e2858aa9318fac00e79aab56b", func := "syllogist/syllogistkeep.FollowClose", spec := "followClose", apart := false }
def FollowCloseSaid : Prop := followCloseRow.holds Try.pinned (OpenSpec.ofChange followCloseSpec)

/-- ITS FALSE NEIGHBOUR: 'it returns false'. Refute it at one input. -/
def followCloseWrong : ChangeSpec := { name := "followClose", fn := fun _ => fun
  | [d1, d2, d3, d4] => { results := [.lit (.bool false)], args := [d1, d2, d3, d4] }
  | _ => none }
def FollowCloseWrongFalsely : Prop := followCloseRow.holds Try.pinned (OpenSpec.ofChange followCloseWrong)

/-- 'syllogistkeep.FollowArmstrong': WHATEVER THE INPUT: true; the input reads as it did. -/
def followArmstrongSpec : ChangeSpec := { name := "followArmstrong", fn := fun _ => fun
  | [d1, d2, d3, d4, d5] => { results := [.lit (.bool true)], args := [d1, d2, d3, d4, d5] }
  | _ => none }
def followArmstrongRow : OpenClaim := { program := "ytmdlfngdmlhpmaa", sum := "d184a036dcfc18f0abd637e9398321afe17e427e2858aa9318fac00e79aab56b", func := "syllogist/syllogistkeep.FollowArmstrong", spec := "followArmstrong", apart := false }
def FollowArmstrongSaid : Prop := followArmstrongRow.holds Try.pinned (OpenSpec.ofChange followArmstrongSpec)

/-- ITS FALSE NEIGHBOUR: 'it returns false'. Refute it at one input. -/
def followArmstrongWrong : ChangeSpec := { name := "followArmstrong", fn := fun _ => fun
  | [d1, d2, d3, d4, d5] => { results := [.lit (.bool false)], args := [d1, d2, d3, d4, d5] }
  | _ => none }
def FollowArmstrongWrongFalsely : Prop := followArmstrongRow.holds Try.pinned (OpenSpec.ofChange followArmstrongWrong)

/-- 'syllogistkeep.FollowMeet': WHATEVER THE INPUT: true; the input reads as it did. -/
def followMeetSpec : ChangeSpec := { name := "followMeet", fn := fun _ => fun
  | [d1, d2, d3, d4] => { results := [.lit (.bool true)], args := [d1, d2, d3, d4] }
  | _ => none }
def followMeetRow : OpenClaim := { program := "ytmdlfngdmlhpmaa", sum := "d184a036dcfc18f0abd637e9398321afe17e427e2858aa9318fac00e79aab56b", func := "syllogist/syllogistkeep.FollowMeet", spec := "followMeet", apart := false }
def FollowMeetSaid : Prop := followMeetRow.holds Try.pinned (OpenSpec.ofChange followMeetSpec)

/-- ITS FALSE NEIGHBOUR: 'it returns false'. Refute it at one input. -/
def followMeetWrong : ChangeSpec := { name := "followMeet", fn := fun _ => fun
  | [d1, d2, d3, d4] => { results := [.lit (.bool false)], args := [d1, d2, d3, d4] }
  | _ => none }
def FollowMeetWrongFalsely : Prop := followMeetRow.holds Try.pinned (OpenSpec.ofChange followMeetWrong)

/-- 'syllogistkeep.FollowKey': WHATEVER THE INPUT: true; the input reads as it did. -/
def followKeySpec : ChangeSpec := { name := "followKey", fn := fun _ => fun
  | [d1, d2] => { results := [.lit (.bool true)], args := [d1, d2] }
  | _ => none }
def followKeyRow : OpenClaim := { program := "ytmdlfngdmlhpmaa", sum := "d184a036dcfc18f0abd637e9398321afe17e427e2858aa9318fac00e79aab56b", func := "syllogist/syllogistkeep.FollowKey", spec := "followKey", unfollowed := true, recurses := true, apart := false }
def FollowKeySaid : Prop := followKeyRow.holds Try.pinned (OpenSpec.ofChange followKeySpec)

/-- ITS FALSE NEIGHBOUR: 'it returns false'. Refute it at one input. -/
def followKeyWrong : ChangeSpec := { name := "followKey", fn := fun _ => fun
  | [d1, d2] => { results := [.lit (.bool false)], args := [d1, d2] }
  | _ => none }
def FollowKeyWrongFalsely : Prop := followKeyRow.holds Try.pinned (OpenSpec.ofChange followKeyWrong)

/-- 'syllogistkeep.FixAll': WHATEVER THE INPUT: true; the input reads as it did. -/
def fixAllSpec : ChangeSpec := { name := "fixAll", fn := fun _ => fun
  | [d1, d2, d3, d4] => { results := [.lit (.bool true)], args := [d1, d2, d3, d4] }
  | _ => none }
def fixAllRow : OpenClaim := { program := "ytmdlfngdmlhpmaa", sum := "d184a036dcfc18f0abd637e9398321afe17e427e2858aa9318fac00e79aab56b", func := "syllogist/syllogistkeep.FixAll", spec := "fixAll", unfollowed := true, recurses := true, apart := false }
def FixAllSaid : Prop := fixAllRow.holds Try.pinned (OpenSpec.ofChange fixAllSpec)

/-- ITS FALSE NEIGHBOUR: 'it returns false'. Refute it at one input. -/
def fixAllWrong : ChangeSpec := { name := "fixAll", fn := fun _ => fun
  | [d1, d2, d3, d4] => { results := [.lit (.bool false)], args := [d1, d2, d3, d4] }
  | _ => none }
def FixAllWrongFalsely : Prop := fixAllRow.holds Try.pinned (OpenSpec.ofChange fixAllWrong)

/-- 'syllogistkeep.FixTarski': WHATEVER THE INPUT: true; the input reads as it did. -/
def fixTarskiSpec : ChangeSpec := { name := "fixTarski", fn := fun _ => fun
  | [d1, d2, d3] => { results := [.lit (.bool true)], args := [d1, d2, d3] }
  | _ => none }
def fixTarskiRow : OpenClaim := { program := "ytmdlfngdmlhpmaa", sum := "d184a036dcfc18f0abd637e9398321afe17e427e2858aa9318fac00e79aab56b", func := "syllogist/syllogistkeep.FixTarski", spec := "fixTarski", unfollowed := true, recurses := true, apart := false }
def FixTarskiSaid : Prop := fixTarskiRow.holds Try.pinned (OpenSpec.ofChange fixTarskiSpec)

/-- ITS FALSE NEIGHBOUR: 'it returns false'. Refute it at one input. -/
def fixTarskiWrong : ChangeSpec := { name := "fixTarski", fn := fun _ => fun
  | [d1, d2, d3] => { results := [.lit (.bool false)], args := [d1, d2, d3] }
  | _ => none }
def FixTarskiWrongFalsely : Prop := fixTarskiRow.holds Try.pinned (OpenSpec.ofChange fixTarskiWrong)

/-- 'syllogistkeep.ConceptGalois': WHATEVER THE INPUT: true; the input reads as it did. -/
def conceptGaloisSpec : ChangeSpec := { name := "conceptGalois", fn := fun _ => fun
  | [d1, d2, d3, d4] => { results := [.lit (.bool true)], args := [d1, d2, d3, d4] }
  | _ => none }
def conceptGaloisRow : OpenClaim := { program := "ytmdlfngdmlhpmaa", sum := "d184a036dcfc18f0abd637e9398321afe17e427e2858aa9318fac00e79aab56b", func := "syllogist/syllogistkeep.ConceptGalois", spec := "conceptGalois", apart := false }
def ConceptGaloisSaid : Prop := conceptGaloisRow.holds Try.pinned (OpenSpec.ofChange conceptGaloisSpec)

/-- ITS FALSE NEIGHBOUR: 'it returns false'. Refute it at one input. -/
def conceptGaloisWrong : ChangeSpec := { name := "conceptGalois", fn := fun _ => fun
  | [d1, d2, d3, d4] => { results := [.lit (.bool false)], args := [d1, d2, d3, d4] }
  | _ => none }
def ConceptGaloisWrongFalsely : Prop := conceptGaloisRow.holds Try.pinned (OpenSpec.ofChange conceptGaloisWrong)

/-- 'syllogistkeep.ConceptRules': WHATEVER THE INPUT: true; the input reads as it did. -/
def conceptRulesSpec : ChangeSpec := { name := "conceptRules", fn := fun _ => fun
  | [d1, d2, d3] => { results := [.lit (.bool true)], args := [d1, d2, d3] }
  | _ => none }
def conceptRulesRow : OpenClaim := { program := "ytmdlfngdmlhpmaa", sum := "d184a036dcfc18f0abd637e9398321afe17e427e2858aa9318fac00e79aab56b", func := "syllogist/syllogistkeep.ConceptRules", spec := "conceptRules", unfollowed := true, recurses := true, apart := false }
def ConceptRulesSaid : Prop := conceptRulesRow.holds Try.pinned (OpenSpec.ofChange conceptRulesSpec)

/-- ITS FALSE NEIGHBOUR: 'it returns false'. Refute it at one input. -/
def conceptRulesWrong : ChangeSpec := { name := "conceptRules", fn := fun _ => fun
  | [d1, d2, d3] => { results := [.lit (.bool false)], args := [d1, d2, d3] }
  | _ => none }
def ConceptRulesWrongFalsely : Prop := conceptRulesRow.holds Try.pinned (OpenSpec.ofChange conceptRulesWrong)

/-- 'syllogistkeep.ConceptNext': WHATEVER THE INPUT: true; the input reads as it did. -/
def conceptNextSpec : ChangeSpec := { name := "conceptNext", fn := fun _ => fun
  | [d1, d2] => { results := [.lit (.bool true)], args := [d1, d2] }
  | _ => none }
def conceptNextRow : OpenClaim := { program := "ytmdlfngdmlhpmaa", sum := "d184a036dcfc18f0abd637e9398321afe17e427e2858aa9318fac00e79aab56b", func := "syllogist/syllogistkeep.ConceptNext", spec := "conceptNext", unfollowed := true, recurses := true, apart := false }
def ConceptNextSaid : Prop := conceptNextRow.holds Try.pinned (OpenSpec.ofChange conceptNextSpec)

/-- ITS FALSE NEIGHBOUR: 'it returns false'. Refute it at one input. -/
def conceptNextWrong : ChangeSpec := { name := "conceptNext", fn := fun _ => fun
  | [d1, d2] => { results := [.lit (.bool false)], args := [d1, d2] }
  | _ => none }
def ConceptNextWrongFalsely : Prop := conceptNextRow.holds Try.pinned (OpenSpec.ofChange conceptNextWrong)

/- THE SECOND FORM. 'bulk': how many values and letters a reading holds, each counted each time it is reached (what is shared counts as often as it is met; a slice's spare places count too). A statement '..UptoSaid' is the law's where the arguments, and the package variables that the reading takes, are together of bulk at most 1048576: NARROWER than '..Said'. Prove '..Said' where nothing that the law and all that it calls make is longer than what came in: it says more and counts as full. Else prove '..UptoSaid'. A law counts once. -/
mutual
def uptoBulk {H : Type} : DataW H → Nat
  | .lit (.string bytes) => bytes.length + 1
  | .lit _ => 1
  | .nil => 1
  | .ptr d => uptoBulk d + 1
  | .slice elems spare => uptoBulkAll elems + uptoBulkAll spare + 1
  | .agg parts => uptoBulkAll parts + 1
  | .iface _ d => uptoBulk d + 1
  | .map entries => uptoBulkEntries entries + 1
  | .held _ => 1
def uptoBulkAll {H : Type} : List (DataW H) → Nat
  | [] => 0
  | d :: r => uptoBulk d + uptoBulkAll r
def uptoBulkEntries {H : Type} : List (Lit × DataW H) → Nat
  | [] => 0
  | x :: r => uptoBulkEntry x + uptoBulkEntries r
def uptoBulkEntry {H : Type} : Lit × DataW H → Nat
  | (.string bytes, d) => bytes.length + uptoBulk d + 1
  | (_, d) => uptoBulk d + 1
 end
def uptoSmall : (H : Type) → List (DataW H) → Bool := fun _ ds => decide (uptoBulkAll ds ≤ 1048576)
def OpenSpec.upto (s : _root_.Go.ChangeSpec) : _root_.Go.OpenSpec := { _root_.Go.OpenSpec.ofChange s with cond := some uptoSmall }

/-- 'syllogistkeep.FollowClose', WHERE WHAT IT READS IS OF BULK AT MOST 1048576: true; the input reads as it did. -/
def followCloseUptoRow : OpenClaim := { program := "ytmdlfngdmlhpmaa", sum := "d184a036dcfc18f0abd637e9398321afe17e427e2858aa9318fac00e79aab56b", func := "syllogist/syllogistkeep.FollowClose", spec := "followClose", apart := false, narrowed := true }
def FollowCloseUptoSaid : Prop := followCloseUptoRow.holds Try.pinned (OpenSpec.upto followCloseSpec)

/-- 'syllogistkeep.FollowArmstrong', WHERE WHAT IT READS IS OF BULK AT MOST 1048576: true; the input reads as it did. -/
def followArmstrongUptoRow : OpenClaim := { program := "ytmdlfngdmlhpmaa", sum := "d184a036dcfc18f0abd637e9398321afe17e427e2858aa9318fac00e79aab56b", func := "syllogist/syllogistkeep.FollowArmstrong", spec := "followArmstrong", apart := false, narrowed := true }
def FollowArmstrongUptoSaid : Prop := followArmstrongUptoRow.holds Try.pinned (OpenSpec.upto followArmstrongSpec)

/-- 'syllogistkeep.FollowMeet', WHERE WHAT IT READS IS OF BULK AT MOST 1048576: true; the input reads as it did. -/
def followMeetUptoRow : OpenClaim := { program := "ytmdlfngdmlhpmaa", sum := "d184a036dcfc18f0abd637e9398321afe17e427e2858aa9318fac00e79aab56b", func := "syllogist/syllogistkeep.FollowMeet", spec := "followMeet", apart := false, narrowed := true }
def FollowMeetUptoSaid : Prop := followMeetUptoRow.holds Try.pinned (OpenSpec.upto followMeetSpec)

/-- 'syllogistkeep.FollowKey', WHERE WHAT IT READS IS OF BULK AT MOST 1048576: true; the input reads as it did. -/
def followKeyUptoRow : OpenClaim := { program := "ytmdlfngdmlhpmaa", sum := "d184a036dcfc18f0abd637e9398321afe17e427e2858aa9318fac00e79aab56b", func := "syllogist/syllogistkeep.FollowKey", spec := "followKey", unfollowed := true, recurses := true, apart := false, narrowed := true }
def FollowKeyUptoSaid : Prop := followKeyUptoRow.holds Try.pinned (OpenSpec.upto followKeySpec)

/-- 'syllogistkeep.FixAll', WHERE WHAT IT READS IS OF BULK AT MOST 1048576: true; the input reads as it did. -/
def fixAllUptoRow : OpenClaim := { program := "ytmdlfngdmlhpmaa", sum := "d184a036dcfc18f0abd637e9398321afe17e427e2858aa9318fac00e79aab56b", func := "syllogist/syllogistkeep.FixAll", spec := "fixAll", unfollowed := true, recurses := true, apart := false, narrowed := true }
def FixAllUptoSaid : Prop := fixAllUptoRow.holds Try.pinned (OpenSpec.upto fixAllSpec)

/-- 'syllogistkeep.FixTarski', WHERE WHAT IT READS IS OF BULK AT MOST 1048576: true; the input reads as it did. -/
def fixTarskiUptoRow : OpenClaim := { program := "ytmdlfngdmlhpmaa", sum := "d184a036dcfc18f0abd637e9398321afe17e427e2858aa9318fac00e79aab56b", func := "syllogist/syllogistkeep.FixTarski", spec := "fixTarski", unfollowed := true, recurses := true, apart := false, narrowed := true }
def FixTarskiUptoSaid : Prop := fixTarskiUptoRow.holds Try.pinned (OpenSpec.upto fixTarskiSpec)

/-- 'syllogistkeep.ConceptGalois', WHERE WHAT IT READS IS OF BULK AT MOST 1048576: true; the input reads as it did. -/
def conceptGaloisUptoRow : OpenClaim := { program := "ytmdlfngdmlhpmaa", sum := "d184a036dcfc18f0abd637e9398321afe17e427e2858aa9318fac00e79aab56b", func := "syllogist/syllogistkeep.ConceptGalois", spec := "conceptGalois", apart := false, narrowed := true }
def ConceptGaloisUptoSaid : Prop := conceptGaloisUptoRow.holds Try.pinned (OpenSpec.upto conceptGaloisSpec)

/-- 'syllogistkeep.ConceptRules', WHERE WHAT IT READS IS OF BULK AT MOST 1048576: true; the input reads as it did. -/
def conceptRulesUptoRow : OpenClaim := { program := "ytmdlfngdmlhpmaa", sum := "d184a036dcfc18f0abd637e9398321afe17e427e2858aa9318fac00e79aab56b", func := "syllogist/syllogistkeep.ConceptRules", spec := "conceptRules", unfollowed := true, recurses := true, apart := false, narrowed := true }
def ConceptRulesUptoSaid : Prop := conceptRulesUptoRow.holds Try.pinned (OpenSpec.upto conceptRulesSpec)

/-- 'syllogistkeep.ConceptNext', WHERE WHAT IT READS IS OF BULK AT MOST 1048576: true; the input reads as it did. -/
def conceptNextUptoRow : OpenClaim := { program := "ytmdlfngdmlhpmaa", sum := "d184a036dcfc18f0abd637e9398321afe17e427e2858aa9318fac00e79aab56b", func := "syllogist/syllogistkeep.ConceptNext", spec := "conceptNext", unfollowed := true, recurses := true, apart := false, narrowed := true }
def ConceptNextUptoSaid : Prop := conceptNextUptoRow.holds Try.pinned (OpenSpec.upto conceptNextSpec)

end Rows
end Go.Proofs.Ytmdlfngdmlhpmaa
