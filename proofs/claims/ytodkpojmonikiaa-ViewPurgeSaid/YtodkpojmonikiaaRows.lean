/-
  No cell of these rows narrows 'for every input' (looked for: loops, veiled, ifaces, maps, wideKeys, modest, calm, conditions, laid).
  DERIVED. THE GIVEN ROWS OF THIS SEAT. 12 by the template 'for every input the law returns true; each argument reads behind the call as it read before'; 0 by the template 'total and deterministic' (their statements: YtodkpojmonikiaaTotals.lean).
  GIVEN WITH THE SEED: the statements are not yours to turn. If you find one false, say at which input.
  Laid BY PROGRAM, IN A SANDBOX (cutbox-rows.mjs): the forced cells as the released guide's own fill.sh prints them over the translation ee32583b11124a3d… (all of the seat's roots in one cut). By AI agents, Wed Nov 11 2026. No macro, syntax, notation, axiom, sorry.
-/
import Derived.Test.YtodkpojmonikiaaChecked
import GoSem.Claim
import GoSem.ClaimJoined
import GoSem.ClaimMapViews
import Derived.JoinedTies
import Derived.KernelRfl
namespace Go.Proofs.Ytodkpojmonikiaa
/- THE CELL 'sum', in the pinned program and in every row, IS THE sha256 OF THE DUMP (.gsa) THAT YtodkpojmonikiaaProg.lean LOADS. Nothing in Lean hashes anything: it is a label: what it is worth is what the hold of that sum in a sandbox is worth. -/
noncomputable def Try.pinned : Pinned := { name := "ytodkpojmonikiaa", sum := "ee32583b11124a3d7d25bcb53560f27baa7207e181f894e4f563d2775eb467dd", checked := Try.checked }
namespace Rows
def none {H : Type} : Left H := { results := [], args := [] }

/-- 'syllogistkeep.KnowAgree': WHATEVER THE INPUT: true; the input reads as it did. -/
def knowAgreeSpec : ChangeSpec := { name := "knowAgree", fn := fun _ => fun
  | [d1, d2, d3, d4, d5] => { results := [.lit (.bool true)], args := [d1, d2, d3, d4, d5] }
  | _ => none }
def knowAgreeRow : OpenClaim := { program := "ytodkpojmonikiaa", sum := "ee32583b11124a3d7d25bcb53560f27baa7207e181f894e4f563d2775eb467dd", func := "syllogist/syllogistkeep.KnowAgree", spec := "knowAgree", unfollowed := true, recurses := true, plainKeys := false, apart := false }
def KnowAgreeSaid : Prop := knowAgreeRow.holds Try.pinned (OpenSpec.ofChange knowAgreeSpec)

/-- ITS FALSE NEIGHBOUR: 'it returns false'. Refute it at one input. -/
def knowAgreeWrong : ChangeSpec := { name := "knowAgree", fn := fun _ => fun
  | [d1, d2, d3, d4, d5] => { results := [.lit (.bool false)], args := [d1, d2, d3, d4, d5] }
  | _ => none }
def KnowAgreeWrongFalsely : Prop := knowAgreeRow.holds Try.pinned (OpenSpec.ofChange knowAgreeWrong)

/-- 'syllogistkeep.KnowFive': WHATEVER THE INPUT: true; the input reads as it did. -/
def knowFiveSpec : ChangeSpec := { name := "knowFive", fn := fun _ => fun
  | [d1, d2, d3, d4, d5] => { results := [.lit (.bool true)], args := [d1, d2, d3, d4, d5] }
  | _ => none }
def knowFiveRow : OpenClaim := { program := "ytodkpojmonikiaa", sum := "ee32583b11124a3d7d25bcb53560f27baa7207e181f894e4f563d2775eb467dd", func := "syllogist/syllogistkeep.KnowFive", spec := "knowFive", unfollowed := true, recurses := true, plainKeys := false, apart := false }
def KnowFiveSaid : Prop := knowFiveRow.holds Try.pinned (OpenSpec.ofChange knowFiveSpec)

/-- ITS FALSE NEIGHBOUR: 'it returns false'. Refute it at one input. -/
def knowFiveWrong : ChangeSpec := { name := "knowFive", fn := fun _ => fun
  | [d1, d2, d3, d4, d5] => { results := [.lit (.bool false)], args := [d1, d2, d3, d4, d5] }
  | _ => none }
def KnowFiveWrongFalsely : Prop := knowFiveRow.holds Try.pinned (OpenSpec.ofChange knowFiveWrong)

/-- 'syllogistkeep.KnowCommon': WHATEVER THE INPUT: true; the input reads as it did. -/
def knowCommonSpec : ChangeSpec := { name := "knowCommon", fn := fun _ => fun
  | [d1, d2, d3, d4] => { results := [.lit (.bool true)], args := [d1, d2, d3, d4] }
  | _ => none }
def knowCommonRow : OpenClaim := { program := "ytodkpojmonikiaa", sum := "ee32583b11124a3d7d25bcb53560f27baa7207e181f894e4f563d2775eb467dd", func := "syllogist/syllogistkeep.KnowCommon", spec := "knowCommon", unfollowed := true, recurses := true, plainKeys := false, apart := false }
def KnowCommonSaid : Prop := knowCommonRow.holds Try.pinned (OpenSpec.ofChange knowCommonSpec)

/-- ITS FALSE NEIGHBOUR: 'it returns false'. Refute it at one input. -/
def knowCommonWrong : ChangeSpec := { name := "knowCommon", fn := fun _ => fun
  | [d1, d2, d3, d4] => { results := [.lit (.bool false)], args := [d1, d2, d3, d4] }
  | _ => none }
def KnowCommonWrongFalsely : Prop := knowCommonRow.holds Try.pinned (OpenSpec.ofChange knowCommonWrong)

/-- 'syllogistkeep.SumsBit': WHATEVER THE INPUT: true; the input reads as it did. -/
def sumsBitSpec : ChangeSpec := { name := "sumsBit", fn := fun _ => fun
  | [d1, d2, d3, d4] => { results := [.lit (.bool true)], args := [d1, d2, d3, d4] }
  | _ => none }
def sumsBitRow : OpenClaim := { program := "ytodkpojmonikiaa", sum := "ee32583b11124a3d7d25bcb53560f27baa7207e181f894e4f563d2775eb467dd", func := "syllogist/syllogistkeep.SumsBit", spec := "sumsBit", unfollowed := true, recurses := true, plainKeys := false, apart := false }
def SumsBitSaid : Prop := sumsBitRow.holds Try.pinned (OpenSpec.ofChange sumsBitSpec)

/-- ITS FALSE NEIGHBOUR: 'it returns false'. Refute it at one input. -/
def sumsBitWrong : ChangeSpec := { name := "sumsBit", fn := fun _ => fun
  | [d1, d2, d3, d4] => { results := [.lit (.bool false)], args := [d1, d2, d3, d4] }
  | _ => none }
def SumsBitWrongFalsely : Prop := sumsBitRow.holds Try.pinned (OpenSpec.ofChange sumsBitWrong)

/-- 'syllogistkeep.SumsGuard': WHATEVER THE INPUT: true; the input reads as it did. -/
def sumsGuardSpec : ChangeSpec := { name := "sumsGuard", fn := fun _ => fun
  | [d1, d2] => { results := [.lit (.bool true)], args := [d1, d2] }
  | _ => none }
def sumsGuardRow : OpenClaim := { program := "ytodkpojmonikiaa", sum := "ee32583b11124a3d7d25bcb53560f27baa7207e181f894e4f563d2775eb467dd", func := "syllogist/syllogistkeep.SumsGuard", spec := "sumsGuard", unfollowed := true, recurses := true, plainKeys := false, apart := false }
def SumsGuardSaid : Prop := sumsGuardRow.holds Try.pinned (OpenSpec.ofChange sumsGuardSpec)

/-- ITS FALSE NEIGHBOUR: 'it returns false'. Refute it at one input. -/
def sumsGuardWrong : ChangeSpec := { name := "sumsGuard", fn := fun _ => fun
  | [d1, d2] => { results := [.lit (.bool false)], args := [d1, d2] }
  | _ => none }
def SumsGuardWrongFalsely : Prop := sumsGuardRow.holds Try.pinned (OpenSpec.ofChange sumsGuardWrong)

/-- 'syllogistkeep.SumsMore': WHATEVER THE INPUT: true; the input reads as it did. -/
def sumsMoreSpec : ChangeSpec := { name := "sumsMore", fn := fun _ => fun
  | [d1, d2, d3] => { results := [.lit (.bool true)], args := [d1, d2, d3] }
  | _ => none }
def sumsMoreRow : OpenClaim := { program := "ytodkpojmonikiaa", sum := "ee32583b11124a3d7d25bcb53560f27baa7207e181f894e4f563d2775eb467dd", func := "syllogist/syllogistkeep.SumsMore", spec := "sumsMore", unfollowed := true, recurses := true, plainKeys := false, apart := false }
def SumsMoreSaid : Prop := sumsMoreRow.holds Try.pinned (OpenSpec.ofChange sumsMoreSpec)

/-- ITS FALSE NEIGHBOUR: 'it returns false'. Refute it at one input. -/
def sumsMoreWrong : ChangeSpec := { name := "sumsMore", fn := fun _ => fun
  | [d1, d2, d3] => { results := [.lit (.bool false)], args := [d1, d2, d3] }
  | _ => none }
def SumsMoreWrongFalsely : Prop := sumsMoreRow.holds Try.pinned (OpenSpec.ofChange sumsMoreWrong)

/-- 'syllogistkeep.VeilMore': WHATEVER THE INPUT: true; the input reads as it did. -/
def veilMoreSpec : ChangeSpec := { name := "veilMore", fn := fun _ => fun
  | [d1, d2, d3] => { results := [.lit (.bool true)], args := [d1, d2, d3] }
  | _ => none }
def veilMoreRow : OpenClaim := { program := "ytodkpojmonikiaa", sum := "ee32583b11124a3d7d25bcb53560f27baa7207e181f894e4f563d2775eb467dd", func := "syllogist/syllogistkeep.VeilMore", spec := "veilMore", unfollowed := true, recurses := true, plainKeys := false, apart := false }
def VeilMoreSaid : Prop := veilMoreRow.holds Try.pinned (OpenSpec.ofChange veilMoreSpec)

/-- ITS FALSE NEIGHBOUR: 'it returns false'. Refute it at one input. -/
def veilMoreWrong : ChangeSpec := { name := "veilMore", fn := fun _ => fun
  | [d1, d2, d3] => { results := [.lit (.bool false)], args := [d1, d2, d3] }
  | _ => none }
def VeilMoreWrongFalsely : Prop := veilMoreRow.holds Try.pinned (OpenSpec.ofChange veilMoreWrong)

/-- 'syllogistkeep.VeilPick': WHATEVER THE INPUT: true; the input reads as it did. -/
def veilPickSpec : ChangeSpec := { name := "veilPick", fn := fun _ => fun
  | [d1, d2, d3] => { results := [.lit (.bool true)], args := [d1, d2, d3] }
  | _ => none }
def veilPickRow : OpenClaim := { program := "ytodkpojmonikiaa", sum := "ee32583b11124a3d7d25bcb53560f27baa7207e181f894e4f563d2775eb467dd", func := "syllogist/syllogistkeep.VeilPick", spec := "veilPick", unfollowed := true, recurses := true, plainKeys := false, apart := false }
def VeilPickSaid : Prop := veilPickRow.holds Try.pinned (OpenSpec.ofChange veilPickSpec)

/-- ITS FALSE NEIGHBOUR: 'it returns false'. Refute it at one input. -/
def veilPickWrong : ChangeSpec := { name := "veilPick", fn := fun _ => fun
  | [d1, d2, d3] => { results := [.lit (.bool false)], args := [d1, d2, d3] }
  | _ => none }
def VeilPickWrongFalsely : Prop := veilPickRow.holds Try.pinned (OpenSpec.ofChange veilPickWrong)

/-- 'syllogistkeep.ShareHides': WHATEVER THE INPUT: true; the input reads as it did. -/
def shareHidesSpec : ChangeSpec := { name := "shareHides", fn := fun _ => fun
  | [d1, d2, d3, d4, d5, d6] => { results := [.lit (.bool true)], args := [d1, d2, d3, d4, d5, d6] }
  | _ => none }
def shareHidesRow : OpenClaim := { program := "ytodkpojmonikiaa", sum := "ee32583b11124a3d7d25bcb53560f27baa7207e181f894e4f563d2775eb467dd", func := "syllogist/syllogistkeep.ShareHides", spec := "shareHides", unfollowed := true, recurses := true, plainKeys := false, apart := false }
def ShareHidesSaid : Prop := shareHidesRow.holds Try.pinned (OpenSpec.ofChange shareHidesSpec)

/-- ITS FALSE NEIGHBOUR: 'it returns false'. Refute it at one input. -/
def shareHidesWrong : ChangeSpec := { name := "shareHides", fn := fun _ => fun
  | [d1, d2, d3, d4, d5, d6] => { results := [.lit (.bool false)], args := [d1, d2, d3, d4, d5, d6] }
  | _ => none }
def ShareHidesWrongFalsely : Prop := shareHidesRow.holds Try.pinned (OpenSpec.ofChange shareHidesWrong)

/-- 'syllogistkeep.ShareBack': WHATEVER THE INPUT: true; the input reads as it did. -/
def shareBackSpec : ChangeSpec := { name := "shareBack", fn := fun _ => fun
  | [d1, d2, d3, d4, d5] => { results := [.lit (.bool true)], args := [d1, d2, d3, d4, d5] }
  | _ => none }
def shareBackRow : OpenClaim := { program := "ytodkpojmonikiaa", sum := "ee32583b11124a3d7d25bcb53560f27baa7207e181f894e4f563d2775eb467dd", func := "syllogist/syllogistkeep.ShareBack", spec := "shareBack", unfollowed := true, recurses := true, plainKeys := false, apart := false }
def ShareBackSaid : Prop := shareBackRow.holds Try.pinned (OpenSpec.ofChange shareBackSpec)

/-- ITS FALSE NEIGHBOUR: 'it returns false'. Refute it at one input. -/
def shareBackWrong : ChangeSpec := { name := "shareBack", fn := fun _ => fun
  | [d1, d2, d3, d4, d5] => { results := [.lit (.bool false)], args := [d1, d2, d3, d4, d5] }
  | _ => none }
def ShareBackWrongFalsely : Prop := shareBackRow.holds Try.pinned (OpenSpec.ofChange shareBackWrong)

/-- 'syllogistkeep.ViewNobody': WHATEVER THE INPUT: true; the input reads as it did. -/
def viewNobodySpec : ChangeSpec := { name := "viewNobody", fn := fun _ => fun
  | [d] => { results := [.lit (.bool true)], args := [d] }
  | _ => none }
def viewNobodyRow : OpenClaim := { program := "ytodkpojmonikiaa", sum := "ee32583b11124a3d7d25bcb53560f27baa7207e181f894e4f563d2775eb467dd", func := "syllogist/syllogistkeep.ViewNobody", spec := "viewNobody", unfollowed := true, recurses := true, plainKeys := false, apart := false }
def ViewNobodySaid : Prop := viewNobodyRow.holds Try.pinned (OpenSpec.ofChange viewNobodySpec)

/-- ITS FALSE NEIGHBOUR: 'it returns false'. Refute it at one input. -/
def viewNobodyWrong : ChangeSpec := { name := "viewNobody", fn := fun _ => fun
  | [d] => { results := [.lit (.bool false)], args := [d] }
  | _ => none }
def ViewNobodyWrongFalsely : Prop := viewNobodyRow.holds Try.pinned (OpenSpec.ofChange viewNobodyWrong)

/-- 'syllogistkeep.ViewPurge': WHATEVER THE INPUT: true; the input reads as it did. -/
def viewPurgeSpec : ChangeSpec := { name := "viewPurge", fn := fun _ => fun
  | [d1, d2, d3] => { results := [.lit (.bool true)], args := [d1, d2, d3] }
  | _ => none }
def viewPurgeRow : OpenClaim := { program := "ytodkpojmonikiaa", sum := "ee32583b11124a3d7d25bcb53560f27baa7207e181f894e4f563d2775eb467dd", func := "syllogist/syllogistkeep.ViewPurge", spec := "viewPurge", unfollowed := true, recurses := true, plainKeys := false, apart := false }
def ViewPurgeSaid : Prop := viewPurgeRow.holds Try.pinned (OpenSpec.ofChange viewPurgeSpec)

/-- ITS FALSE NEIGHBOUR: 'it returns false'. Refute it at one input. -/
def viewPurgeWrong : ChangeSpec := { name := "viewPurge", fn := fun _ => fun
  | [d1, d2, d3] => { results := [.lit (.bool false)], args := [d1, d2, d3] }
  | _ => none }
def ViewPurgeWrongFalsely : Prop := viewPurgeRow.holds Try.pinned (OpenSpec.ofChange viewPurgeWrong)

/- THE SECOND FORM. 'bulk': how many values and letters a reading holds, each counted each time it is reached (what is shared counts as often as it is met; a slice's spare places count too). A statement '..UptoSaid' is the law's where the arguments, and the package variables that the reading takes, are together of bulk at most 1048576: NARROWER than '..Said'. Prove '..Said' where nothing that the law and all that it calls make is longer than what came in: it says more and counts as full. Else prove '..UptoSaid'. A law counts once. -/
mutual
def uptoBulk {H : Type} : DataW H → Nat
  | .lit (.string bytes) => bytes.length + 1
  | .lit _ => 1
  | .nil => 1
  | .ptr d => uptoBulk d + 1
  | .slice elems spare => uptoBulkAll elems + uptoBulkAll spare + 1
  | .agg parts => uptoBulkAll parts + 1
  | .iface _ d => uptoBulk d + 1
  | .map entries => uptoBulkEntries entries + 1
  | .held _ => 1
def uptoBulkAll {H : Type} : List (DataW H) → Nat
  | [] => 0
  | d :: r => uptoBulk d + uptoBulkAll r
def uptoBulkEntries {H : Type} : List (Lit × DataW H) → Nat
  | [] => 0
  | x :: r => uptoBulkEntry x + uptoBulkEntries r
def uptoBulkEntry {H : Type} : Lit × DataW H → Nat
  | (.string bytes, d) => bytes.length + uptoBulk d + 1
  | (_, d) => uptoBulk d + 1
 end
def uptoSmall : (H : Type) → List (DataW H) → Bool := fun _ ds => decide (uptoBulkAll ds ≤ 1048576)
def OpenSpec.upto (s : _root_.Go.ChangeSpec) : _root_.Go.OpenSpec := { _root_.Go.OpenSpec.ofChange s with cond := some uptoSmall }

/-- 'syllogistkeep.KnowAgree', WHERE WHAT IT READS IS OF BULK AT MOST 1048576: true; the input reads as it did. -/
def knowAgreeUptoRow : OpenClaim := { program := "ytodkpojmonikiaa", sum := "ee32583b11124a3d7d25bcb53560f27baa7207e181f894e4f563d2775eb467dd", func := "syllogist/syllogistkeep.KnowAgree", spec := "knowAgree", unfollowed := true, recurses := true, plainKeys := false, apart := false, narrowed := true }
def KnowAgreeUptoSaid : Prop := knowAgreeUptoRow.holds Try.pinned (OpenSpec.upto knowAgreeSpec)

/-- 'syllogistkeep.KnowFive', WHERE WHAT IT READS IS OF BULK AT MOST 1048576: true; the input reads as it did. -/
def knowFiveUptoRow : OpenClaim := { program := "ytodkpojmonikiaa", sum := "ee32583b11124a3d7d25bcb53560f27baa7207e181f894e4f563d2775eb467dd", func := "syllogist/syllogistkeep.KnowFive", spec := "knowFive", unfollowed := true, recurses := true, plainKeys := false, apart := false, narrowed := true }
def KnowFiveUptoSaid : Prop := knowFiveUptoRow.holds Try.pinned (OpenSpec.upto knowFiveSpec)

/-- 'syllogistkeep.KnowCommon', WHERE WHAT IT READS IS OF BULK AT MOST 1048576: true; the input reads as it did. -/
def knowCommonUptoRow : OpenClaim := { program := "ytodkpojmonikiaa", sum := "ee32583b11124a3d7d25bcb53560f27baa7207e181f894e4f563d2775eb467dd", func := "syllogist/syllogistkeep.KnowCommon", spec := "knowCommon", unfollowed := true, recurses := true, plainKeys := false, apart := false, narrowed := true }
def KnowCommonUptoSaid : Prop := knowCommonUptoRow.holds Try.pinned (OpenSpec.upto knowCommonSpec)

/-- 'syllogistkeep.SumsBit', WHERE WHAT IT READS IS OF BULK AT MOST 1048576: true; the input reads as it did. -/
def sumsBitUptoRow : OpenClaim := { program := "ytodkpojmonikiaa", sum := "ee32583b11124a3d7d25bcb53560f27baa7207e181f894e4f563d2775eb467dd", func := "syllogist/syllogistkeep.SumsBit", spec := "sumsBit", unfollowed := true, recurses := true, plainKeys := false, apart := false, narrowed := true }
def SumsBitUptoSaid : Prop := sumsBitUptoRow.holds Try.pinned (OpenSpec.upto sumsBitSpec)

/-- 'syllogistkeep.SumsGuard', WHERE WHAT IT READS IS OF BULK AT MOST 1048576: true; the input reads as it did. -/
def sumsGuardUptoRow : OpenClaim := { program := "ytodkpojmonikiaa", sum := "ee32583b11124a3d7d25bcb53560f27baa7207e181f894e4f563d2775eb467dd", func := "syllogist/syllogistkeep.SumsGuard", spec := "sumsGuard", unfollowed := true, recurses := true, plainKeys := false, apart := false, narrowed := true }
def SumsGuardUptoSaid : Prop := sumsGuardUptoRow.holds Try.pinned (OpenSpec.upto sumsGuardSpec)

/-- 'syllogistkeep.SumsMore', WHERE WHAT IT READS IS OF BULK AT MOST 1048576: true; the input reads as it did. -/
def sumsMoreUptoRow : OpenClaim := { program := "ytodkpojmonikiaa", sum := "ee32583b11124a3d7d25bcb53560f27baa7207e181f894e4f563d2775eb467dd", func := "syllogist/syllogistkeep.SumsMore", spec := "sumsMore", unfollowed := true, recurses := true, plainKeys := false, apart := false, narrowed := true }
def SumsMoreUptoSaid : Prop := sumsMoreUptoRow.holds Try.pinned (OpenSpec.upto sumsMoreSpec)

/-- 'syllogistkeep.VeilMore', WHERE WHAT IT READS IS OF BULK AT MOST 1048576: true; the input reads as it did. -/
def veilMoreUptoRow : OpenClaim := { program := "ytodkpojmonikiaa", sum := "ee32583b11124a3d7d25bcb53560f27baa7207e181f894e4f563d2775eb467dd", func := "syllogist/syllogistkeep.VeilMore", spec := "veilMore", unfollowed := true, recurses := true, plainKeys := false, apart := false, narrowed := true }
def VeilMoreUptoSaid : Prop := veilMoreUptoRow.holds Try.pinned (OpenSpec.upto veilMoreSpec)

/-- 'syllogistkeep.VeilPick', WHERE WHAT IT READS IS OF BULK AT MOST 1048576: true; the input reads as it did. -/
def veilPickUptoRow : OpenClaim := { program := "ytodkpojmonikiaa", sum := "ee32583b11124a3d7d25bcb53560f27baa7207e181f894e4f563d2775eb467dd", func := "syllogist/syllogistkeep.VeilPick", spec := "veilPick", unfollowed := true, recurses := true, plainKeys := false, apart := false, narrowed := true }
def VeilPickUptoSaid : Prop := veilPickUptoRow.holds Try.pinned (OpenSpec.upto veilPickSpec)

/-- 'syllogistkeep.ShareHides', WHERE WHAT IT READS IS OF BULK AT MOST 1048576: true; the input reads as it did. -/
def shareHidesUptoRow : OpenClaim := { program := "ytodkpojmonikiaa", sum := "ee32583b11124a3d7d25bcb53560f27baa7207e181f894e4f563d2775eb467dd", func := "syllogist/syllogistkeep.ShareHides", spec := "shareHides", unfollowed := true, recurses := true, plainKeys := false, apart := false, narrowed := true }
def ShareHidesUptoSaid : Prop := shareHidesUptoRow.holds Try.pinned (OpenSpec.upto shareHidesSpec)

/-- 'syllogistkeep.ShareBack', WHERE WHAT IT READS IS OF BULK AT MOST 1048576: true; the input reads as it did. -/
def shareBackUptoRow : OpenClaim := { program := "ytodkpojmonikiaa", sum := "ee32583b11124a3d7d25bcb53560f27baa7207e181f894e4f563d2775eb467dd", func := "syllogist/syllogistkeep.ShareBack", spec := "shareBack", unfollowed := true, recurses := true, plainKeys := false, apart := false, narrowed := true }
def ShareBackUptoSaid : Prop := shareBackUptoRow.holds Try.pinned (OpenSpec.upto shareBackSpec)

/-- 'syllogistkeep.ViewNobody', WHERE WHAT IT READS IS OF BULK AT MOST 1048576: true; the input reads as it did. -/
def viewNobodyUptoRow : OpenClaim := { program := "ytodkpojmonikiaa", sum := "ee32583b11124a3d7d25bcb53560f27baa7207e181f894e4f563d2775eb467dd", func := "syllogist/syllogistkeep.ViewNobody", spec := "viewNobody", unfollowed := true, recurses := true, plainKeys := false, apart := false, narrowed := true }
def ViewNobodyUptoSaid : Prop := viewNobodyUptoRow.holds Try.pinned (OpenSpec.upto viewNobodySpec)

/-- 'syllogistkeep.ViewPurge', WHERE WHAT IT READS IS OF BULK AT MOST 1048576: true; the input reads as it did. -/
def viewPurgeUptoRow : OpenClaim := { program := "ytodkpojmonikiaa", sum := "ee32583b11124a3d7d25bcb53560f27baa7207e181f894e4f563d2775eb467dd", func := "syllogist/syllogistkeep.ViewPurge", spec := "viewPurge", unfollowed := true, recurses := true, plainKeys := false, apart := false, narrowed := true }
def ViewPurgeUptoSaid : Prop := viewPurgeUptoRow.holds Try.pinned (OpenSpec.upto viewPurgeSpec)

end Rows
end Go.Proofs.Ytodkpojmonikiaa
