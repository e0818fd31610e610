/-
  No cell of these rows narrows 'for every input' (looked for: loops, veiled, ifaces, maps, wideKeys, modest, calm, conditions, laid).
  DERIVED. THE GIVEN ROWS OF THIS SEAT. 10 by the template 'for every input the law returns true; each argument reads behind the call as it read before'; 0 by the template 'total and deterministic' (their statements: YtjcooagchjjknaaTotals.lean).
  GIVEN WITH THE SEED: the statements are not yours to turn. If you find one false, say at which input.
  Laid BY PROGRAM, IN A SANDBOX (cutbox-rows.mjs): the forced cells as the released guide's own fill.sh prints them over the translation 8ae126869c6501fa… (all of the seat's roots in one cut). By AI agents, Wed Nov 11 2026. No macro, syntax, notation, axiom, sorry.
-/
import Derived.Test.YtjcooagchjjknaaChecked
import GoSem.Claim
import GoSem.ClaimJoined
import GoSem.ClaimMapViews
import Derived.JoinedTies
import Derived.KernelRfl
namespace Go.Proofs.Ytjcooagchjjknaa
/- THE CELL 'sum', in the pinned program and in every row, IS THE sha256 OF THE DUMP (.gsa) THAT YtjcooagchjjknaaProg.lean LOADS. Nothing in Lean hashes anything: it is a label: what it is worth is what the hold of that sum in a sandbox is worth. -/
noncomputable def Try.pinned : Pinned := { name := "ytjcooagchjjknaa", sum := "8ae126869c6501fa187610f00958414ce2f9636f1b42cc69b99e5244a260ead4", checked := Try.checked }
namespace Rows
def none {H : Type} : Left H := { results := [], args := [] }

/-- 'syllogistkeep.PageTwice': WHATEVER THE INPUT: true; the input reads as it did. -/
def pageTwiceSpec : ChangeSpec := { name := "pageTwice", fn := fun _ => fun
  | [d1, d2, d3] => { results := [.lit (.bool true)], args := [d1, d2, d3] }
  | _ => none }
def pageTwiceRow : OpenClaim := { program := "ytjcooagchjjknaa", sum := "8ae126869c6501fa187610f00958414ce2f9636f1b42cc69b99e5244a260ead4", func := "syllogist/syllogistkeep.PageTwice", spec := "pageTwice", plainKeys := false, apart := false }
def PageTwiceSaid : Prop := pageTwiceRow.holds Try.pinned (OpenSpec.ofChange pageTwiceSpec)

/-- ITS FALSE NEIGHBOUR: 'it returns false'. Refute it at one input. -/
def pageTwiceWrong : ChangeSpec := { name := "pageTwice", fn := fun _ => fun
  | [d1, d2, d3] => { results := [.lit (.bool false)], args := [d1, d2, d3] }
  | _ => none }
def PageTwiceWrongFalsely : Prop := pageTwiceRow.holds Try.pinned (OpenSpec.ofChange pageTwiceWrong)

/-- 'syllogistkeep.PageAll': WHATEVER THE INPUT: true; the input reads as it did. -/
def pageAllSpec : ChangeSpec := { name := "pageAll", fn := fun _ => fun
  | [d] => { results := [.lit (.bool true)], args := [d] }
  | _ => none }
def pageAllRow : OpenClaim := { program := "ytjcooagchjjknaa", sum := "8ae126869c6501fa187610f00958414ce2f9636f1b42cc69b99e5244a260ead4", func := "syllogist/syllogistkeep.PageAll", spec := "pageAll", plainKeys := false, apart := false }
def PageAllSaid : Prop := pageAllRow.holds Try.pinned (OpenSpec.ofChange pageAllSpec)

/-- ITS FALSE NEIGHBOUR: 'it returns false'. Refute it at one input. -/
def pageAllWrong : ChangeSpec := { name := "pageAll", fn := fun _ => fun
  | [d] => { results := [.lit (.bool false)], args := [d] }
  | _ => none }
def PageAllWrongFalsely : Prop := pageAllRow.holds Try.pinned (OpenSpec.ofChange pageAllWrong)

/-- 'syllogistkeep.PlaceView': WHATEVER THE INPUT: true; the input reads as it did. -/
def placeViewSpec : ChangeSpec := { name := "placeView", fn := fun _ => fun
  | [d1, d2, d3] => { results := [.lit (.bool true)], args := [d1, d2, d3] }
  | _ => none }
def placeViewRow : OpenClaim := { program := "ytjcooagchjjknaa", sum := "8ae126869c6501fa187610f00958414ce2f9636f1b42cc69b99e5244a260ead4", func := "syllogist/syllogistkeep.PlaceView", spec := "placeView", plainKeys := false, apart := false }
def PlaceViewSaid : Prop := placeViewRow.holds Try.pinned (OpenSpec.ofChange placeViewSpec)

/-- ITS FALSE NEIGHBOUR: 'it returns false'. Refute it at one input. -/
def placeViewWrong : ChangeSpec := { name := "placeView", fn := fun _ => fun
  | [d1, d2, d3] => { results := [.lit (.bool false)], args := [d1, d2, d3] }
  | _ => none }
def PlaceViewWrongFalsely : Prop := placeViewRow.holds Try.pinned (OpenSpec.ofChange placeViewWrong)

/-- 'syllogistkeep.PlaceBack': WHATEVER THE INPUT: true; the input reads as it did. -/
def placeBackSpec : ChangeSpec := { name := "placeBack", fn := fun _ => fun
  | [d1, d2, d3, d4] => { results := [.lit (.bool true)], args := [d1, d2, d3, d4] }
  | _ => none }
def placeBackRow : OpenClaim := { program := "ytjcooagchjjknaa", sum := "8ae126869c6501fa187610f00958414ce2f9636f1b42cc69b99e5244a260ead4", func := "syllogist/syllogistkeep.PlaceBack", spec := "placeBack", plainKeys := false, apart := false }
def PlaceBackSaid : Prop := placeBackRow.holds Try.pinned (OpenSpec.ofChange placeBackSpec)

/-- ITS FALSE NEIGHBOUR: 'it returns false'. Refute it at one input. -/
def placeBackWrong : ChangeSpec := { name := "placeBack", fn := fun _ => fun
  | [d1, d2, d3, d4] => { results := [.lit (.bool false)], args := [d1, d2, d3, d4] }
  | _ => none }
def PlaceBackWrongFalsely : Prop := placeBackRow.holds Try.pinned (OpenSpec.ofChange placeBackWrong)

/-- 'syllogistkeep.PenPage': WHATEVER THE INPUT: true; the input reads as it did. -/
def penPageSpec : ChangeSpec := { name := "penPage", fn := fun _ => fun
  | [d1, d2] => { results := [.lit (.bool true)], args := [d1, d2] }
  | _ => none }
def penPageRow : OpenClaim := { program := "ytjcooagchjjknaa", sum := "8ae126869c6501fa187610f00958414ce2f9636f1b42cc69b99e5244a260ead4", func := "syllogist/syllogistkeep.PenPage", spec := "penPage", inPlace := ["slices.overlaps[syllogist/api.Leaf]"], plainKeys := false, apart := false }
def PenPageSaid : Prop := penPageRow.holds Try.pinned (OpenSpec.ofChange penPageSpec)

/-- ITS FALSE NEIGHBOUR: 'it returns false'. Refute it at one input. -/
def penPageWrong : ChangeSpec := { name := "penPage", fn := fun _ => fun
  | [d1, d2] => { results := [.lit (.bool false)], args := [d1, d2] }
  | _ => none }
def PenPageWrongFalsely : Prop := penPageRow.holds Try.pinned (OpenSpec.ofChange penPageWrong)

/-- 'syllogistkeep.PenBack': WHATEVER THE INPUT: true; the input reads as it did. -/
def penBackSpec : ChangeSpec := { name := "penBack", fn := fun _ => fun
  | [d1, d2, d3, d4] => { results := [.lit (.bool true)], args := [d1, d2, d3, d4] }
  | _ => none }
def penBackRow : OpenClaim := { program := "ytjcooagchjjknaa", sum := "8ae126869c6501fa187610f00958414ce2f9636f1b42cc69b99e5244a260ead4", func := "syllogist/syllogistkeep.PenBack", spec := "penBack", inPlace := ["slices.overlaps[syllogist/api.Leaf]"], plainKeys := false, apart := false }
def PenBackSaid : Prop := penBackRow.holds Try.pinned (OpenSpec.ofChange penBackSpec)

/-- ITS FALSE NEIGHBOUR: 'it returns false'. Refute it at one input. -/
def penBackWrong : ChangeSpec := { name := "penBack", fn := fun _ => fun
  | [d1, d2, d3, d4] => { results := [.lit (.bool false)], args := [d1, d2, d3, d4] }
  | _ => none }
def PenBackWrongFalsely : Prop := penBackRow.holds Try.pinned (OpenSpec.ofChange penBackWrong)

/-- 'syllogistkeep.PenView': WHATEVER THE INPUT: true; the input reads as it did. -/
def penViewSpec : ChangeSpec := { name := "penView", fn := fun _ => fun
  | [d1, d2, d3] => { results := [.lit (.bool true)], args := [d1, d2, d3] }
  | _ => none }
def penViewRow : OpenClaim := { program := "ytjcooagchjjknaa", sum := "8ae126869c6501fa187610f00958414ce2f9636f1b42cc69b99e5244a260ead4", func := "syllogist/syllogistkeep.PenView", spec := "penView", inPlace := ["slices.overlaps[syllogist/api.Leaf]"], plainKeys := false, apart := false }
def PenViewSaid : Prop := penViewRow.holds Try.pinned (OpenSpec.ofChange penViewSpec)

/-- ITS FALSE NEIGHBOUR: 'it returns false'. Refute it at one input. -/
def penViewWrong : ChangeSpec := { name := "penView", fn := fun _ => fun
  | [d1, d2, d3] => { results := [.lit (.bool false)], args := [d1, d2, d3] }
  | _ => none }
def PenViewWrongFalsely : Prop := penViewRow.holds Try.pinned (OpenSpec.ofChange penViewWrong)

/-- 'syllogisttop.TopPage': WHATEVER THE INPUT: true; the input reads as it did. -/
def topPageSpec : ChangeSpec := { name := "topPage", fn := fun _ => fun
  | [d] => { results := [.lit (.bool true)], args := [d] }
  | _ => none }
def topPageRow : OpenClaim := { program := "ytjcooagchjjknaa", sum := "8ae126869c6501fa187610f00958414ce2f9636f1b42cc69b99e5244a260ead4", func := "syllogist/syllogisttop.TopPage", spec := "topPage", inPlace := ["slices.overlaps[syllogist/api.Leaf]"], plainKeys := false, apart := false }
def TopPageSaid : Prop := topPageRow.holds Try.pinned (OpenSpec.ofChange topPageSpec)

/-- ITS FALSE NEIGHBOUR: 'it returns false'. Refute it at one input. -/
def topPageWrong : ChangeSpec := { name := "topPage", fn := fun _ => fun
  | [d] => { results := [.lit (.bool false)], args := [d] }
  | _ => none }
def TopPageWrongFalsely : Prop := topPageRow.holds Try.pinned (OpenSpec.ofChange topPageWrong)

/-- 'syllogisttop.TopStep': WHATEVER THE INPUT: true; the input reads as it did. -/
def topStepSpec : ChangeSpec := { name := "topStep", fn := fun _ => fun
  | [d1, d2] => { results := [.lit (.bool true)], args := [d1, d2] }
  | _ => none }
def topStepRow : OpenClaim := { program := "ytjcooagchjjknaa", sum := "8ae126869c6501fa187610f00958414ce2f9636f1b42cc69b99e5244a260ead4", func := "syllogist/syllogisttop.TopStep", spec := "topStep", inPlace := ["slices.overlaps[syllogist/api.Leaf]"], plainKeys := false, apart := false }
def TopStepSaid : Prop := topStepRow.holds Try.pinned (OpenSpec.ofChange topStepSpec)

/-- ITS FALSE NEIGHBOUR: 'it returns false'. Refute it at one input. -/
def topStepWrong : ChangeSpec := { name := "topStep", fn := fun _ => fun
  | [d1, d2] => { results := [.lit (.bool false)], args := [d1, d2] }
  | _ => none }
def TopStepWrongFalsely : Prop := topStepRow.holds Try.pinned (OpenSpec.ofChange topStepWrong)

/-- 'syllogistkeep.ViewUnwind': WHATEVER THE INPUT: true; the input reads as it did. -/
def viewUnwindSpec : ChangeSpec := { name := "viewUnwind", fn := fun _ => fun
  | [d1, d2] => { results := [.lit (.bool true)], args := [d1, d2] }
  | _ => none }
def viewUnwindRow : OpenClaim := { program := "ytjcooagchjjknaa", sum := "8ae126869c6501fa187610f00958414ce2f9636f1b42cc69b99e5244a260ead4", func := "syllogist/syllogistkeep.ViewUnwind", spec := "viewUnwind", unfollowed := true, recurses := true, plainKeys := false, apart := false }
def ViewUnwindSaid : Prop := viewUnwindRow.holds Try.pinned (OpenSpec.ofChange viewUnwindSpec)

/-- ITS FALSE NEIGHBOUR: 'it returns false'. Refute it at one input. -/
def viewUnwindWrong : ChangeSpec := { name := "viewUnwind", fn := fun _ => fun
  | [d1, d2] => { results := [.lit (.bool false)], args := [d1, d2] }
  | _ => none }
def ViewUnwindWrongFalsely : Prop := viewUnwindRow.holds Try.pinned (OpenSpec.ofChange viewUnwindWrong)

/- THE SECOND FORM. 'bulk': how many values and letters a reading holds, each counted each time it is reached (what is shared counts as often as it is met; a slice's spare places count too). A statement '..UptoSaid' is the law's where the arguments, and the package variables that the reading takes, are together of bulk at most 1048576: NARROWER than '..Said'. Prove '..Said' where nothing that the law and all that it calls make is longer than what came in: it says more and counts as full. Else prove '..UptoSaid'. A law counts once. -/
mutual
def uptoBulk {H : Type} : DataW H → Nat
  | .lit (.string bytes) => bytes.length + 1
  | .lit _ => 1
  | .nil => 1
  | .ptr d => uptoBulk d + 1
  | .slice elems spare => uptoBulkAll elems + uptoBulkAll spare + 1
  | .agg parts => uptoBulkAll parts + 1
  | .iface _ d => uptoBulk d + 1
  | .map entries => uptoBulkEntries entries + 1
  | .held _ => 1
def uptoBulkAll {H : Type} : List (DataW H) → Nat
  | [] => 0
  | d :: r => uptoBulk d + uptoBulkAll r
def uptoBulkEntries {H : Type} : List (Lit × DataW H) → Nat
  | [] => 0
  | x :: r => uptoBulkEntry x + uptoBulkEntries r
def uptoBulkEntry {H : Type} : Lit × DataW H → Nat
  | (.string bytes, d) => bytes.length + uptoBulk d + 1
  | (_, d) => uptoBulk d + 1
 end
def uptoSmall : (H : Type) → List (DataW H) → Bool := fun _ ds => decide (uptoBulkAll ds ≤ 1048576)
def OpenSpec.upto (s : _root_.Go.ChangeSpec) : _root_.Go.OpenSpec := { _root_.Go.OpenSpec.ofChange s with cond := some uptoSmall }

/-- 'syllogistkeep.PageTwice', WHERE WHAT IT READS IS OF BULK AT MOST 1048576: true; the input reads as it did. -/
def pageTwiceUptoRow : OpenClaim := { program := "ytjcooagchjjknaa", sum := "8ae126869c6501fa187610f00958414ce2f9636f1b42cc69b99e5244a260ead4", func := "syllogist/syllogistkeep.PageTwice", spec := "pageTwice", plainKeys := false, apart := false, narrowed := true }
def PageTwiceUptoSaid : Prop := pageTwiceUptoRow.holds Try.pinned (OpenSpec.upto pageTwiceSpec)

/-- 'syllogistkeep.PageAll', WHERE WHAT IT READS IS OF BULK AT MOST 1048576: true; the input reads as it did. -/
def pageAllUptoRow : OpenClaim := { program := "ytjcooagchjjknaa", sum := "8ae126869c6501fa187610f00958414ce2f9636f1b42cc69b99e5244a260ead4", func := "syllogist/syllogistkeep.PageAll", spec := "pageAll", plainKeys := false, apart := false, narrowed := true }
def PageAllUptoSaid : Prop := pageAllUptoRow.holds Try.pinned (OpenSpec.upto pageAllSpec)

/-- 'syllogistkeep.PlaceView', WHERE WHAT IT READS IS OF BULK AT MOST 1048576: true; the input reads as it did. -/
def placeViewUptoRow : OpenClaim := { program := "ytjcooagchjjknaa", sum := "8ae126869c6501fa187610f00958414ce2f9636f1b42cc69b99e5244a260ead4", func := "syllogist/syllogistkeep.PlaceView", spec := "placeView", plainKeys := false, apart := false, narrowed := true }
def PlaceViewUptoSaid : Prop := placeViewUptoRow.holds Try.pinned (OpenSpec.upto placeViewSpec)

/-- 'syllogistkeep.PlaceBack', WHERE WHAT IT READS IS OF BULK AT MOST 1048576: true; the input reads as it did. -/
def placeBackUptoRow : OpenClaim := { program := "ytjcooagchjjknaa", sum := "8ae126869c6501fa187610f00958414ce2f9636f1b42cc69b99e5244a260ead4", func := "syllogist/syllogistkeep.PlaceBack", spec := "placeBack", plainKeys := false, apart := false, narrowed := true }
def PlaceBackUptoSaid : Prop := placeBackUptoRow.holds Try.pinned (OpenSpec.upto placeBackSpec)

/-- 'syllogistkeep.PenPage', WHERE WHAT IT READS IS OF BULK AT MOST 1048576: true; the input reads as it did. -/
def penPageUptoRow : OpenClaim := { program := "ytjcooagchjjknaa", sum := "8ae126869c6501fa187610f00958414ce2f9636f1b42cc69b99e5244a260ead4", func := "syllogist/syllogistkeep.PenPage", spec := "penPage", inPlace := ["slices.overlaps[syllogist/api.Leaf]"], plainKeys := false, apart := false, narrowed := true }
def PenPageUptoSaid : Prop := penPageUptoRow.holds Try.pinned (OpenSpec.upto penPageSpec)

/-- 'syllogistkeep.PenBack', WHERE WHAT IT READS IS OF BULK AT MOST 1048576: true; the input reads as it did. -/
def penBackUptoRow : OpenClaim := { program := "ytjcooagchjjknaa", sum := "8ae126869c6501fa187610f00958414ce2f9636f1b42cc69b99e5244a260ead4", func := "syllogist/syllogistkeep.PenBack", spec := "penBack", inPlace := ["slices.overlaps[syllogist/api.Leaf]"], plainKeys := false, apart := false, narrowed := true }
def PenBackUptoSaid : Prop := penBackUptoRow.holds Try.pinned (OpenSpec.upto penBackSpec)

/-- 'syllogistkeep.PenView', WHERE WHAT IT READS IS OF BULK AT MOST 1048576: true; the input reads as it did. -/
def penViewUptoRow : OpenClaim := { program := "ytjcooagchjjknaa", sum := "8ae126869c6501fa187610f00958414ce2f9636f1b42cc69b99e5244a260ead4", func := "syllogist/syllogistkeep.PenView", spec := "penView", inPlace := ["slices.overlaps[syllogist/api.Leaf]"], plainKeys := false, apart := false, narrowed := true }
def PenViewUptoSaid : Prop := penViewUptoRow.holds Try.pinned (OpenSpec.upto penViewSpec)

/-- 'syllogisttop.TopPage', WHERE WHAT IT READS IS OF BULK AT MOST 1048576: true; the input reads as it did. -/
def topPageUptoRow : OpenClaim := { program := "ytjcooagchjjknaa", sum := "8ae126869c6501fa187610f00958414ce2f9636f1b42cc69b99e5244a260ead4", func := "syllogist/syllogisttop.TopPage", spec := "topPage", inPlace := ["slices.overlaps[syllogist/api.Leaf]"], plainKeys := false, apart := false, narrowed := true }
def TopPageUptoSaid : Prop := topPageUptoRow.holds Try.pinned (OpenSpec.upto topPageSpec)

/-- 'syllogisttop.TopStep', WHERE WHAT IT READS IS OF BULK AT MOST 1048576: true; the input reads as it did. -/
def topStepUptoRow : OpenClaim := { program := "ytjcooagchjjknaa", sum := "8ae126869c6501fa187610f00958414ce2f9636f1b42cc69b99e5244a260ead4", func := "syllogist/syllogisttop.TopStep", spec := "topStep", inPlace := ["slices.overlaps[syllogist/api.Leaf]"], plainKeys := false, apart := false, narrowed := true }
def TopStepUptoSaid : Prop := topStepUptoRow.holds Try.pinned (OpenSpec.upto topStepSpec)

/-- 'syllogistkeep.ViewUnwind', WHERE WHAT IT READS IS OF BULK AT MOST 1048576: true; the input reads as it did. -/
def viewUnwindUptoRow : OpenClaim := { program := "ytjcooagchjjknaa", sum := "8ae126869c6501fa187610f00958414ce2f9636f1b42cc69b99e5244a260ead4", func := "syllogist/syllogistkeep.ViewUnwind", spec := "viewUnwind", unfollowed := true, recurses := true, plainKeys := false, apart := false, narrowed := true }
def ViewUnwindUptoSaid : Prop := viewUnwindUptoRow.holds Try.pinned (OpenSpec.upto viewUnwindSpec)

end Rows
end Go.Proofs.Ytjcooagchjjknaa
