/-
  No cell of these rows narrows 'for every input' (looked for: loops, veiled, ifaces, maps, wideKeys, modest, calm, conditions, laid).
  DERIVED. THE GIVEN ROWS OF THIS SEAT. 12 by the template 'for every input the law returns true; each argument reads behind the call as it read before'; 0 by the template 'total and deterministic' (their statements: YtgcpomdlajoifaaTotals.lean).
  GIVEN WITH THE SEED: the statements are not yours to turn. If you find one false, say at which input.
  Laid BY PROGRAM, IN A SANDBOX (cutbox-rows.mjs): the forced cells as the released guide's own fill.sh prints them over the translation cc9ca476fe324ae2… (all of the seat's roots in one cut). By AI agents, Wed Nov 11 2026. No macro, syntax, notation, axiom, sorry.
-/
import Derived.Test.YtgcpomdlajoifaaChecked
import GoSem.Claim
import GoSem.ClaimJoined
import GoSem.ClaimMapViews
import Derived.JoinedTies
import Derived.KernelRfl
namespace Go.Proofs.Ytgcpomdlajoifaa
/- THE CELL 'sum', in the pinned program and in every row, IS THE sha256 OF THE DUMP (.gsa) THAT YtgcpomdlajoifaaProg.lean LOADS. Nothing in Lean hashes anything: it is a label: what it is worth is what the hold of that sum in a sandbox is worth. -/
noncomputable def Try.pinned : Pinned := { name := "ytgcpomdlajoifaa", sum := "cc9ca476fe324ae21d1e6d713ec62940770c13d745599fb8534ee9dda49a0d6d", checked := Try.checked }
namespace Rows
def none {H : Type} : Left H := { results := [], args := [] }

/-- 'syllogistkeep.OrderTable': WHATEVER THE INPUT: true; the input reads as it did. -/
def orderTableSpec : ChangeSpec := { name := "orderTable", fn := fun _ => fun
  | [d1, d2] => { results := [.lit (.bool true)], args := [d1, d2] }
  | _ => none }
def orderTableRow : OpenClaim := { program := "ytgcpomdlajoifaa", sum := "cc9ca476fe324ae21d1e6d713ec62940770c13d745599fb8534ee9dda49a0d6d", func := "syllogist/syllogistkeep.OrderTable", spec := "orderTable", apart := false }
def OrderTableSaid : Prop := orderTableRow.holds Try.pinned (OpenSpec.ofChange orderTableSpec)

/-- ITS FALSE NEIGHBOUR: 'it returns false'. Refute it at one input. -/
def orderTableWrong : ChangeSpec := { name := "orderTable", fn := fun _ => fun
  | [d1, d2] => { results := [.lit (.bool false)], args := [d1, d2] }
  | _ => none }
def OrderTableWrongFalsely : Prop := orderTableRow.holds Try.pinned (OpenSpec.ofChange orderTableWrong)

/-- 'syllogistkeep.OrderLine': WHATEVER THE INPUT: true; the input reads as it did. -/
def orderLineSpec : ChangeSpec := { name := "orderLine", fn := fun _ => fun
  | [d1, d2] => { results := [.lit (.bool true)], args := [d1, d2] }
  | _ => none }
def orderLineRow : OpenClaim := { program := "ytgcpomdlajoifaa", sum := "cc9ca476fe324ae21d1e6d713ec62940770c13d745599fb8534ee9dda49a0d6d", func := "syllogist/syllogistkeep.OrderLine", spec := "orderLine", apart := false }
def OrderLineSaid : Prop := orderLineRow.holds Try.pinned (OpenSpec.ofChange orderLineSpec)

/-- ITS FALSE NEIGHBOUR: 'it returns false'. Refute it at one input. -/
def orderLineWrong : ChangeSpec := { name := "orderLine", fn := fun _ => fun
  | [d1, d2] => { results := [.lit (.bool false)], args := [d1, d2] }
  | _ => none }
def OrderLineWrongFalsely : Prop := orderLineRow.holds Try.pinned (OpenSpec.ofChange orderLineWrong)

/-- 'syllogistkeep.OrderCover': WHATEVER THE INPUT: true; the input reads as it did. -/
def orderCoverSpec : ChangeSpec := { name := "orderCover", fn := fun _ => fun
  | [d1, d2] => { results := [.lit (.bool true)], args := [d1, d2] }
  | _ => none }
def orderCoverRow : OpenClaim := { program := "ytgcpomdlajoifaa", sum := "cc9ca476fe324ae21d1e6d713ec62940770c13d745599fb8534ee9dda49a0d6d", func := "syllogist/syllogistkeep.OrderCover", spec := "orderCover", apart := false }
def OrderCoverSaid : Prop := orderCoverRow.holds Try.pinned (OpenSpec.ofChange orderCoverSpec)

/-- ITS FALSE NEIGHBOUR: 'it returns false'. Refute it at one input. -/
def orderCoverWrong : ChangeSpec := { name := "orderCover", fn := fun _ => fun
  | [d1, d2] => { results := [.lit (.bool false)], args := [d1, d2] }
  | _ => none }
def OrderCoverWrongFalsely : Prop := orderCoverRow.holds Try.pinned (OpenSpec.ofChange orderCoverWrong)

/-- 'syllogistkeep.OrderLong': WHATEVER THE INPUT: true; the input reads as it did. -/
def orderLongSpec : ChangeSpec := { name := "orderLong", fn := fun _ => fun
  | [d1, d2] => { results := [.lit (.bool true)], args := [d1, d2] }
  | _ => none }
def orderLongRow : OpenClaim := { program := "ytgcpomdlajoifaa", sum := "cc9ca476fe324ae21d1e6d713ec62940770c13d745599fb8534ee9dda49a0d6d", func := "syllogist/syllogistkeep.OrderLong", spec := "orderLong", unfollowed := true, recurses := true, apart := false }
def OrderLongSaid : Prop := orderLongRow.holds Try.pinned (OpenSpec.ofChange orderLongSpec)

/-- ITS FALSE NEIGHBOUR: 'it returns false'. Refute it at one input. -/
def orderLongWrong : ChangeSpec := { name := "orderLong", fn := fun _ => fun
  | [d1, d2] => { results := [.lit (.bool false)], args := [d1, d2] }
  | _ => none }
def OrderLongWrongFalsely : Prop := orderLongRow.holds Try.pinned (OpenSpec.ofChange orderLongWrong)

/-- 'syllogistkeep.OrderDilworth': WHATEVER THE INPUT: true; the input reads as it did. -/
def orderDilworthSpec : ChangeSpec := { name := "orderDilworth", fn := fun _ => fun
  | [d1, d2] => { results := [.lit (.bool true)], args := [d1, d2] }
  | _ => none }
def orderDilworthRow : OpenClaim := { program := "ytgcpomdlajoifaa", sum := "cc9ca476fe324ae21d1e6d713ec62940770c13d745599fb8534ee9dda49a0d6d", func := "syllogist/syllogistkeep.OrderDilworth", spec := "orderDilworth", recurses := true, apart := false }
def OrderDilworthSaid : Prop := orderDilworthRow.holds Try.pinned (OpenSpec.ofChange orderDilworthSpec)

/-- ITS FALSE NEIGHBOUR: 'it returns false'. Refute it at one input. -/
def orderDilworthWrong : ChangeSpec := { name := "orderDilworth", fn := fun _ => fun
  | [d1, d2] => { results := [.lit (.bool false)], args := [d1, d2] }
  | _ => none }
def OrderDilworthWrongFalsely : Prop := orderDilworthRow.holds Try.pinned (OpenSpec.ofChange orderDilworthWrong)

/-- 'syllogistkeep.DownsMany': WHATEVER THE INPUT: true; the input reads as it did. -/
def downsManySpec : ChangeSpec := { name := "downsMany", fn := fun _ => fun
  | [d1, d2] => { results := [.lit (.bool true)], args := [d1, d2] }
  | _ => none }
def downsManyRow : OpenClaim := { program := "ytgcpomdlajoifaa", sum := "cc9ca476fe324ae21d1e6d713ec62940770c13d745599fb8534ee9dda49a0d6d", func := "syllogist/syllogistkeep.DownsMany", spec := "downsMany", apart := false }
def DownsManySaid : Prop := downsManyRow.holds Try.pinned (OpenSpec.ofChange downsManySpec)

/-- ITS FALSE NEIGHBOUR: 'it returns false'. Refute it at one input. -/
def downsManyWrong : ChangeSpec := { name := "downsMany", fn := fun _ => fun
  | [d1, d2] => { results := [.lit (.bool false)], args := [d1, d2] }
  | _ => none }
def DownsManyWrongFalsely : Prop := downsManyRow.holds Try.pinned (OpenSpec.ofChange downsManyWrong)

/-- 'syllogistkeep.DownsEdge': WHATEVER THE INPUT: true; the input reads as it did. -/
def downsEdgeSpec : ChangeSpec := { name := "downsEdge", fn := fun _ => fun
  | [d1, d2, d3] => { results := [.lit (.bool true)], args := [d1, d2, d3] }
  | _ => none }
def downsEdgeRow : OpenClaim := { program := "ytgcpomdlajoifaa", sum := "cc9ca476fe324ae21d1e6d713ec62940770c13d745599fb8534ee9dda49a0d6d", func := "syllogist/syllogistkeep.DownsEdge", spec := "downsEdge", apart := false }
def DownsEdgeSaid : Prop := downsEdgeRow.holds Try.pinned (OpenSpec.ofChange downsEdgeSpec)

/-- ITS FALSE NEIGHBOUR: 'it returns false'. Refute it at one input. -/
def downsEdgeWrong : ChangeSpec := { name := "downsEdge", fn := fun _ => fun
  | [d1, d2, d3] => { results := [.lit (.bool false)], args := [d1, d2, d3] }
  | _ => none }
def DownsEdgeWrongFalsely : Prop := downsEdgeRow.holds Try.pinned (OpenSpec.ofChange downsEdgeWrong)

/-- 'syllogistkeep.LatticeLaws': WHATEVER THE INPUT: true; the input reads as it did. -/
def latticeLawsSpec : ChangeSpec := { name := "latticeLaws", fn := fun _ => fun
  | [d1, d2, d3, d4] => { results := [.lit (.bool true)], args := [d1, d2, d3, d4] }
  | _ => none }
def latticeLawsRow : OpenClaim := { program := "ytgcpomdlajoifaa", sum := "cc9ca476fe324ae21d1e6d713ec62940770c13d745599fb8534ee9dda49a0d6d", func := "syllogist/syllogistkeep.LatticeLaws", spec := "latticeLaws", unfollowed := true, recurses := true, apart := false }
def LatticeLawsSaid : Prop := latticeLawsRow.holds Try.pinned (OpenSpec.ofChange latticeLawsSpec)

/-- ITS FALSE NEIGHBOUR: 'it returns false'. Refute it at one input. -/
def latticeLawsWrong : ChangeSpec := { name := "latticeLaws", fn := fun _ => fun
  | [d1, d2, d3, d4] => { results := [.lit (.bool false)], args := [d1, d2, d3, d4] }
  | _ => none }
def LatticeLawsWrongFalsely : Prop := latticeLawsRow.holds Try.pinned (OpenSpec.ofChange latticeLawsWrong)

/-- 'syllogistkeep.LatticeModular': WHATEVER THE INPUT: true; the input reads as it did. -/
def latticeModularSpec : ChangeSpec := { name := "latticeModular", fn := fun _ => fun
  | [d1, d2] => { results := [.lit (.bool true)], args := [d1, d2] }
  | _ => none }
def latticeModularRow : OpenClaim := { program := "ytgcpomdlajoifaa", sum := "cc9ca476fe324ae21d1e6d713ec62940770c13d745599fb8534ee9dda49a0d6d", func := "syllogist/syllogistkeep.LatticeModular", spec := "latticeModular", apart := false }
def LatticeModularSaid : Prop := latticeModularRow.holds Try.pinned (OpenSpec.ofChange latticeModularSpec)

/-- ITS FALSE NEIGHBOUR: 'it returns false'. Refute it at one input. -/
def latticeModularWrong : ChangeSpec := { name := "latticeModular", fn := fun _ => fun
  | [d1, d2] => { results := [.lit (.bool false)], args := [d1, d2] }
  | _ => none }
def LatticeModularWrongFalsely : Prop := latticeModularRow.holds Try.pinned (OpenSpec.ofChange latticeModularWrong)

/-- 'syllogistkeep.LatticeBirkhoff': WHATEVER THE INPUT: true; the input reads as it did. -/
def latticeBirkhoffSpec : ChangeSpec := { name := "latticeBirkhoff", fn := fun _ => fun
  | [d1, d2] => { results := [.lit (.bool true)], args := [d1, d2] }
  | _ => none }
def latticeBirkhoffRow : OpenClaim := { program := "ytgcpomdlajoifaa", sum := "cc9ca476fe324ae21d1e6d713ec62940770c13d745599fb8534ee9dda49a0d6d", func := "syllogist/syllogistkeep.LatticeBirkhoff", spec := "latticeBirkhoff", apart := false }
def LatticeBirkhoffSaid : Prop := latticeBirkhoffRow.holds Try.pinned (OpenSpec.ofChange latticeBirkhoffSpec)

/-- ITS FALSE NEIGHBOUR: 'it returns false'. Refute it at one input. -/
def latticeBirkhoffWrong : ChangeSpec := { name := "latticeBirkhoff", fn := fun _ => fun
  | [d1, d2] => { results := [.lit (.bool false)], args := [d1, d2] }
  | _ => none }
def LatticeBirkhoffWrongFalsely : Prop := latticeBirkhoffRow.holds Try.pinned (OpenSpec.ofChange latticeBirkhoffWrong)

/-- 'syllogistkeep.RolesMore': WHATEVER THE INPUT: true; the input reads as it did. -/
def rolesMoreSpec : ChangeSpec := { name := "rolesMore", fn := fun _ => fun
  | [d1, d2, d3, d4, d5] => { results := [.lit (.bool true)], args := [d1, d2, d3, d4, d5] }
  | _ => none }
def rolesMoreRow : OpenClaim := { program := "ytgcpomdlajoifaa", sum := "cc9ca476fe324ae21d1e6d713ec62940770c13d745599fb8534ee9dda49a0d6d", func := "syllogist/syllogistkeep.RolesMore", spec := "rolesMore", apart := false }
def RolesMoreSaid : Prop := rolesMoreRow.holds Try.pinned (OpenSpec.ofChange rolesMoreSpec)

/-- ITS FALSE NEIGHBOUR: 'it returns false'. Refute it at one input. -/
def rolesMoreWrong : ChangeSpec := { name := "rolesMore", fn := fun _ => fun
  | [d1, d2, d3, d4, d5] => { results := [.lit (.bool false)], args := [d1, d2, d3, d4, d5] }
  | _ => none }
def RolesMoreWrongFalsely : Prop := rolesMoreRow.holds Try.pinned (OpenSpec.ofChange rolesMoreWrong)

/-- 'syllogistkeep.RolesApart': WHATEVER THE INPUT: true; the input reads as it did. -/
def rolesApartSpec : ChangeSpec := { name := "rolesApart", fn := fun _ => fun
  | [d1, d2, d3, d4, d5] => { results := [.lit (.bool true)], args := [d1, d2, d3, d4, d5] }
  | _ => none }
def rolesApartRow : OpenClaim := { program := "ytgcpomdlajoifaa", sum := "cc9ca476fe324ae21d1e6d713ec62940770c13d745599fb8534ee9dda49a0d6d", func := "syllogist/syllogistkeep.RolesApart", spec := "rolesApart", unfollowed := true, recurses := true, apart := false }
def RolesApartSaid : Prop := rolesApartRow.holds Try.pinned (OpenSpec.ofChange rolesApartSpec)

/-- ITS FALSE NEIGHBOUR: 'it returns false'. Refute it at one input. -/
def rolesApartWrong : ChangeSpec := { name := "rolesApart", fn := fun _ => fun
  | [d1, d2, d3, d4, d5] => { results := [.lit (.bool false)], args := [d1, d2, d3, d4, d5] }
  | _ => none }
def RolesApartWrongFalsely : Prop := rolesApartRow.holds Try.pinned (OpenSpec.ofChange rolesApartWrong)

/- THE SECOND FORM. 'bulk': how many values and letters a reading holds, each counted each time it is reached (what is shared counts as often as it is met; a slice's spare places count too). A statement '..UptoSaid' is the law's where the arguments, and the package variables that the reading takes, are together of bulk at most 1048576: NARROWER than '..Said'. Prove '..Said' where nothing that the law and all that it calls make is longer than what came in: it says more and counts as full. Else prove '..UptoSaid'. A law counts once. -/
mutual
def uptoBulk {H : Type} : DataW H → Nat
  | .lit (.string bytes) => bytes.length + 1
  | .lit _ => 1
  | .nil => 1
  | .ptr d => uptoBulk d + 1
  | .slice elems spare => uptoBulkAll elems + uptoBulkAll spare + 1
  | .agg parts => uptoBulkAll parts + 1
  | .iface _ d => uptoBulk d + 1
  | .map entries => uptoBulkEntries entries + 1
  | .held _ => 1
def uptoBulkAll {H : Type} : List (DataW H) → Nat
  | [] => 0
  | d :: r => uptoBulk d + uptoBulkAll r
def uptoBulkEntries {H : Type} : List (Lit × DataW H) → Nat
  | [] => 0
  | x :: r => uptoBulkEntry x + uptoBulkEntries r
def uptoBulkEntry {H : Type} : Lit × DataW H → Nat
  | (.string bytes, d) => bytes.length + uptoBulk d + 1
  | (_, d) => uptoBulk d + 1
 end
def uptoSmall : (H : Type) → List (DataW H) → Bool := fun _ ds => decide (uptoBulkAll ds ≤ 1048576)
def OpenSpec.upto (s : _root_.Go.ChangeSpec) : _root_.Go.OpenSpec := { _root_.Go.OpenSpec.ofChange s with cond := some uptoSmall }

/-- 'syllogistkeep.OrderTable', WHERE WHAT IT READS IS OF BULK AT MOST 1048576: true; the input reads as it did. -/
def orderTableUptoRow : OpenClaim := { program := "ytgcpomdlajoifaa", sum := "cc9ca476fe324ae21d1e6d713ec62940770c13d745599fb8534ee9dda49a0d6d", func := "syllogist/syllogistkeep.OrderTable", spec := "orderTable", apart := false, narrowed := true }
def OrderTableUptoSaid : Prop := orderTableUptoRow.holds Try.pinned (OpenSpec.upto orderTableSpec)

/-- 'syllogistkeep.OrderLine', WHERE WHAT IT READS IS OF BULK AT MOST 1048576: true; the input reads as it did. -/
def orderLineUptoRow : OpenClaim := { program := "ytgcpomdlajoifaa", sum := "cc9ca476fe324ae21d1e6d713ec62940770c13d745599fb8534ee9dda49a0d6d", func := "syllogist/syllogistkeep.OrderLine", spec := "orderLine", apart := false, narrowed := true }
def OrderLineUptoSaid : Prop := orderLineUptoRow.holds Try.pinned (OpenSpec.upto orderLineSpec)

/-- 'syllogistkeep.OrderCover', WHERE WHAT IT READS IS OF BULK AT MOST 1048576: true; the input reads as it did. -/
def orderCoverUptoRow : OpenClaim := { program := "ytgcpomdlajoifaa", sum := "cc9ca476fe324ae21d1e6d713ec62940770c13d745599fb8534ee9dda49a0d6d", func := "syllogist/syllogistkeep.OrderCover", spec := "orderCover", apart := false, narrowed := true }
def OrderCoverUptoSaid : Prop := orderCoverUptoRow.holds Try.pinned (OpenSpec.upto orderCoverSpec)

/-- 'syllogistkeep.OrderLong', WHERE WHAT IT READS IS OF BULK AT MOST 1048576: true; the input reads as it did. -/
def orderLongUptoRow : OpenClaim := { program := "ytgcpomdlajoifaa", sum := "cc9ca476fe324ae21d1e6d713ec62940770c13d745599fb8534ee9dda49a0d6d", func := "syllogist/syllogistkeep.OrderLong", spec := "orderLong", unfollowed := true, recurses := true, apart := false, narrowed := true }
def OrderLongUptoSaid : Prop := orderLongUptoRow.holds Try.pinned (OpenSpec.upto orderLongSpec)

/-- 'syllogistkeep.OrderDilworth', WHERE WHAT IT READS IS OF BULK AT MOST 1048576: true; the input reads as it did. -/
def orderDilworthUptoRow : OpenClaim := { program := "ytgcpomdlajoifaa", sum := "cc9ca476fe324ae21d1e6d713ec62940770c13d745599fb8534ee9dda49a0d6d", func := "syllogist/syllogistkeep.OrderDilworth", spec := "orderDilworth", recurses := true, apart := false, narrowed := true }
def OrderDilworthUptoSaid : Prop := orderDilworthUptoRow.holds Try.pinned (OpenSpec.upto orderDilworthSpec)

/-- 'syllogistkeep.DownsMany', WHERE WHAT IT READS IS OF BULK AT MOST 1048576: true; the input reads as it did. -/
def downsManyUptoRow : OpenClaim := { program := "ytgcpomdlajoifaa", sum := "cc9ca476fe324ae21d1e6d713ec62940770c13d745599fb8534ee9dda49a0d6d", func := "syllogist/syllogistkeep.DownsMany", spec := "downsMany", apart := false, narrowed := true }
def DownsManyUptoSaid : Prop := downsManyUptoRow.holds Try.pinned (OpenSpec.upto downsManySpec)

/-- 'syllogistkeep.DownsEdge', WHERE WHAT IT READS IS OF BULK AT MOST 1048576: true; the input reads as it did. -/
def downsEdgeUptoRow : OpenClaim := { program := "ytgcpomdlajoifaa", sum := "cc9ca476fe324ae21d1e6d713ec62940770c13d745599fb8534ee9dda49a0d6d", func := "syllogist/syllogistkeep.DownsEdge", spec := "downsEdge", apart := false, narrowed := true }
def DownsEdgeUptoSaid : Prop := downsEdgeUptoRow.holds Try.pinned (OpenSpec.upto downsEdgeSpec)

/-- 'syllogistkeep.LatticeLaws', WHERE WHAT IT READS IS OF BULK AT MOST 1048576: true; the input reads as it did. -/
def latticeLawsUptoRow : OpenClaim := { program := "ytgcpomdlajoifaa", sum := "cc9ca476fe324ae21d1e6d713ec62940770c13d745599fb8534ee9dda49a0d6d", func := "syllogist/syllogistkeep.LatticeLaws", spec := "latticeLaws", unfollowed := true, recurses := true, apart := false, narrowed := true }
def LatticeLawsUptoSaid : Prop := latticeLawsUptoRow.holds Try.pinned (OpenSpec.upto latticeLawsSpec)

/-- 'syllogistkeep.LatticeModular', WHERE WHAT IT READS IS OF BULK AT MOST 1048576: true; the input reads as it did. -/
def latticeModularUptoRow : OpenClaim := { program := "ytgcpomdlajoifaa", sum := "cc9ca476fe324ae21d1e6d713ec62940770c13d745599fb8534ee9dda49a0d6d", func := "syllogist/syllogistkeep.LatticeModular", spec := "latticeModular", apart := false, narrowed := true }
def LatticeModularUptoSaid : Prop := latticeModularUptoRow.holds Try.pinned (OpenSpec.upto latticeModularSpec)

/-- 'syllogistkeep.LatticeBirkhoff', WHERE WHAT IT READS IS OF BULK AT MOST 1048576: true; the input reads as it did. -/
def latticeBirkhoffUptoRow : OpenClaim := { program := "ytgcpomdlajoifaa", sum := "cc9ca476fe324ae21d1e6d713ec62940770c13d745599fb8534ee9dda49a0d6d", func := "syllogist/syllogistkeep.LatticeBirkhoff", spec := "latticeBirkhoff", apart := false, narrowed := true }
def LatticeBirkhoffUptoSaid : Prop := latticeBirkhoffUptoRow.holds Try.pinned (OpenSpec.upto latticeBirkhoffSpec)

/-- 'syllogistkeep.RolesMore', WHERE WHAT IT READS IS OF BULK AT MOST 1048576: true; the input reads as it did. -/
def rolesMoreUptoRow : OpenClaim := { program := "ytgcpomdlajoifaa", sum := "cc9ca476fe324ae21d1e6d713ec62940770c13d745599fb8534ee9dda49a0d6d", func := "syllogist/syllogistkeep.RolesMore", spec := "rolesMore", apart := false, narrowed := true }
def RolesMoreUptoSaid : Prop := rolesMoreUptoRow.holds Try.pinned (OpenSpec.upto rolesMoreSpec)

/-- 'syllogistkeep.RolesApart', WHERE WHAT IT READS IS OF BULK AT MOST 1048576: true; the input reads as it did. -/
def rolesApartUptoRow : OpenClaim := { program := "ytgcpomdlajoifaa", sum := "cc9ca476fe324ae21d1e6d713ec62940770c13d745599fb8534ee9dda49a0d6d", func := "syllogist/syllogistkeep.RolesApart", spec := "rolesApart", unfollowed := true, recurses := true, apart := false, narrowed := true }
def RolesApartUptoSaid : Prop := rolesApartUptoRow.holds Try.pinned (OpenSpec.upto rolesApartSpec)

end Rows
end Go.Proofs.Ytgcpomdlajoifaa
