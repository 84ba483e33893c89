/-
  No cell of these rows narrows 'for every input' (looked for: loops, veiled, ifaces, maps, wideKeys, modest, calm, conditions, laid).
  DERIVED. THE GIVEN ROWS OF THIS SEAT. 11 by the template 'for every input the law returns true; each argument reads behind the call as it read before'; 0 by the template 'total and deterministic' (their statements: YtaipladbgdcedaaTotals.lean).
  GIVEN WITH THE SEED: the statements are not yours to turn. If you find one false, say at which input.
  Laid BY PROGRAM, IN A SANDBOX (cutbox-rows.mjs): the forced cells as the released guide's own fill.sh prints them over the translation 112789bd41c22a9c… (all of the seat's roots in one cut). By AI agents, Wed Nov 11 2026. No macro, syntax, notation, axiom, sorry.
-/
import Derived.Test.YtaipladbgdcedaaChecked
import GoSem.Claim
import GoSem.ClaimJoined
import GoSem.ClaimMapViews
import Derived.JoinedTies
import Derived.KernelRfl
namespace Go.Proofs.Ytaipladbgdcedaa
/- THE CELL 'sum', in the pinned program and in every row, IS THE sha256 OF THE DUMP (.gsa) THAT YtaipladbgdcedaaProg.lean LOADS. Nothing in Lean hashes anything: it is a label: what it is worth is what the hold of that sum in a sandbox is worth. -/
noncomputable def Try.pinned : Pinned := { name := "ytaipladbgdcedaa", sum := "112789bd41c22a9c6b8328c8827da76dc932cc657aac4afb6163accb0e64c92a", checked := Try.checked }
namespace Rows
def none {H : Type} : Left H := { results := [], args := [] }

/-- 'arboretumlaw08.LinkRoots': WHATEVER THE INPUT: true; the input reads as it did. -/
def linkRootsSpec : ChangeSpec := { name := "linkRoots", fn := fun _ => fun
  | [d1, d2, d3] => { results := [.lit (.bool true)], args := [d1, d2, d3] }
  | _ => none }
def linkRootsRow : OpenClaim := { program := "ytaipladbgdcedaa", sum := "112789bd41c22a9c6b8328c8827da76dc932cc657aac4afb6163accb0e64c92a", func := "arboretum/arboretumlaw08.LinkRoots", spec := "linkRoots", apart := false }
def LinkRootsSaid : Prop := linkRootsRow.holds Try.pinned (OpenSpec.ofChange linkRootsSpec)

/-- ITS FALSE NEIGHBOUR: 'it returns false'. Refute it at one input. -/
def linkRootsWrong : ChangeSpec := { name := "linkRoots", fn := fun _ => fun
  | [d1, d2, d3] => { results := [.lit (.bool false)], args := [d1, d2, d3] }
  | _ => none }
def LinkRootsWrongFalsely : Prop := linkRootsRow.holds Try.pinned (OpenSpec.ofChange linkRootsWrong)

/-- 'arboretumlaw08.LinkLines': WHATEVER THE INPUT: true; the input reads as it did. -/
def linkLinesSpec : ChangeSpec := { name := "linkLines", fn := fun _ => fun
  | [d1, d2] => { results := [.lit (.bool true)], args := [d1, d2] }
  | _ => none }
def linkLinesRow : OpenClaim := { program := "ytaipladbgdcedaa", sum := "112789bd41c22a9c6b8328c8827da76dc932cc657aac4afb6163accb0e64c92a", func := "arboretum/arboretumlaw08.LinkLines", spec := "linkLines", apart := false }
def LinkLinesSaid : Prop := linkLinesRow.holds Try.pinned (OpenSpec.ofChange linkLinesSpec)

/-- ITS FALSE NEIGHBOUR: 'it returns false'. Refute it at one input. -/
def linkLinesWrong : ChangeSpec := { name := "linkLines", fn := fun _ => fun
  | [d1, d2] => { results := [.lit (.bool false)], args := [d1, d2] }
  | _ => none }
def LinkLinesWrongFalsely : Prop := linkLinesRow.holds Try.pinned (OpenSpec.ofChange linkLinesWrong)

/-- 'arboretumlaw08.LinkWays': WHATEVER THE INPUT: true; the input reads as it did. -/
def linkWaysSpec : ChangeSpec := { name := "linkWays", fn := fun _ => fun
  | [d1, d2, d3] => { results := [.lit (.bool true)], args := [d1, d2, d3] }
  | _ => none }
def linkWaysRow : OpenClaim := { program := "ytaipladbgdcedaa", sum := "112789bd41c22a9c6b8328c8827da76dc932cc657aac4afb6163accb0e64c92a", func := "arboretum/arboretumlaw08.LinkWays", spec := "linkWays", apart := false }
def LinkWaysSaid : Prop := linkWaysRow.holds Try.pinned (OpenSpec.ofChange linkWaysSpec)

/-- ITS FALSE NEIGHBOUR: 'it returns false'. Refute it at one input. -/
def linkWaysWrong : ChangeSpec := { name := "linkWays", fn := fun _ => fun
  | [d1, d2, d3] => { results := [.lit (.bool false)], args := [d1, d2, d3] }
  | _ => none }
def LinkWaysWrongFalsely : Prop := linkWaysRow.holds Try.pinned (OpenSpec.ofChange linkWaysWrong)

/-- 'arboretumlaw08.LinkSubs': WHATEVER THE INPUT: true; the input reads as it did. -/
def linkSubsSpec : ChangeSpec := { name := "linkSubs", fn := fun _ => fun
  | [d1, d2] => { results := [.lit (.bool true)], args := [d1, d2] }
  | _ => none }
def linkSubsRow : OpenClaim := { program := "ytaipladbgdcedaa", sum := "112789bd41c22a9c6b8328c8827da76dc932cc657aac4afb6163accb0e64c92a", func := "arboretum/arboretumlaw08.LinkSubs", spec := "linkSubs", apart := false }
def LinkSubsSaid : Prop := linkSubsRow.holds Try.pinned (OpenSpec.ofChange linkSubsSpec)

/-- ITS FALSE NEIGHBOUR: 'it returns false'. Refute it at one input. -/
def linkSubsWrong : ChangeSpec := { name := "linkSubs", fn := fun _ => fun
  | [d1, d2] => { results := [.lit (.bool false)], args := [d1, d2] }
  | _ => none }
def LinkSubsWrongFalsely : Prop := linkSubsRow.holds Try.pinned (OpenSpec.ofChange linkSubsWrong)

/-- 'arboretumlaw08.LinkOrders': WHATEVER THE INPUT: true; the input reads as it did. -/
def linkOrdersSpec : ChangeSpec := { name := "linkOrders", fn := fun _ => fun
  | [d1, d2, d3] => { results := [.lit (.bool true)], args := [d1, d2, d3] }
  | _ => none }
def linkOrdersRow : OpenClaim := { program := "ytaipladbgdcedaa", sum := "112789bd41c22a9c6b8328c8827da76dc932cc657aac4afb6163accb0e64c92a", func := "arboretum/arboretumlaw08.LinkOrders", spec := "linkOrders", apart := false }
def LinkOrdersSaid : Prop := linkOrdersRow.holds Try.pinned (OpenSpec.ofChange linkOrdersSpec)

/-- ITS FALSE NEIGHBOUR: 'it returns false'. Refute it at one input. -/
def linkOrdersWrong : ChangeSpec := { name := "linkOrders", fn := fun _ => fun
  | [d1, d2, d3] => { results := [.lit (.bool false)], args := [d1, d2, d3] }
  | _ => none }
def LinkOrdersWrongFalsely : Prop := linkOrdersRow.holds Try.pinned (OpenSpec.ofChange linkOrdersWrong)

/-- 'arboretumlaw08.LinkBounds': WHATEVER THE INPUT: true; the input reads as it did. -/
def linkBoundsSpec : ChangeSpec := { name := "linkBounds", fn := fun _ => fun
  | [d1, d2] => { results := [.lit (.bool true)], args := [d1, d2] }
  | _ => none }
def linkBoundsRow : OpenClaim := { program := "ytaipladbgdcedaa", sum := "112789bd41c22a9c6b8328c8827da76dc932cc657aac4afb6163accb0e64c92a", func := "arboretum/arboretumlaw08.LinkBounds", spec := "linkBounds", apart := false }
def LinkBoundsSaid : Prop := linkBoundsRow.holds Try.pinned (OpenSpec.ofChange linkBoundsSpec)

/-- ITS FALSE NEIGHBOUR: 'it returns false'. Refute it at one input. -/
def linkBoundsWrong : ChangeSpec := { name := "linkBounds", fn := fun _ => fun
  | [d1, d2] => { results := [.lit (.bool false)], args := [d1, d2] }
  | _ => none }
def LinkBoundsWrongFalsely : Prop := linkBoundsRow.holds Try.pinned (OpenSpec.ofChange linkBoundsWrong)

/-- 'arboretumlaw08.LinkCuts': WHATEVER THE INPUT: true; the input reads as it did. -/
def linkCutsSpec : ChangeSpec := { name := "linkCuts", fn := fun _ => fun
  | [d1, d2, d3] => { results := [.lit (.bool true)], args := [d1, d2, d3] }
  | _ => none }
def linkCutsRow : OpenClaim := { program := "ytaipladbgdcedaa", sum := "112789bd41c22a9c6b8328c8827da76dc932cc657aac4afb6163accb0e64c92a", func := "arboretum/arboretumlaw08.LinkCuts", spec := "linkCuts", apart := false }
def LinkCutsSaid : Prop := linkCutsRow.holds Try.pinned (OpenSpec.ofChange linkCutsSpec)

/-- ITS FALSE NEIGHBOUR: 'it returns false'. Refute it at one input. -/
def linkCutsWrong : ChangeSpec := { name := "linkCuts", fn := fun _ => fun
  | [d1, d2, d3] => { results := [.lit (.bool false)], args := [d1, d2, d3] }
  | _ => none }
def LinkCutsWrongFalsely : Prop := linkCutsRow.holds Try.pinned (OpenSpec.ofChange linkCutsWrong)

/-- 'arboretumlaw08.LinkMoves': WHATEVER THE INPUT: true; the input reads as it did. -/
def linkMovesSpec : ChangeSpec := { name := "linkMoves", fn := fun _ => fun
  | [d1, d2, d3] => { results := [.lit (.bool true)], args := [d1, d2, d3] }
  | _ => none }
def linkMovesRow : OpenClaim := { program := "ytaipladbgdcedaa", sum := "112789bd41c22a9c6b8328c8827da76dc932cc657aac4afb6163accb0e64c92a", func := "arboretum/arboretumlaw08.LinkMoves", spec := "linkMoves", apart := false }
def LinkMovesSaid : Prop := linkMovesRow.holds Try.pinned (OpenSpec.ofChange linkMovesSpec)

/-- ITS FALSE NEIGHBOUR: 'it returns false'. Refute it at one input. -/
def linkMovesWrong : ChangeSpec := { name := "linkMoves", fn := fun _ => fun
  | [d1, d2, d3] => { results := [.lit (.bool false)], args := [d1, d2, d3] }
  | _ => none }
def LinkMovesWrongFalsely : Prop := linkMovesRow.holds Try.pinned (OpenSpec.ofChange linkMovesWrong)

/-- 'arboretumlaw08.LinkStars': WHATEVER THE INPUT: true; the input reads as it did. -/
def linkStarsSpec : ChangeSpec := { name := "linkStars", fn := fun _ => fun
  | [d1, d2] => { results := [.lit (.bool true)], args := [d1, d2] }
  | _ => none }
def linkStarsRow : OpenClaim := { program := "ytaipladbgdcedaa", sum := "112789bd41c22a9c6b8328c8827da76dc932cc657aac4afb6163accb0e64c92a", func := "arboretum/arboretumlaw08.LinkStars", spec := "linkStars", apart := false }
def LinkStarsSaid : Prop := linkStarsRow.holds Try.pinned (OpenSpec.ofChange linkStarsSpec)

/-- ITS FALSE NEIGHBOUR: 'it returns false'. Refute it at one input. -/
def linkStarsWrong : ChangeSpec := { name := "linkStars", fn := fun _ => fun
  | [d1, d2] => { results := [.lit (.bool false)], args := [d1, d2] }
  | _ => none }
def LinkStarsWrongFalsely : Prop := linkStarsRow.holds Try.pinned (OpenSpec.ofChange linkStarsWrong)

/-- 'arboretumlaw08.LinkAlone': WHATEVER THE INPUT: true; the input reads as it did. -/
def linkAloneSpec : ChangeSpec := { name := "linkAlone", fn := fun _ => fun
  | [d1, d2] => { results := [.lit (.bool true)], args := [d1, d2] }
  | _ => none }
def linkAloneRow : OpenClaim := { program := "ytaipladbgdcedaa", sum := "112789bd41c22a9c6b8328c8827da76dc932cc657aac4afb6163accb0e64c92a", func := "arboretum/arboretumlaw08.LinkAlone", spec := "linkAlone", apart := false }
def LinkAloneSaid : Prop := linkAloneRow.holds Try.pinned (OpenSpec.ofChange linkAloneSpec)

/-- ITS FALSE NEIGHBOUR: 'it returns false'. Refute it at one input. -/
def linkAloneWrong : ChangeSpec := { name := "linkAlone", fn := fun _ => fun
  | [d1, d2] => { results := [.lit (.bool false)], args := [d1, d2] }
  | _ => none }
def LinkAloneWrongFalsely : Prop := linkAloneRow.holds Try.pinned (OpenSpec.ofChange linkAloneWrong)

/-- 'arboretumlaw08.LinkPlays': WHATEVER THE INPUT: true; the input reads as it did. -/
def linkPlaysSpec : ChangeSpec := { name := "linkPlays", fn := fun _ => fun
  | [d1, d2] => { results := [.lit (.bool true)], args := [d1, d2] }
  | _ => none }
def linkPlaysRow : OpenClaim := { program := "ytaipladbgdcedaa", sum := "112789bd41c22a9c6b8328c8827da76dc932cc657aac4afb6163accb0e64c92a", func := "arboretum/arboretumlaw08.LinkPlays", spec := "linkPlays", apart := false }
def LinkPlaysSaid : Prop := linkPlaysRow.holds Try.pinned (OpenSpec.ofChange linkPlaysSpec)

/-- ITS FALSE NEIGHBOUR: 'it returns false'. Refute it at one input. -/
def linkPlaysWrong : ChangeSpec := { name := "linkPlays", fn := fun _ => fun
  | [d1, d2] => { results := [.lit (.bool false)], args := [d1, d2] }
  | _ => none }
def LinkPlaysWrongFalsely : Prop := linkPlaysRow.holds Try.pinned (OpenSpec.ofChange linkPlaysWrong)

/- THE SECOND FORM. 'bulk': how many values and letters a reading holds, each counted each time it is reached (what is shared counts as often as it is met; a slice's spare places count too). A statement '..UptoSaid' is the law's where the arguments, and the package variables that the reading takes, are together of bulk at most 1048576: NARROWER than '..Said'. Prove '..Said' where nothing that the law and all that it calls make is longer than what came in: it says more and counts as full. Else prove '..UptoSaid'. A law counts once. -/
mutual
def uptoBulk {H : Type} : DataW H → Nat
  | .lit (.string bytes) => bytes.length + 1
  | .lit _ => 1
  | .nil => 1
  | .ptr d => uptoBulk d + 1
  | .slice elems spare => uptoBulkAll elems + uptoBulkAll spare + 1
  | .agg parts => uptoBulkAll parts + 1
  | .iface _ d => uptoBulk d + 1
  | .map entries => uptoBulkEntries entries + 1
  | .held _ => 1
def uptoBulkAll {H : Type} : List (DataW H) → Nat
  | [] => 0
  | d :: r => uptoBulk d + uptoBulkAll r
def uptoBulkEntries {H : Type} : List (Lit × DataW H) → Nat
  | [] => 0
  | x :: r => uptoBulkEntry x + uptoBulkEntries r
def uptoBulkEntry {H : Type} : Lit × DataW H → Nat
  | (.string bytes, d) => bytes.length + uptoBulk d + 1
  | (_, d) => uptoBulk d + 1
 end
def uptoSmall : (H : Type) → List (DataW H) → Bool := fun _ ds => decide (uptoBulkAll ds ≤ 1048576)
def OpenSpec.upto (s : _root_.Go.ChangeSpec) : _root_.Go.OpenSpec := { _root_.Go.OpenSpec.ofChange s with cond := some uptoSmall }

/-- 'arboretumlaw08.LinkRoots', WHERE WHAT IT READS IS OF BULK AT MOST 1048576: true; the input reads as it did. -/
def linkRootsUptoRow : OpenClaim := { program := "ytaipladbgdcedaa", sum := "112789bd41c22a9c6b8328c8827da76dc932cc657aac4afb6163accb0e64c92a", func := "arboretum/arboretumlaw08.LinkRoots", spec := "linkRoots", apart := false, narrowed := true }
def LinkRootsUptoSaid : Prop := linkRootsUptoRow.holds Try.pinned (OpenSpec.upto linkRootsSpec)

/-- 'arboretumlaw08.LinkLines', WHERE WHAT IT READS IS OF BULK AT MOST 1048576: true; the input reads as it did. -/
def linkLinesUptoRow : OpenClaim := { program := "ytaipladbgdcedaa", sum := "112789bd41c22a9c6b8328c8827da76dc932cc657aac4afb6163accb0e64c92a", func := "arboretum/arboretumlaw08.LinkLines", spec := "linkLines", apart := false, narrowed := true }
def LinkLinesUptoSaid : Prop := linkLinesUptoRow.holds Try.pinned (OpenSpec.upto linkLinesSpec)

/-- 'arboretumlaw08.LinkWays', WHERE WHAT IT READS IS OF BULK AT MOST 1048576: true; the input reads as it did. -/
def linkWaysUptoRow : OpenClaim := { program := "ytaipladbgdcedaa", sum := "112789bd41c22a9c6b8328c8827da76dc932cc657aac4afb6163accb0e64c92a", func := "arboretum/arboretumlaw08.LinkWays", spec := "linkWays", apart := false, narrowed := true }
def LinkWaysUptoSaid : Prop := linkWaysUptoRow.holds Try.pinned (OpenSpec.upto linkWaysSpec)

/-- 'arboretumlaw08.LinkSubs', WHERE WHAT IT READS IS OF BULK AT MOST 1048576: true; the input reads as it did. -/
def linkSubsUptoRow : OpenClaim := { program := "ytaipladbgdcedaa", sum := "112789bd41c22a9c6b8328c8827da76dc932cc657aac4afb6163accb0e64c92a", func := "arboretum/arboretumlaw08.LinkSubs", spec := "linkSubs", apart := false, narrowed := true }
def LinkSubsUptoSaid : Prop := linkSubsUptoRow.holds Try.pinned (OpenSpec.upto linkSubsSpec)

/-- 'arboretumlaw08.LinkOrders', WHERE WHAT IT READS IS OF BULK AT MOST 1048576: true; the input reads as it did. -/
def linkOrdersUptoRow : OpenClaim := { program := "ytaipladbgdcedaa", sum := "112789bd41c22a9c6b8328c8827da76dc932cc657aac4afb6163accb0e64c92a", func := "arboretum/arboretumlaw08.LinkOrders", spec := "linkOrders", apart := false, narrowed := true }
def LinkOrdersUptoSaid : Prop := linkOrdersUptoRow.holds Try.pinned (OpenSpec.upto linkOrdersSpec)

/-- 'arboretumlaw08.LinkBounds', WHERE WHAT IT READS IS OF BULK AT MOST 1048576: true; the input reads as it did. -/
def linkBoundsUptoRow : OpenClaim := { program := "ytaipladbgdcedaa", sum := "112789bd41c22a9c6b8328c8827da76dc932cc657aac4afb6163accb0e64c92a", func := "arboretum/arboretumlaw08.LinkBounds", spec := "linkBounds", apart := false, narrowed := true }
def LinkBoundsUptoSaid : Prop := linkBoundsUptoRow.holds Try.pinned (OpenSpec.upto linkBoundsSpec)

/-- 'arboretumlaw08.LinkCuts', WHERE WHAT IT READS IS OF BULK AT MOST 1048576: true; the input reads as it did. -/
def linkCutsUptoRow : OpenClaim := { program := "ytaipladbgdcedaa", sum := "112789bd41c22a9c6b8328c8827da76dc932cc657aac4afb6163accb0e64c92a", func := "arboretum/arboretumlaw08.LinkCuts", spec := "linkCuts", apart := false, narrowed := true }
def LinkCutsUptoSaid : Prop := linkCutsUptoRow.holds Try.pinned (OpenSpec.upto linkCutsSpec)

/-- 'arboretumlaw08.LinkMoves', WHERE WHAT IT READS IS OF BULK AT MOST 1048576: true; the input reads as it did. -/
def linkMovesUptoRow : OpenClaim := { program := "ytaipladbgdcedaa", sum := "112789bd41c22a9c6b8328c8827da76dc932cc657aac4afb6163accb0e64c92a", func := "arboretum/arboretumlaw08.LinkMoves", spec := "linkMoves", apart := false, narrowed := true }
def LinkMovesUptoSaid : Prop := linkMovesUptoRow.holds Try.pinned (OpenSpec.upto linkMovesSpec)

/-- 'arboretumlaw08.LinkStars', WHERE WHAT IT READS IS OF BULK AT MOST 1048576: true; the input reads as it did. -/
def linkStarsUptoRow : OpenClaim := { program := "ytaipladbgdcedaa", sum := "112789bd41c22a9c6b8328c8827da76dc932cc657aac4afb6163accb0e64c92a", func := "arboretum/arboretumlaw08.LinkStars", spec := "linkStars", apart := false, narrowed := true }
def LinkStarsUptoSaid : Prop := linkStarsUptoRow.holds Try.pinned (OpenSpec.upto linkStarsSpec)

/-- 'arboretumlaw08.LinkAlone', WHERE WHAT IT READS IS OF BULK AT MOST 1048576: true; the input reads as it did. -/
def linkAloneUptoRow : OpenClaim := { program := "ytaipladbgdcedaa", sum := "112789bd41c22a9c6b8328c8827da76dc932cc657aac4afb6163accb0e64c92a", func := "arboretum/arboretumlaw08.LinkAlone", spec := "linkAlone", apart := false, narrowed := true }
def LinkAloneUptoSaid : Prop := linkAloneUptoRow.holds Try.pinned (OpenSpec.upto linkAloneSpec)

/-- 'arboretumlaw08.LinkPlays', WHERE WHAT IT READS IS OF BULK AT MOST 1048576: true; the input reads as it did. -/
def linkPlaysUptoRow : OpenClaim := { program := "ytaipladbgdcedaa", sum := "112789bd41c22a9c6b8328c8827da76dc932cc657aac4afb6163accb0e64c92a", func := "arboretum/arboretumlaw08.LinkPlays", spec := "linkPlays", apart := false, narrowed := true }
def LinkPlaysUptoSaid : Prop := linkPlaysUptoRow.holds Try.pinned (OpenSpec.upto linkPlaysSpec)

end Rows
end Go.Proofs.Ytaipladbgdcedaa
