/-
  No cell of these rows narrows 'for every input' (looked for: loops, veiled, ifaces, maps, wideKeys, modest, calm, conditions, laid).
  DERIVED. THE GIVEN ROWS OF THIS SEAT. 6 by the template 'for every input the law returns true; each argument reads behind the call as it read before'; 0 by the template 'total and deterministic' (their statements: YtogiedephnappaaTotals.lean).
  GIVEN WITH THE SEED: the statements are not yours to turn. If you find one false, say at which input.
  Laid BY PROGRAM, IN A SANDBOX (cutbox-rows.mjs): the forced cells as the released guide's own fill.sh prints them over the translation 25fb04f3ad873704… (all of the seat's roots in one cut). By AI agents, Wed Nov 11 2026. No macro, syntax, notation, axiom, sorry.
-/
import Derived.Test.YtogiedephnappaaChecked
import GoSem.Claim
import GoSem.ClaimJoined
import GoSem.ClaimMapViews
import Derived.JoinedTies
import Derived.KernelRfl
namespace Go.Proofs.Ytogiedephnappaa
/- THE CELL 'sum', in the pinned program and in every row, IS THE sha256 OF THE DUMP (.gsa) THAT YtogiedephnappaaProg.lean LOADS. Nothing in Lean hashes anything: it is a label: what it is worth is what the hold of that sum in a sandbox is worth. -/
noncomputable def Try.pinned : Pinned := { name := "ytogiedephnappaa", sum := "25fb04f3ad873704199d7b9a864a2275c0ef405e98a6eb76a908a9f2da6e08ef", checked := Try.checked }
namespace Rows
def none {H : Type} : Left H := { results := [], args := [] }

/-- 'dockyardlaw03.NetRange': WHATEVER THE INPUT: true; the input reads as it did. -/
def netRangeSpec : ChangeSpec := { name := "netRange", fn := fun _ => fun
  | [d1, d2, d3] => { results := [.lit (.bool true)], args := [d1, d2, d3] }
  | _ => none }
def netRangeRow : OpenClaim := { program := "ytogiedephnappaa", sum := "25fb04f3ad873704199d7b9a864a2275c0ef405e98a6eb76a908a9f2da6e08ef", func := "dockyard/dockyardlaw03.NetRange", spec := "netRange", unfollowed := true, recurses := true, apart := false }
def NetRangeSaid : Prop := netRangeRow.holds Try.pinned (OpenSpec.ofChange netRangeSpec)

/-- ITS FALSE NEIGHBOUR: 'it returns false'. Refute it at one input. -/
def netRangeWrong : ChangeSpec := { name := "netRange", fn := fun _ => fun
  | [d1, d2, d3] => { results := [.lit (.bool false)], args := [d1, d2, d3] }
  | _ => none }
def NetRangeWrongFalsely : Prop := netRangeRow.holds Try.pinned (OpenSpec.ofChange netRangeWrong)

/-- 'dockyardlaw03.NetUndone': WHATEVER THE INPUT: true; the input reads as it did. -/
def netUndoneSpec : ChangeSpec := { name := "netUndone", fn := fun _ => fun
  | [d1, d2, d3] => { results := [.lit (.bool true)], args := [d1, d2, d3] }
  | _ => none }
def netUndoneRow : OpenClaim := { program := "ytogiedephnappaa", sum := "25fb04f3ad873704199d7b9a864a2275c0ef405e98a6eb76a908a9f2da6e08ef", func := "dockyard/dockyardlaw03.NetUndone", spec := "netUndone", unfollowed := true, recurses := true, apart := false }
def NetUndoneSaid : Prop := netUndoneRow.holds Try.pinned (OpenSpec.ofChange netUndoneSpec)

/-- ITS FALSE NEIGHBOUR: 'it returns false'. Refute it at one input. -/
def netUndoneWrong : ChangeSpec := { name := "netUndone", fn := fun _ => fun
  | [d1, d2, d3] => { results := [.lit (.bool false)], args := [d1, d2, d3] }
  | _ => none }
def NetUndoneWrongFalsely : Prop := netUndoneRow.holds Try.pinned (OpenSpec.ofChange netUndoneWrong)

/-- 'dockyardlaw03.NetCounts': WHATEVER THE INPUT: true; the input reads as it did. -/
def netCountsSpec : ChangeSpec := { name := "netCounts", fn := fun _ => fun
  | [d1, d2] => { results := [.lit (.bool true)], args := [d1, d2] }
  | _ => none }
def netCountsRow : OpenClaim := { program := "ytogiedephnappaa", sum := "25fb04f3ad873704199d7b9a864a2275c0ef405e98a6eb76a908a9f2da6e08ef", func := "dockyard/dockyardlaw03.NetCounts", spec := "netCounts", apart := false }
def NetCountsSaid : Prop := netCountsRow.holds Try.pinned (OpenSpec.ofChange netCountsSpec)

/-- ITS FALSE NEIGHBOUR: 'it returns false'. Refute it at one input. -/
def netCountsWrong : ChangeSpec := { name := "netCounts", fn := fun _ => fun
  | [d1, d2] => { results := [.lit (.bool false)], args := [d1, d2] }
  | _ => none }
def NetCountsWrongFalsely : Prop := netCountsRow.holds Try.pinned (OpenSpec.ofChange netCountsWrong)

/-- 'dockyardlaw03.NetOrder': WHATEVER THE INPUT: true; the input reads as it did. -/
def netOrderSpec : ChangeSpec := { name := "netOrder", fn := fun _ => fun
  | [d1, d2] => { results := [.lit (.bool true)], args := [d1, d2] }
  | _ => none }
def netOrderRow : OpenClaim := { program := "ytogiedephnappaa", sum := "25fb04f3ad873704199d7b9a864a2275c0ef405e98a6eb76a908a9f2da6e08ef", func := "dockyard/dockyardlaw03.NetOrder", spec := "netOrder", apart := false }
def NetOrderSaid : Prop := netOrderRow.holds Try.pinned (OpenSpec.ofChange netOrderSpec)

/-- ITS FALSE NEIGHBOUR: 'it returns false'. Refute it at one input. -/
def netOrderWrong : ChangeSpec := { name := "netOrder", fn := fun _ => fun
  | [d1, d2] => { results := [.lit (.bool false)], args := [d1, d2] }
  | _ => none }
def NetOrderWrongFalsely : Prop := netOrderRow.holds Try.pinned (OpenSpec.ofChange netOrderWrong)

/-- 'dockyardlaw03.NetAll': WHATEVER THE INPUT: true; the input reads as it did. -/
def netAllSpec : ChangeSpec := { name := "netAll", fn := fun _ => fun
  | [d1, d2] => { results := [.lit (.bool true)], args := [d1, d2] }
  | _ => none }
def netAllRow : OpenClaim := { program := "ytogiedephnappaa", sum := "25fb04f3ad873704199d7b9a864a2275c0ef405e98a6eb76a908a9f2da6e08ef", func := "dockyard/dockyardlaw03.NetAll", spec := "netAll", unfollowed := true, recurses := true, apart := false }
def NetAllSaid : Prop := netAllRow.holds Try.pinned (OpenSpec.ofChange netAllSpec)

/-- ITS FALSE NEIGHBOUR: 'it returns false'. Refute it at one input. -/
def netAllWrong : ChangeSpec := { name := "netAll", fn := fun _ => fun
  | [d1, d2] => { results := [.lit (.bool false)], args := [d1, d2] }
  | _ => none }
def NetAllWrongFalsely : Prop := netAllRow.holds Try.pinned (OpenSpec.ofChange netAllWrong)

/-- 'dockyardlaw03.NetClones': WHATEVER THE INPUT: true; the input reads as it did. -/
def netClonesSpec : ChangeSpec := { name := "netClones", fn := fun _ => fun
  | [d1, d2] => { results := [.lit (.bool true)], args := [d1, d2] }
  | _ => none }
def netClonesRow : OpenClaim := { program := "ytogiedephnappaa", sum := "25fb04f3ad873704199d7b9a864a2275c0ef405e98a6eb76a908a9f2da6e08ef", func := "dockyard/dockyardlaw03.NetClones", spec := "netClones", unfollowed := true, recurses := true, apart := false }
def NetClonesSaid : Prop := netClonesRow.holds Try.pinned (OpenSpec.ofChange netClonesSpec)

/-- ITS FALSE NEIGHBOUR: 'it returns false'. Refute it at one input. -/
def netClonesWrong : ChangeSpec := { name := "netClones", fn := fun _ => fun
  | [d1, d2] => { results := [.lit (.bool false)], args := [d1, d2] }
  | _ => none }
def NetClonesWrongFalsely : Prop := netClonesRow.holds Try.pinned (OpenSpec.ofChange netClonesWrong)

/- THE SECOND FORM. 'bulk': how many values and letters a reading holds, each counted each time it is reached (what is shared counts as often as it is met; a slice's spare places count too). A statement '..UptoSaid' is the law's where the arguments, and the package variables that the reading takes, are together of bulk at most 1048576: NARROWER than '..Said'. Prove '..Said' where nothing that the law and all that it calls make is longer than what came in: it says more and counts as full. Else prove '..UptoSaid'. A law counts once. -/
mutual
def uptoBulk {H : Type} : DataW H → Nat
  | .lit (.string bytes) => bytes.length + 1
  | .lit _ => 1
  | .nil => 1
  | .ptr d => uptoBulk d + 1
  | .slice elems spare => uptoBulkAll elems + uptoBulkAll spare + 1
  | .agg parts => uptoBulkAll parts + 1
  | .iface _ d => uptoBulk d + 1
  | .map entries => uptoBulkEntries entries + 1
  | .held _ => 1
def uptoBulkAll {H : Type} : List (DataW H) → Nat
  | [] => 0
  | d :: r => uptoBulk d + uptoBulkAll r
def uptoBulkEntries {H : Type} : List (Lit × DataW H) → Nat
  | [] => 0
  | x :: r => uptoBulkEntry x + uptoBulkEntries r
def uptoBulkEntry {H : Type} : Lit × DataW H → Nat
  | (.string bytes, d) => bytes.length + uptoBulk d + 1
  | (_, d) => uptoBulk d + 1
 end
def uptoSmall : (H : Type) → List (DataW H) → Bool := fun _ ds => decide (uptoBulkAll ds ≤ 1048576)
def OpenSpec.upto (s : _root_.Go.ChangeSpec) : _root_.Go.OpenSpec := { _root_.Go.OpenSpec.ofChange s with cond := some uptoSmall }

/-- 'dockyardlaw03.NetRange', WHERE WHAT IT READS IS OF BULK AT MOST 1048576: true; the input reads as it did. -/
def netRangeUptoRow : OpenClaim := { program := "ytogiedephnappaa", sum := "25fb04f3ad873704199d7b9a864a2275c0ef405e98a6eb76a908a9f2da6e08ef", func := "dockyard/dockyardlaw03.NetRange", spec := "netRange", unfollowed := true, recurses := true, apart := false, narrowed := true }
def NetRangeUptoSaid : Prop := netRangeUptoRow.holds Try.pinned (OpenSpec.upto netRangeSpec)

/-- 'dockyardlaw03.NetUndone', WHERE WHAT IT READS IS OF BULK AT MOST 1048576: true; the input reads as it did. -/
def netUndoneUptoRow : OpenClaim := { program := "ytogiedephnappaa", sum := "25fb04f3ad873704199d7b9a864a2275c0ef405e98a6eb76a908a9f2da6e08ef", func := "dockyard/dockyardlaw03.NetUndone", spec := "netUndone", unfollowed := true, recurses := true, apart := false, narrowed := true }
def NetUndoneUptoSaid : Prop := netUndoneUptoRow.holds Try.pinned (OpenSpec.upto netUndoneSpec)

/-- 'dockyardlaw03.NetCounts', WHERE WHAT IT READS IS OF BULK AT MOST 1048576: true; the input reads as it did. -/
def netCountsUptoRow : OpenClaim := { program := "ytogiedephnappaa", sum := "25fb04f3ad873704199d7b9a864a2275c0ef405e98a6eb76a908a9f2da6e08ef", func := "dockyard/dockyardlaw03.NetCounts", spec := "netCounts", apart := false, narrowed := true }
def NetCountsUptoSaid : Prop := netCountsUptoRow.holds Try.pinned (OpenSpec.upto netCountsSpec)

/-- 'dockyardlaw03.NetOrder', WHERE WHAT IT READS IS OF BULK AT MOST 1048576: true; the input reads as it did. -/
def netOrderUptoRow : OpenClaim := { program := "ytogiedephnappaa", sum := "25fb04f3ad873704199d7b9a864a2275c0ef405e98a6eb76a908a9f2da6e08ef", func := "dockyard/dockyardlaw03.NetOrder", spec := "netOrder", apart := false, narrowed := true }
def NetOrderUptoSaid : Prop := netOrderUptoRow.holds Try.pinned (OpenSpec.upto netOrderSpec)

/-- 'dockyardlaw03.NetAll', WHERE WHAT IT READS IS OF BULK AT MOST 1048576: true; the input reads as it did. -/
def netAllUptoRow : OpenClaim := { program := "ytogiedephnappaa", sum := "25fb04f3ad873704199d7b9a864a2275c0ef405e98a6eb76a908a9f2da6e08ef", func := "dockyard/dockyardlaw03.NetAll", spec := "netAll", unfollowed := true, recurses := true, apart := false, narrowed := true }
def NetAllUptoSaid : Prop := netAllUptoRow.holds Try.pinned (OpenSpec.upto netAllSpec)

/-- 'dockyardlaw03.NetClones', WHERE WHAT IT READS IS OF BULK AT MOST 1048576: true; the input reads as it did. -/
def netClonesUptoRow : OpenClaim := { program := "ytogiedephnappaa", sum := "25fb04f3ad873704199d7b9a864a2275c0ef405e98a6eb76a908a9f2da6e08ef", func := "dockyard/dockyardlaw03.NetClones", spec := "netClones", unfollowed := true, recurses := true, apart := false, narrowed := true }
def NetClonesUptoSaid : Prop := netClonesUptoRow.holds Try.pinned (OpenSpec.upto netClonesSpec)

end Rows
end Go.Proofs.Ytogiedephnappaa
