/-
  No cell of these rows narrows 'for every input' (looked for: loops, veiled, ifaces, maps, wideKeys, modest, calm, conditions, laid).
  DERIVED. THE GIVEN ROWS OF THIS SEAT. 6 by the template 'for every input the law returns true; each argument reads behind the call as it read before'; 0 by the template 'total and deterministic' (their statements: YtciekdcbjfpfoaaTotals.lean).
  GIVEN WITH THE SEED: the statements are not yours to turn. If you find one false, say at which input.
  Laid BY PROGRAM, IN A SANDBOX (cutbox-rows.mjs): the forced cells as the released guide's own fill.sh prints them over the translation 9b58f1a48bf6cc44… (all of the seat's roots in one cut). By AI agents, Wed Nov 11 2026. No macro, syntax, notation, axiom, sorry.
-/
import Derived.Test.YtciekdcbjfpfoaaChecked
import GoSem.Claim
import GoSem.ClaimJoined
import GoSem.ClaimMapViews
import Derived.JoinedTies
import Derived.KernelRfl
namespace Go.Proofs.Ytciekdcbjfpfoaa
/- THE CELL 'sum', in the pinned program and in every row, IS THE sha256 OF THE DUMP (.gsa) THAT YtciekdcbjfpfoaaProg.lean LOADS. Nothing in Lean hashes anything: it is a label: what it is worth is what the hold of that sum in a sandbox is worth. -/
noncomputable def Try.pinned : Pinned := { name := "ytciekdcbjfpfoaa", sum := "9b58f1a48bf6cc448e8a7c5d259838d62f110b5620d9b5888f08d2b9b4a40b40", checked := Try.checked }
namespace Rows
def none {H : Type} : Left H := { results := [], args := [] }

/-- 'dockyardlaw10.LeaseGrants': WHATEVER THE INPUT: true; the input reads as it did. -/
def leaseGrantsSpec : ChangeSpec := { name := "leaseGrants", fn := fun _ => fun
  | [d1, d2] => { results := [.lit (.bool true)], args := [d1, d2] }
  | _ => none }
def leaseGrantsRow : OpenClaim := { program := "ytciekdcbjfpfoaa", sum := "9b58f1a48bf6cc448e8a7c5d259838d62f110b5620d9b5888f08d2b9b4a40b40", func := "dockyard/dockyardlaw10.LeaseGrants", spec := "leaseGrants", apart := false }
def LeaseGrantsSaid : Prop := leaseGrantsRow.holds Try.pinned (OpenSpec.ofChange leaseGrantsSpec)

/-- ITS FALSE NEIGHBOUR: 'it returns false'. Refute it at one input. -/
def leaseGrantsWrong : ChangeSpec := { name := "leaseGrants", fn := fun _ => fun
  | [d1, d2] => { results := [.lit (.bool false)], args := [d1, d2] }
  | _ => none }
def LeaseGrantsWrongFalsely : Prop := leaseGrantsRow.holds Try.pinned (OpenSpec.ofChange leaseGrantsWrong)

/-- 'dockyardlaw10.LeaseRises': WHATEVER THE INPUT: true; the input reads as it did. -/
def leaseRisesSpec : ChangeSpec := { name := "leaseRises", fn := fun _ => fun
  | [d1, d2] => { results := [.lit (.bool true)], args := [d1, d2] }
  | _ => none }
def leaseRisesRow : OpenClaim := { program := "ytciekdcbjfpfoaa", sum := "9b58f1a48bf6cc448e8a7c5d259838d62f110b5620d9b5888f08d2b9b4a40b40", func := "dockyard/dockyardlaw10.LeaseRises", spec := "leaseRises", apart := false }
def LeaseRisesSaid : Prop := leaseRisesRow.holds Try.pinned (OpenSpec.ofChange leaseRisesSpec)

/-- ITS FALSE NEIGHBOUR: 'it returns false'. Refute it at one input. -/
def leaseRisesWrong : ChangeSpec := { name := "leaseRises", fn := fun _ => fun
  | [d1, d2] => { results := [.lit (.bool false)], args := [d1, d2] }
  | _ => none }
def LeaseRisesWrongFalsely : Prop := leaseRisesRow.holds Try.pinned (OpenSpec.ofChange leaseRisesWrong)

/-- 'dockyardlaw10.LeaseApart': WHATEVER THE INPUT: true; the input reads as it did. -/
def leaseApartSpec : ChangeSpec := { name := "leaseApart", fn := fun _ => fun
  | [d1, d2, d3] => { results := [.lit (.bool true)], args := [d1, d2, d3] }
  | _ => none }
def leaseApartRow : OpenClaim := { program := "ytciekdcbjfpfoaa", sum := "9b58f1a48bf6cc448e8a7c5d259838d62f110b5620d9b5888f08d2b9b4a40b40", func := "dockyard/dockyardlaw10.LeaseApart", spec := "leaseApart", apart := false }
def LeaseApartSaid : Prop := leaseApartRow.holds Try.pinned (OpenSpec.ofChange leaseApartSpec)

/-- ITS FALSE NEIGHBOUR: 'it returns false'. Refute it at one input. -/
def leaseApartWrong : ChangeSpec := { name := "leaseApart", fn := fun _ => fun
  | [d1, d2, d3] => { results := [.lit (.bool false)], args := [d1, d2, d3] }
  | _ => none }
def LeaseApartWrongFalsely : Prop := leaseApartRow.holds Try.pinned (OpenSpec.ofChange leaseApartWrong)

/-- 'dockyardlaw10.LeaseHolds': WHATEVER THE INPUT: true; the input reads as it did. -/
def leaseHoldsSpec : ChangeSpec := { name := "leaseHolds", fn := fun _ => fun
  | [d1, d2, d3] => { results := [.lit (.bool true)], args := [d1, d2, d3] }
  | _ => none }
def leaseHoldsRow : OpenClaim := { program := "ytciekdcbjfpfoaa", sum := "9b58f1a48bf6cc448e8a7c5d259838d62f110b5620d9b5888f08d2b9b4a40b40", func := "dockyard/dockyardlaw10.LeaseHolds", spec := "leaseHolds", apart := false }
def LeaseHoldsSaid : Prop := leaseHoldsRow.holds Try.pinned (OpenSpec.ofChange leaseHoldsSpec)

/-- ITS FALSE NEIGHBOUR: 'it returns false'. Refute it at one input. -/
def leaseHoldsWrong : ChangeSpec := { name := "leaseHolds", fn := fun _ => fun
  | [d1, d2, d3] => { results := [.lit (.bool false)], args := [d1, d2, d3] }
  | _ => none }
def LeaseHoldsWrongFalsely : Prop := leaseHoldsRow.holds Try.pinned (OpenSpec.ofChange leaseHoldsWrong)

/-- 'dockyardlaw10.LeaseEnds': WHATEVER THE INPUT: true; the input reads as it did. -/
def leaseEndsSpec : ChangeSpec := { name := "leaseEnds", fn := fun _ => fun
  | [d1, d2, d3] => { results := [.lit (.bool true)], args := [d1, d2, d3] }
  | _ => none }
def leaseEndsRow : OpenClaim := { program := "ytciekdcbjfpfoaa", sum := "9b58f1a48bf6cc448e8a7c5d259838d62f110b5620d9b5888f08d2b9b4a40b40", func := "dockyard/dockyardlaw10.LeaseEnds", spec := "leaseEnds", apart := false }
def LeaseEndsSaid : Prop := leaseEndsRow.holds Try.pinned (OpenSpec.ofChange leaseEndsSpec)

/-- ITS FALSE NEIGHBOUR: 'it returns false'. Refute it at one input. -/
def leaseEndsWrong : ChangeSpec := { name := "leaseEnds", fn := fun _ => fun
  | [d1, d2, d3] => { results := [.lit (.bool false)], args := [d1, d2, d3] }
  | _ => none }
def LeaseEndsWrongFalsely : Prop := leaseEndsRow.holds Try.pinned (OpenSpec.ofChange leaseEndsWrong)

/-- 'dockyardlaw10.LeaseChain': WHATEVER THE INPUT: true; the input reads as it did. -/
def leaseChainSpec : ChangeSpec := { name := "leaseChain", fn := fun _ => fun
  | [d1, d2, d3] => { results := [.lit (.bool true)], args := [d1, d2, d3] }
  | _ => none }
def leaseChainRow : OpenClaim := { program := "ytciekdcbjfpfoaa", sum := "9b58f1a48bf6cc448e8a7c5d259838d62f110b5620d9b5888f08d2b9b4a40b40", func := "dockyard/dockyardlaw10.LeaseChain", spec := "leaseChain", apart := false }
def LeaseChainSaid : Prop := leaseChainRow.holds Try.pinned (OpenSpec.ofChange leaseChainSpec)

/-- ITS FALSE NEIGHBOUR: 'it returns false'. Refute it at one input. -/
def leaseChainWrong : ChangeSpec := { name := "leaseChain", fn := fun _ => fun
  | [d1, d2, d3] => { results := [.lit (.bool false)], args := [d1, d2, d3] }
  | _ => none }
def LeaseChainWrongFalsely : Prop := leaseChainRow.holds Try.pinned (OpenSpec.ofChange leaseChainWrong)

/- THE SECOND FORM. 'bulk': how many values and letters a reading holds, each counted each time it is reached (what is shared counts as often as it is met; a slice's spare places count too). A statement '..UptoSaid' is the law's where the arguments, and the package variables that the reading takes, are together of bulk at most 1048576: NARROWER than '..Said'. Prove '..Said' where nothing that the law and all that it calls make is longer than what came in: it says more and counts as full. Else prove '..UptoSaid'. A law counts once. -/
mutual
def uptoBulk {H : Type} : DataW H → Nat
  | .lit (.string bytes) => bytes.length + 1
  | .lit _ => 1
  | .nil => 1
  | .ptr d => uptoBulk d + 1
  | .slice elems spare => uptoBulkAll elems + uptoBulkAll spare + 1
  | .agg parts => uptoBulkAll parts + 1
  | .iface _ d => uptoBulk d + 1
  | .map entries => uptoBulkEntries entries + 1
  | .held _ => 1
def uptoBulkAll {H : Type} : List (DataW H) → Nat
  | [] => 0
  | d :: r => uptoBulk d + uptoBulkAll r
def uptoBulkEntries {H : Type} : List (Lit × DataW H) → Nat
  | [] => 0
  | x :: r => uptoBulkEntry x + uptoBulkEntries r
def uptoBulkEntry {H : Type} : Lit × DataW H → Nat
  | (.string bytes, d) => bytes.length + uptoBulk d + 1
  | (_, d) => uptoBulk d + 1
 end
def uptoSmall : (H : Type) → List (DataW H) → Bool := fun _ ds => decide (uptoBulkAll ds ≤ 1048576)
def OpenSpec.upto (s : _root_.Go.ChangeSpec) : _root_.Go.OpenSpec := { _root_.Go.OpenSpec.ofChange s with cond := some uptoSmall }

/-- 'dockyardlaw10.LeaseGrants', WHERE WHAT IT READS IS OF BULK AT MOST 1048576: true; the input reads as it did. -/
def leaseGrantsUptoRow : OpenClaim := { program := "ytciekdcbjfpfoaa", sum := "9b58f1a48bf6cc448e8a7c5d259838d62f110b5620d9b5888f08d2b9b4a40b40", func := "dockyard/dockyardlaw10.LeaseGrants", spec := "leaseGrants", apart := false, narrowed := true }
def LeaseGrantsUptoSaid : Prop := leaseGrantsUptoRow.holds Try.pinned (OpenSpec.upto leaseGrantsSpec)

/-- 'dockyardlaw10.LeaseRises', WHERE WHAT IT READS IS OF BULK AT MOST 1048576: true; the input reads as it did. -/
def leaseRisesUptoRow : OpenClaim := { program := "ytciekdcbjfpfoaa", sum := "9b58f1a48bf6cc448e8a7c5d259838d62f110b5620d9b5888f08d2b9b4a40b40", func := "dockyard/dockyardlaw10.LeaseRises", spec := "leaseRises", apart := false, narrowed := true }
def LeaseRisesUptoSaid : Prop := leaseRisesUptoRow.holds Try.pinned (OpenSpec.upto leaseRisesSpec)

/-- 'dockyardlaw10.LeaseApart', WHERE WHAT IT READS IS OF BULK AT MOST 1048576: true; the input reads as it did. -/
def leaseApartUptoRow : OpenClaim := { program := "ytciekdcbjfpfoaa", sum := "9b58f1a48bf6cc448e8a7c5d259838d62f110b5620d9b5888f08d2b9b4a40b40", func := "dockyard/dockyardlaw10.LeaseApart", spec := "leaseApart", apart := false, narrowed := true }
def LeaseApartUptoSaid : Prop := leaseApartUptoRow.holds Try.pinned (OpenSpec.upto leaseApartSpec)

/-- 'dockyardlaw10.LeaseHolds', WHERE WHAT IT READS IS OF BULK AT MOST 1048576: true; the input reads as it did. -/
def leaseHoldsUptoRow : OpenClaim := { program := "ytciekdcbjfpfoaa", sum := "9b58f1a48bf6cc448e8a7c5d259838d62f110b5620d9b5888f08d2b9b4a40b40", func := "dockyard/dockyardlaw10.LeaseHolds", spec := "leaseHolds", apart := false, narrowed := true }
def LeaseHoldsUptoSaid : Prop := leaseHoldsUptoRow.holds Try.pinned (OpenSpec.upto leaseHoldsSpec)

/-- 'dockyardlaw10.LeaseEnds', WHERE WHAT IT READS IS OF BULK AT MOST 1048576: true; the input reads as it did. -/
def leaseEndsUptoRow : OpenClaim := { program := "ytciekdcbjfpfoaa", sum := "9b58f1a48bf6cc448e8a7c5d259838d62f110b5620d9b5888f08d2b9b4a40b40", func := "dockyard/dockyardlaw10.LeaseEnds", spec := "leaseEnds", apart := false, narrowed := true }
def LeaseEndsUptoSaid : Prop := leaseEndsUptoRow.holds Try.pinned (OpenSpec.upto leaseEndsSpec)

/-- 'dockyardlaw10.LeaseChain', WHERE WHAT IT READS IS OF BULK AT MOST 1048576: true; the input reads as it did. -/
def leaseChainUptoRow : OpenClaim := { program := "ytciekdcbjfpfoaa", sum := "9b58f1a48bf6cc448e8a7c5d259838d62f110b5620d9b5888f08d2b9b4a40b40", func := "dockyard/dockyardlaw10.LeaseChain", spec := "leaseChain", apart := false, narrowed := true }
def LeaseChainUptoSaid : Prop := leaseChainUptoRow.holds Try.pinned (OpenSpec.upto leaseChainSpec)

end Rows
end Go.Proofs.Ytciekdcbjfpfoaa
