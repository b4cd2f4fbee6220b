/-
  No cell of these rows narrows 'for every input' (looked for: loops, veiled, ifaces, maps, wideKeys, modest, calm, conditions, laid).
  DERIVED. THE GIVEN ROWS OF THIS SEAT. 6 by the template 'for every input the law returns true; each argument reads behind the call as it read before'; 0 by the template 'total and deterministic' (their statements: YtcbfmpnkadkpdaaTotals.lean).
  GIVEN WITH THE SEED: the statements are not yours to turn. If you find one false, say at which input.
  Laid BY PROGRAM, IN A SANDBOX (cutbox-rows.mjs): the forced cells as the released guide's own fill.sh prints them over the translation 3efa6c17d5cdc802… (all of the seat's roots in one cut). By AI agents, Wed Nov 11 2026. No macro, syntax, notation, axiom, sorry.
-/
import Derived.Test.YtcbfmpnkadkpdaaChecked
import GoSem.Claim
import GoSem.ClaimJoined
import GoSem.ClaimMapViews
import Derived.JoinedTies
import Derived.KernelRfl
namespace Go.Proofs.Ytcbfmpnkadkpdaa
/- THE CELL 'sum', in the pinned program and in every row, IS THE sha256 OF THE DUMP (.gsa) THAT YtcbfmpnkadkpdaaProg.lean LOADS. Nothing in Lean hashes anything: it is a label: what it is worth is what the hold of that sum in a sandbox is worth. -/
noncomputable def Try.pinned : Pinned := { name := "ytcbfmpnkadkpdaa", sum := "3efa6c17d5cdc802a8c78a248ab702b035fba5614bf49d8a6e7c3a3bfda39adc", checked := Try.checked }
namespace Rows
def none {H : Type} : Left H := { results := [], args := [] }

/-- 'brevetlaw18.ClosureChain': WHATEVER THE INPUT: true; the input reads as it did. -/
def closureChainSpec : ChangeSpec := { name := "closureChain", fn := fun _ => fun
  | [d1, d2, d3] => { results := [.lit (.bool true)], args := [d1, d2, d3] }
  | _ => none }
def closureChainRow : OpenClaim := { program := "ytcbfmpnkadkpdaa", sum := "3efa6c17d5cdc802a8c78a248ab702b035fba5614bf49d8a6e7c3a3bfda39adc", func := "brevet/brevetlaw18.ClosureChain", spec := "closureChain", unfollowed := true, recurses := true, plainKeys := false, apart := false }
def ClosureChainSaid : Prop := closureChainRow.holds Try.pinned (OpenSpec.ofChange closureChainSpec)

/-- ITS FALSE NEIGHBOUR: 'it returns false'. Refute it at one input. -/
def closureChainWrong : ChangeSpec := { name := "closureChain", fn := fun _ => fun
  | [d1, d2, d3] => { results := [.lit (.bool false)], args := [d1, d2, d3] }
  | _ => none }
def ClosureChainWrongFalsely : Prop := closureChainRow.holds Try.pinned (OpenSpec.ofChange closureChainWrong)

/-- 'brevetlaw18.ClosureMore': WHATEVER THE INPUT: true; the input reads as it did. -/
def closureMoreSpec : ChangeSpec := { name := "closureMore", fn := fun _ => fun
  | [d1, d2, d3] => { results := [.lit (.bool true)], args := [d1, d2, d3] }
  | _ => none }
def closureMoreRow : OpenClaim := { program := "ytcbfmpnkadkpdaa", sum := "3efa6c17d5cdc802a8c78a248ab702b035fba5614bf49d8a6e7c3a3bfda39adc", func := "brevet/brevetlaw18.ClosureMore", spec := "closureMore", unfollowed := true, recurses := true, plainKeys := false, apart := false }
def ClosureMoreSaid : Prop := closureMoreRow.holds Try.pinned (OpenSpec.ofChange closureMoreSpec)

/-- ITS FALSE NEIGHBOUR: 'it returns false'. Refute it at one input. -/
def closureMoreWrong : ChangeSpec := { name := "closureMore", fn := fun _ => fun
  | [d1, d2, d3] => { results := [.lit (.bool false)], args := [d1, d2, d3] }
  | _ => none }
def ClosureMoreWrongFalsely : Prop := closureMoreRow.holds Try.pinned (OpenSpec.ofChange closureMoreWrong)

/-- 'brevetlaw18.ClosureMany': WHATEVER THE INPUT: true; the input reads as it did. -/
def closureManySpec : ChangeSpec := { name := "closureMany", fn := fun _ => fun
  | [d] => { results := [.lit (.bool true)], args := [d] }
  | _ => none }
def closureManyRow : OpenClaim := { program := "ytcbfmpnkadkpdaa", sum := "3efa6c17d5cdc802a8c78a248ab702b035fba5614bf49d8a6e7c3a3bfda39adc", func := "brevet/brevetlaw18.ClosureMany", spec := "closureMany", unfollowed := true, recurses := true, plainKeys := false, apart := false }
def ClosureManySaid : Prop := closureManyRow.holds Try.pinned (OpenSpec.ofChange closureManySpec)

/-- ITS FALSE NEIGHBOUR: 'it returns false'. Refute it at one input. -/
def closureManyWrong : ChangeSpec := { name := "closureMany", fn := fun _ => fun
  | [d] => { results := [.lit (.bool false)], args := [d] }
  | _ => none }
def ClosureManyWrongFalsely : Prop := closureManyRow.holds Try.pinned (OpenSpec.ofChange closureManyWrong)

/-- 'brevetlaw18.ClosureOwns': WHATEVER THE INPUT: true; the input reads as it did. -/
def closureOwnsSpec : ChangeSpec := { name := "closureOwns", fn := fun _ => fun
  | [d1, d2] => { results := [.lit (.bool true)], args := [d1, d2] }
  | _ => none }
def closureOwnsRow : OpenClaim := { program := "ytcbfmpnkadkpdaa", sum := "3efa6c17d5cdc802a8c78a248ab702b035fba5614bf49d8a6e7c3a3bfda39adc", func := "brevet/brevetlaw18.ClosureOwns", spec := "closureOwns", unfollowed := true, recurses := true, plainKeys := false, apart := false }
def ClosureOwnsSaid : Prop := closureOwnsRow.holds Try.pinned (OpenSpec.ofChange closureOwnsSpec)

/-- ITS FALSE NEIGHBOUR: 'it returns false'. Refute it at one input. -/
def closureOwnsWrong : ChangeSpec := { name := "closureOwns", fn := fun _ => fun
  | [d1, d2] => { results := [.lit (.bool false)], args := [d1, d2] }
  | _ => none }
def ClosureOwnsWrongFalsely : Prop := closureOwnsRow.holds Try.pinned (OpenSpec.ofChange closureOwnsWrong)

/-- 'brevetlaw18.ClosureMay': WHATEVER THE INPUT: true; the input reads as it did. -/
def closureMaySpec : ChangeSpec := { name := "closureMay", fn := fun _ => fun
  | [d1, d2, d3] => { results := [.lit (.bool true)], args := [d1, d2, d3] }
  | _ => none }
def closureMayRow : OpenClaim := { program := "ytcbfmpnkadkpdaa", sum := "3efa6c17d5cdc802a8c78a248ab702b035fba5614bf49d8a6e7c3a3bfda39adc", func := "brevet/brevetlaw18.ClosureMay", spec := "closureMay", unfollowed := true, recurses := true, plainKeys := false, apart := false }
def ClosureMaySaid : Prop := closureMayRow.holds Try.pinned (OpenSpec.ofChange closureMaySpec)

/-- ITS FALSE NEIGHBOUR: 'it returns false'. Refute it at one input. -/
def closureMayWrong : ChangeSpec := { name := "closureMay", fn := fun _ => fun
  | [d1, d2, d3] => { results := [.lit (.bool false)], args := [d1, d2, d3] }
  | _ => none }
def ClosureMayWrongFalsely : Prop := closureMayRow.holds Try.pinned (OpenSpec.ofChange closureMayWrong)

/-- 'brevetlaw18.ClosureFits': WHATEVER THE INPUT: true; the input reads as it did. -/
def closureFitsSpec : ChangeSpec := { name := "closureFits", fn := fun _ => fun
  | [d1, d2, d3, d4] => { results := [.lit (.bool true)], args := [d1, d2, d3, d4] }
  | _ => none }
def closureFitsRow : OpenClaim := { program := "ytcbfmpnkadkpdaa", sum := "3efa6c17d5cdc802a8c78a248ab702b035fba5614bf49d8a6e7c3a3bfda39adc", func := "brevet/brevetlaw18.ClosureFits", spec := "closureFits", unfollowed := true, recurses := true, plainKeys := false, apart := false }
def ClosureFitsSaid : Prop := closureFitsRow.holds Try.pinned (OpenSpec.ofChange closureFitsSpec)

/-- ITS FALSE NEIGHBOUR: 'it returns false'. Refute it at one input. -/
def closureFitsWrong : ChangeSpec := { name := "closureFits", fn := fun _ => fun
  | [d1, d2, d3, d4] => { results := [.lit (.bool false)], args := [d1, d2, d3, d4] }
  | _ => none }
def ClosureFitsWrongFalsely : Prop := closureFitsRow.holds Try.pinned (OpenSpec.ofChange closureFitsWrong)

/- THE SECOND FORM. 'bulk': how many values and letters a reading holds, each counted each time it is reached (what is shared counts as often as it is met; a slice's spare places count too). A statement '..UptoSaid' is the law's where the arguments, and the package variables that the reading takes, are together of bulk at most 1048576: NARROWER than '..Said'. Prove '..Said' where nothing that the law and all that it calls make is longer than what came in: it says more and counts as full. Else prove '..UptoSaid'. A law counts once. -/
mutual
def uptoBulk {H : Type} : DataW H → Nat
  | .lit (.string bytes) => bytes.length + 1
  | .lit _ => 1
  | .nil => 1
  | .ptr d => uptoBulk d + 1
  | .slice elems spare => uptoBulkAll elems + uptoBulkAll spare + 1
  | .agg parts => uptoBulkAll parts + 1
  | .iface _ d => uptoBulk d + 1
  | .map entries => uptoBulkEntries entries + 1
  | .held _ => 1
def uptoBulkAll {H : Type} : List (DataW H) → Nat
  | [] => 0
  | d :: r => uptoBulk d + uptoBulkAll r
def uptoBulkEntries {H : Type} : List (Lit × DataW H) → Nat
  | [] => 0
  | x :: r => uptoBulkEntry x + uptoBulkEntries r
def uptoBulkEntry {H : Type} : Lit × DataW H → Nat
  | (.string bytes, d) => bytes.length + uptoBulk d + 1
  | (_, d) => uptoBulk d + 1
 end
def uptoSmall : (H : Type) → List (DataW H) → Bool := fun _ ds => decide (uptoBulkAll ds ≤ 1048576)
def OpenSpec.upto (s : _root_.Go.ChangeSpec) : _root_.Go.OpenSpec := { _root_.Go.OpenSpec.ofChange s with cond := some uptoSmall }

/-- 'brevetlaw18.ClosureChain', WHERE WHAT IT READS IS OF BULK AT MOST 1048576: true; the input reads as it did. -/
def closureChainUptoRow : OpenClaim := { program := "ytcbfmpnkadkpdaa", sum := "3efa6c17d5cdc802a8c78a248ab702b035fba5614bf49d8a6e7c3a3bfda39adc", func := "brevet/brevetlaw18.ClosureChain", spec := "closureChain", unfollowed := true, recurses := true, plainKeys := false, apart := false, narrowed := true }
def ClosureChainUptoSaid : Prop := closureChainUptoRow.holds Try.pinned (OpenSpec.upto closureChainSpec)

/-- 'brevetlaw18.ClosureMore', WHERE WHAT IT READS IS OF BULK AT MOST 1048576: true; the input reads as it did. -/
def closureMoreUptoRow : OpenClaim := { program := "ytcbfmpnkadkpdaa", sum := "3efa6c17d5cdc802a8c78a248ab702b035fba5614bf49d8a6e7c3a3bfda39adc", func := "brevet/brevetlaw18.ClosureMore", spec := "closureMore", unfollowed := true, recurses := true, plainKeys := false, apart := false, narrowed := true }
def ClosureMoreUptoSaid : Prop := closureMoreUptoRow.holds Try.pinned (OpenSpec.upto closureMoreSpec)

/-- 'brevetlaw18.ClosureMany', WHERE WHAT IT READS IS OF BULK AT MOST 1048576: true; the input reads as it did. -/
def closureManyUptoRow : OpenClaim := { program := "ytcbfmpnkadkpdaa", sum := "3efa6c17d5cdc802a8c78a248ab702b035fba5614bf49d8a6e7c3a3bfda39adc", func := "brevet/brevetlaw18.ClosureMany", spec := "closureMany", unfollowed := true, recurses := true, plainKeys := false, apart := false, narrowed := true }
def ClosureManyUptoSaid : Prop := closureManyUptoRow.holds Try.pinned (OpenSpec.upto closureManySpec)

/-- 'brevetlaw18.ClosureOwns', WHERE WHAT IT READS IS OF BULK AT MOST 1048576: true; the input reads as it did. -/
def closureOwnsUptoRow : OpenClaim := { program := "ytcbfmpnkadkpdaa", sum := "3efa6c17d5cdc802a8c78a248ab702b035fba5614bf49d8a6e7c3a3bfda39adc", func := "brevet/brevetlaw18.ClosureOwns", spec := "closureOwns", unfollowed := true, recurses := true, plainKeys := false, apart := false, narrowed := true }
def ClosureOwnsUptoSaid : Prop := closureOwnsUptoRow.holds Try.pinned (OpenSpec.upto closureOwnsSpec)

/-- 'brevetlaw18.ClosureMay', WHERE WHAT IT READS IS OF BULK AT MOST 1048576: true; the input reads as it did. -/
def closureMayUptoRow : OpenClaim := { program := "ytcbfmpnkadkpdaa", sum := "3efa6c17d5cdc802a8c78a248ab702b035fba5614bf49d8a6e7c3a3bfda39adc", func := "brevet/brevetlaw18.ClosureMay", spec := "closureMay", unfollowed := true, recurses := true, plainKeys := false, apart := false, narrowed := true }
def ClosureMayUptoSaid : Prop := closureMayUptoRow.holds Try.pinned (OpenSpec.upto closureMaySpec)

/-- 'brevetlaw18.ClosureFits', WHERE WHAT IT READS IS OF BULK AT MOST 1048576: true; the input reads as it did. -/
def closureFitsUptoRow : OpenClaim := { program := "ytcbfmpnkadkpdaa", sum := "3efa6c17d5cdc802a8c78a248ab702b035fba5614bf49d8a6e7c3a3bfda39adc", func := "brevet/brevetlaw18.ClosureFits", spec := "closureFits", unfollowed := true, recurses := true, plainKeys := false, apart := false, narrowed := true }
def ClosureFitsUptoSaid : Prop := closureFitsUptoRow.holds Try.pinned (OpenSpec.upto closureFitsSpec)

end Rows
end Go.Proofs.Ytcbfmpnkadkpdaa
