/-
  No cell of these rows narrows 'for every input' (looked for: loops, veiled, ifaces, maps, wideKeys, modest, calm, conditions, laid).
  DERIVED. THE GIVEN ROWS OF THIS SEAT. 5 by the template 'for every input the law returns true; each argument reads behind the call as it read before'; 0 by the template 'total and deterministic' (their statements: YtffmhejkhimkcaaTotals.lean).
  GIVEN WITH THE SEED: the statements are not yours to turn. If you find one false, say at which input.
  Laid BY PROGRAM, IN A SANDBOX (cutbox-rows.mjs): the forced cells as the released guide's own fill.sh prints them over the translation 2911ce2119d310a1… (all of the seat's roots in one cut). By AI agents, Wed Nov 11 2026. No macro, syntax, notation, axiom, sorry.
-/
import Derived.Test.YtffmhejkhimkcaaChecked
import GoSem.Claim
import GoSem.ClaimJoined
import GoSem.ClaimMapViews
import Derived.JoinedTies
import Derived.KernelRfl
namespace Go.Proofs.Ytffmhejkhimkcaa
/- THE CELL 'sum', in the pinned program and in every row, IS THE sha256 OF THE DUMP (.gsa) THAT YtffmhejkhimkcaaProg.lean LOADS. Nothing in Lean hashes anything: it is a label: what it is worth is what the hold of that sum in a sandbox is worth. -/
noncomputable def Try.pinned : Pinned := { name := "ytffmhejkhimkcaa", sum := "2911ce2119d310a168f39cb41e38d1a5ae7f1ae7160f27dab789ed547ce567a3", checked := Try.checked }
namespace Rows
def none {H : Type} : Left H := { results := [], args := [] }

/-- 'brevetlaw22.CacheFew': WHATEVER THE INPUT: true; the input reads as it did. -/
def cacheFewSpec : ChangeSpec := { name := "cacheFew", fn := fun _ => fun
  | [d] => { results := [.lit (.bool true)], args := [d] }
  | _ => none }
def cacheFewRow : OpenClaim := { program := "ytffmhejkhimkcaa", sum := "2911ce2119d310a168f39cb41e38d1a5ae7f1ae7160f27dab789ed547ce567a3", func := "brevet/brevetlaw22.CacheFew", spec := "cacheFew", unfollowed := true, recurses := true, apart := false }
def CacheFewSaid : Prop := cacheFewRow.holds Try.pinned (OpenSpec.ofChange cacheFewSpec)

/-- ITS FALSE NEIGHBOUR: 'it returns false'. Refute it at one input. -/
def cacheFewWrong : ChangeSpec := { name := "cacheFew", fn := fun _ => fun
  | [d] => { results := [.lit (.bool false)], args := [d] }
  | _ => none }
def CacheFewWrongFalsely : Prop := cacheFewRow.holds Try.pinned (OpenSpec.ofChange cacheFewWrong)

/-- 'brevetlaw22.CacheUsed': WHATEVER THE INPUT: true; the input reads as it did. -/
def cacheUsedSpec : ChangeSpec := { name := "cacheUsed", fn := fun _ => fun
  | [d] => { results := [.lit (.bool true)], args := [d] }
  | _ => none }
def cacheUsedRow : OpenClaim := { program := "ytffmhejkhimkcaa", sum := "2911ce2119d310a168f39cb41e38d1a5ae7f1ae7160f27dab789ed547ce567a3", func := "brevet/brevetlaw22.CacheUsed", spec := "cacheUsed", unfollowed := true, recurses := true, apart := false }
def CacheUsedSaid : Prop := cacheUsedRow.holds Try.pinned (OpenSpec.ofChange cacheUsedSpec)

/-- ITS FALSE NEIGHBOUR: 'it returns false'. Refute it at one input. -/
def cacheUsedWrong : ChangeSpec := { name := "cacheUsed", fn := fun _ => fun
  | [d] => { results := [.lit (.bool false)], args := [d] }
  | _ => none }
def CacheUsedWrongFalsely : Prop := cacheUsedRow.holds Try.pinned (OpenSpec.ofChange cacheUsedWrong)

/-- 'brevetlaw22.CacheOver': WHATEVER THE INPUT: true; the input reads as it did. -/
def cacheOverSpec : ChangeSpec := { name := "cacheOver", fn := fun _ => fun
  | [d1, d2, d3, d4] => { results := [.lit (.bool true)], args := [d1, d2, d3, d4] }
  | _ => none }
def cacheOverRow : OpenClaim := { program := "ytffmhejkhimkcaa", sum := "2911ce2119d310a168f39cb41e38d1a5ae7f1ae7160f27dab789ed547ce567a3", func := "brevet/brevetlaw22.CacheOver", spec := "cacheOver", unfollowed := true, recurses := true, apart := false }
def CacheOverSaid : Prop := cacheOverRow.holds Try.pinned (OpenSpec.ofChange cacheOverSpec)

/-- ITS FALSE NEIGHBOUR: 'it returns false'. Refute it at one input. -/
def cacheOverWrong : ChangeSpec := { name := "cacheOver", fn := fun _ => fun
  | [d1, d2, d3, d4] => { results := [.lit (.bool false)], args := [d1, d2, d3, d4] }
  | _ => none }
def CacheOverWrongFalsely : Prop := cacheOverRow.holds Try.pinned (OpenSpec.ofChange cacheOverWrong)

/-- 'brevetlaw22.CacheOwns': WHATEVER THE INPUT: true; the input reads as it did. -/
def cacheOwnsSpec : ChangeSpec := { name := "cacheOwns", fn := fun _ => fun
  | [d] => { results := [.lit (.bool true)], args := [d] }
  | _ => none }
def cacheOwnsRow : OpenClaim := { program := "ytffmhejkhimkcaa", sum := "2911ce2119d310a168f39cb41e38d1a5ae7f1ae7160f27dab789ed547ce567a3", func := "brevet/brevetlaw22.CacheOwns", spec := "cacheOwns", unfollowed := true, recurses := true, apart := false }
def CacheOwnsSaid : Prop := cacheOwnsRow.holds Try.pinned (OpenSpec.ofChange cacheOwnsSpec)

/-- ITS FALSE NEIGHBOUR: 'it returns false'. Refute it at one input. -/
def cacheOwnsWrong : ChangeSpec := { name := "cacheOwns", fn := fun _ => fun
  | [d] => { results := [.lit (.bool false)], args := [d] }
  | _ => none }
def CacheOwnsWrongFalsely : Prop := cacheOwnsRow.holds Try.pinned (OpenSpec.ofChange cacheOwnsWrong)

/-- 'brevetlaw22.CachePlays': WHATEVER THE INPUT: true; the input reads as it did. -/
def cachePlaysSpec : ChangeSpec := { name := "cachePlays", fn := fun _ => fun
  | [d1, d2] => { results := [.lit (.bool true)], args := [d1, d2] }
  | _ => none }
def cachePlaysRow : OpenClaim := { program := "ytffmhejkhimkcaa", sum := "2911ce2119d310a168f39cb41e38d1a5ae7f1ae7160f27dab789ed547ce567a3", func := "brevet/brevetlaw22.CachePlays", spec := "cachePlays", unfollowed := true, recurses := true, apart := false }
def CachePlaysSaid : Prop := cachePlaysRow.holds Try.pinned (OpenSpec.ofChange cachePlaysSpec)

/-- ITS FALSE NEIGHBOUR: 'it returns false'. Refute it at one input. -/
def cachePlaysWrong : ChangeSpec := { name := "cachePlays", fn := fun _ => fun
  | [d1, d2] => { results := [.lit (.bool false)], args := [d1, d2] }
  | _ => none }
def CachePlaysWrongFalsely : Prop := cachePlaysRow.holds Try.pinned (OpenSpec.ofChange cachePlaysWrong)

/- THE SECOND FORM. 'bulk': how many values and letters a reading holds, each counted each time it is reached (what is shared counts as often as it is met; a slice's spare places count too). A statement '..UptoSaid' is the law's where the arguments, and the package variables that the reading takes, are together of bulk at most 1048576: NARROWER than '..Said'. Prove '..Said' where nothing that the law and all that it calls make is longer than what came in: it says more and counts as full. Else prove '..UptoSaid'. A law counts once. -/
mutual
def uptoBulk {H : Type} : DataW H → Nat
  | .lit (.string bytes) => bytes.length + 1
  | .lit _ => 1
  | .nil => 1
  | .ptr d => uptoBulk d + 1
  | .slice elems spare => uptoBulkAll elems + uptoBulkAll spare + 1
  | .agg parts => uptoBulkAll parts + 1
  | .iface _ d => uptoBulk d + 1
  | .map entries => uptoBulkEntries entries + 1
  | .held _ => 1
def uptoBulkAll {H : Type} : List (DataW H) → Nat
  | [] => 0
  | d :: r => uptoBulk d + uptoBulkAll r
def uptoBulkEntries {H : Type} : List (Lit × DataW H) → Nat
  | [] => 0
  | x :: r => uptoBulkEntry x + uptoBulkEntries r
def uptoBulkEntry {H : Type} : Lit × DataW H → Nat
  | (.string bytes, d) => bytes.length + uptoBulk d + 1
  | (_, d) => uptoBulk d + 1
 end
def uptoSmall : (H : Type) → List (DataW H) → Bool := fun _ ds => decide (uptoBulkAll ds ≤ 1048576)
def OpenSpec.upto (s : _root_.Go.ChangeSpec) : _root_.Go.OpenSpec := { _root_.Go.OpenSpec.ofChange s with cond := some uptoSmall }

/-- 'brevetlaw22.CacheFew', WHERE WHAT IT READS IS OF BULK AT MOST 1048576: true; the input reads as it did. -/
def cacheFewUptoRow : OpenClaim := { program := "ytffmhejkhimkcaa", sum := "2911ce2119d310a168f39cb41e38d1a5ae7f1ae7160f27dab789ed547ce567a3", func := "brevet/brevetlaw22.CacheFew", spec := "cacheFew", unfollowed := true, recurses := true, apart := false, narrowed := true }
def CacheFewUptoSaid : Prop := cacheFewUptoRow.holds Try.pinned (OpenSpec.upto cacheFewSpec)

/-- 'brevetlaw22.CacheUsed', WHERE WHAT IT READS IS OF BULK AT MOST 1048576: true; the input reads as it did. -/
def cacheUsedUptoRow : OpenClaim := { program := "ytffmhejkhimkcaa", sum := "2911ce2119d310a168f39cb41e38d1a5ae7f1ae7160f27dab789ed547ce567a3", func := "brevet/brevetlaw22.CacheUsed", spec := "cacheUsed", unfollowed := true, recurses := true, apart := false, narrowed := true }
def CacheUsedUptoSaid : Prop := cacheUsedUptoRow.holds Try.pinned (OpenSpec.upto cacheUsedSpec)

/-- 'brevetlaw22.CacheOver', WHERE WHAT IT READS IS OF BULK AT MOST 1048576: true; the input reads as it did. -/
def cacheOverUptoRow : OpenClaim := { program := "ytffmhejkhimkcaa", sum := "2911ce2119d310a168f39cb41e38d1a5ae7f1ae7160f27dab789ed547ce567a3", func := "brevet/brevetlaw22.CacheOver", spec := "cacheOver", unfollowed := true, recurses := true, apart := false, narrowed := true }
def CacheOverUptoSaid : Prop := cacheOverUptoRow.holds Try.pinned (OpenSpec.upto cacheOverSpec)

/-- 'brevetlaw22.CacheOwns', WHERE WHAT IT READS IS OF BULK AT MOST 1048576: true; the input reads as it did. -/
def cacheOwnsUptoRow : OpenClaim := { program := "ytffmhejkhimkcaa", sum := "2911ce2119d310a168f39cb41e38d1a5ae7f1ae7160f27dab789ed547ce567a3", func := "brevet/brevetlaw22.CacheOwns", spec := "cacheOwns", unfollowed := true, recurses := true, apart := false, narrowed := true }
def CacheOwnsUptoSaid : Prop := cacheOwnsUptoRow.holds Try.pinned (OpenSpec.upto cacheOwnsSpec)

/-- 'brevetlaw22.CachePlays', WHERE WHAT IT READS IS OF BULK AT MOST 1048576: true; the input reads as it did. -/
def cachePlaysUptoRow : OpenClaim := { program := "ytffmhejkhimkcaa", sum := "2911ce2119d310a168f39cb41e38d1a5ae7f1ae7160f27dab789ed547ce567a3", func := "brevet/brevetlaw22.CachePlays", spec := "cachePlays", unfollowed := true, recurses := true, apart := false, narrowed := true }
def CachePlaysUptoSaid : Prop := cachePlaysUptoRow.holds Try.pinned (OpenSpec.upto cachePlaysSpec)

end Rows
end Go.Proofs.Ytffmhejkhimkcaa
