/-
  No cell of these rows narrows 'for every input' (looked for: loops, veiled, ifaces, maps, wideKeys, modest, calm, conditions, laid).
  DERIVED. THE GIVEN ROWS OF THIS SEAT. 4 by the template 'for every input the law returns true; each argument reads behind the call as it read before'; 0 by the template 'total and deterministic' (their statements: YtldoihbblgnpjaaTotals.lean).
  GIVEN WITH THE SEED: the statements are not yours to turn. If you find one false, say at which input.
  Laid BY PROGRAM, IN A SANDBOX (cutbox-rows.mjs): the forced cells as the released guide's own fill.sh prints them over the translation 1b32119aa1374e0a… (all of the seat's roots in one cut). By AI agents, Wed Nov 11 2026. No macro, syntax, notation, axiom, sorry.
-/
import Derived.Test.YtldoihbblgnpjaaChecked
import GoSem.Claim
import GoSem.ClaimJoined
import GoSem.ClaimMapViews
import Derived.JoinedTies
import Derived.KernelRfl
namespace Go.Proofs.Ytldoihbblgnpjaa
/- THE CELL 'sum', in the pinned program and in every row, IS THE sha256 OF THE DUMP (.gsa) THAT YtldoihbblgnpjaaProg.lean LOADS. Nothing in Lean hashes anything: it is a label: what it is worth is what the hold of that sum in a sandbox is worth. -/
noncomputable def Try.pinned : Pinned := { name := "ytldoihbblgnpjaa", sum := "1b32119aa1374e0a75aceab677f15b856901791afea973dec4feaa94c7e41614", checked := Try.checked }
namespace Rows
def none {H : Type} : Left H := { results := [], args := [] }

/-- 'packthreadlaw.GlobMays': WHATEVER THE INPUT: true; the input reads as it did. -/
def globMaysSpec : ChangeSpec := { name := "globMays", fn := fun _ => fun
  | [d] => { results := [.lit (.bool true)], args := [d] }
  | _ => none }
def globMaysRow : OpenClaim := { program := "ytldoihbblgnpjaa", sum := "1b32119aa1374e0a75aceab677f15b856901791afea973dec4feaa94c7e41614", func := "packthread/packthreadlaw.GlobMays", spec := "globMays", unfollowed := true, recurses := true, apart := false }
def GlobMaysSaid : Prop := globMaysRow.holds Try.pinned (OpenSpec.ofChange globMaysSpec)

/-- ITS FALSE NEIGHBOUR: 'it returns false'. Refute it at one input. -/
def globMaysWrong : ChangeSpec := { name := "globMays", fn := fun _ => fun
  | [d] => { results := [.lit (.bool false)], args := [d] }
  | _ => none }
def GlobMaysWrongFalsely : Prop := globMaysRow.holds Try.pinned (OpenSpec.ofChange globMaysWrong)

/-- 'packthreadlaw.GlobMatches': WHATEVER THE INPUT: true; the input reads as it did. -/
def globMatchesSpec : ChangeSpec := { name := "globMatches", fn := fun _ => fun
  | [d1, d2] => { results := [.lit (.bool true)], args := [d1, d2] }
  | _ => none }
def globMatchesRow : OpenClaim := { program := "ytldoihbblgnpjaa", sum := "1b32119aa1374e0a75aceab677f15b856901791afea973dec4feaa94c7e41614", func := "packthread/packthreadlaw.GlobMatches", spec := "globMatches", unfollowed := true, recurses := true, apart := false }
def GlobMatchesSaid : Prop := globMatchesRow.holds Try.pinned (OpenSpec.ofChange globMatchesSpec)

/-- ITS FALSE NEIGHBOUR: 'it returns false'. Refute it at one input. -/
def globMatchesWrong : ChangeSpec := { name := "globMatches", fn := fun _ => fun
  | [d1, d2] => { results := [.lit (.bool false)], args := [d1, d2] }
  | _ => none }
def GlobMatchesWrongFalsely : Prop := globMatchesRow.holds Try.pinned (OpenSpec.ofChange globMatchesWrong)

/-- 'packthreadlaw.GlobPicks': WHATEVER THE INPUT: true; the input reads as it did. -/
def globPicksSpec : ChangeSpec := { name := "globPicks", fn := fun _ => fun
  | [d1, d2] => { results := [.lit (.bool true)], args := [d1, d2] }
  | _ => none }
def globPicksRow : OpenClaim := { program := "ytldoihbblgnpjaa", sum := "1b32119aa1374e0a75aceab677f15b856901791afea973dec4feaa94c7e41614", func := "packthread/packthreadlaw.GlobPicks", spec := "globPicks", unfollowed := true, recurses := true, apart := false }
def GlobPicksSaid : Prop := globPicksRow.holds Try.pinned (OpenSpec.ofChange globPicksSpec)

/-- ITS FALSE NEIGHBOUR: 'it returns false'. Refute it at one input. -/
def globPicksWrong : ChangeSpec := { name := "globPicks", fn := fun _ => fun
  | [d1, d2] => { results := [.lit (.bool false)], args := [d1, d2] }
  | _ => none }
def GlobPicksWrongFalsely : Prop := globPicksRow.holds Try.pinned (OpenSpec.ofChange globPicksWrong)

/-- 'packthreadlaw.PathJoins': WHATEVER THE INPUT: true; the input reads as it did. -/
def pathJoinsSpec : ChangeSpec := { name := "pathJoins", fn := fun _ => fun
  | [d] => { results := [.lit (.bool true)], args := [d] }
  | _ => none }
def pathJoinsRow : OpenClaim := { program := "ytldoihbblgnpjaa", sum := "1b32119aa1374e0a75aceab677f15b856901791afea973dec4feaa94c7e41614", func := "packthread/packthreadlaw.PathJoins", spec := "pathJoins", inPlace := ["internal/bytealg.IndexByteString", "internal/bytealg.IndexString", "internal/abi.NoEscape", "internal/bytealg.MakeNoZero"], unfollowed := true, recurses := true, named := ["internal/bytealg.MaxLen"], apart := false }
def PathJoinsSaid : Prop := pathJoinsRow.holds Try.pinned (OpenSpec.ofChange pathJoinsSpec)

/-- ITS FALSE NEIGHBOUR: 'it returns false'. Refute it at one input. -/
def pathJoinsWrong : ChangeSpec := { name := "pathJoins", fn := fun _ => fun
  | [d] => { results := [.lit (.bool false)], args := [d] }
  | _ => none }
def PathJoinsWrongFalsely : Prop := pathJoinsRow.holds Try.pinned (OpenSpec.ofChange pathJoinsWrong)

/- THE SECOND FORM. 'bulk': how many values and letters a reading holds, each counted each time it is reached (what is shared counts as often as it is met; a slice's spare places count too). A statement '..UptoSaid' is the law's where the arguments, and the package variables that the reading takes, are together of bulk at most 1048576: NARROWER than '..Said'. Prove '..Said' where nothing that the law and all that it calls make is longer than what came in: it says more and counts as full. Else prove '..UptoSaid'. A law counts once. -/
mutual
def uptoBulk {H : Type} : DataW H → Nat
  | .lit (.string bytes) => bytes.length + 1
  | .lit _ => 1
  | .nil => 1
  | .ptr d => uptoBulk d + 1
  | .slice elems spare => uptoBulkAll elems + uptoBulkAll spare + 1
  | .agg parts => uptoBulkAll parts + 1
  | .iface _ d => uptoBulk d + 1
  | .map entries => uptoBulkEntries entries + 1
  | .held _ => 1
def uptoBulkAll {H : Type} : List (DataW H) → Nat
  | [] => 0
  | d :: r => uptoBulk d + uptoBulkAll r
def uptoBulkEntries {H : Type} : List (Lit × DataW H) → Nat
  | [] => 0
  | x :: r => uptoBulkEntry x + uptoBulkEntries r
def uptoBulkEntry {H : Type} : Lit × DataW H → Nat
  | (.string bytes, d) => bytes.length + uptoBulk d + 1
  | (_, d) => uptoBulk d + 1
 end
def uptoSmall : (H : Type) → List (DataW H) → Bool := fun _ ds => decide (uptoBulkAll ds ≤ 1048576)
def OpenSpec.upto (s : _root_.Go.ChangeSpec) : _root_.Go.OpenSpec := { _root_.Go.OpenSpec.ofChange s with cond := some uptoSmall }

/-- 'packthreadlaw.GlobMays', WHERE WHAT IT READS IS OF BULK AT MOST 1048576: true; the input reads as it did. -/
def globMaysUptoRow : OpenClaim := { program := "ytldoihbblgnpjaa", sum := "1b32119aa1374e0a75aceab677f15b856901791afea973dec4feaa94c7e41614", func := "packthread/packthreadlaw.GlobMays", spec := "globMays", unfollowed := true, recurses := true, apart := false, narrowed := true }
def GlobMaysUptoSaid : Prop := globMaysUptoRow.holds Try.pinned (OpenSpec.upto globMaysSpec)

/-- 'packthreadlaw.GlobMatches', WHERE WHAT IT READS IS OF BULK AT MOST 1048576: true; the input reads as it did. -/
def globMatchesUptoRow : OpenClaim := { program := "ytldoihbblgnpjaa", sum := "1b32119aa1374e0a75aceab677f15b856901791afea973dec4feaa94c7e41614", func := "packthread/packthreadlaw.GlobMatches", spec := "globMatches", unfollowed := true, recurses := true, apart := false, narrowed := true }
def GlobMatchesUptoSaid : Prop := globMatchesUptoRow.holds Try.pinned (OpenSpec.upto globMatchesSpec)

/-- 'packthreadlaw.GlobPicks', WHERE WHAT IT READS IS OF BULK AT MOST 1048576: true; the input reads as it did. -/
def globPicksUptoRow : OpenClaim := { program := "ytldoihbblgnpjaa", sum := "1b32119aa1374e0a75aceab677f15b856901791afea973dec4feaa94c7e41614", func := "packthread/packthreadlaw.GlobPicks", spec := "globPicks", unfollowed := true, recurses := true, apart := false, narrowed := true }
def GlobPicksUptoSaid : Prop := globPicksUptoRow.holds Try.pinned (OpenSpec.upto globPicksSpec)

/-- 'packthreadlaw.PathJoins', WHERE WHAT IT READS IS OF BULK AT MOST 1048576: true; the input reads as it did. -/
def pathJoinsUptoRow : OpenClaim := { program := "ytldoihbblgnpjaa", sum := "1b32119aa1374e0a75aceab677f15b856901791afea973dec4feaa94c7e41614", func := "packthread/packthreadlaw.PathJoins", spec := "pathJoins", inPlace := ["internal/bytealg.IndexByteString", "internal/bytealg.IndexString", "internal/abi.NoEscape", "internal/bytealg.MakeNoZero"], unfollowed := true, recurses := true, named := ["internal/bytealg.MaxLen"], apart := false, narrowed := true }
def PathJoinsUptoSaid : Prop := pathJoinsUptoRow.holds Try.pinned (OpenSpec.upto pathJoinsSpec)

end Rows
end Go.Proofs.Ytldoihbblgnpjaa
