/-
  No cell of these rows narrows 'for every input' (looked for: loops, veiled, ifaces, maps, wideKeys, modest, calm, conditions, laid).
  DERIVED. THE GIVEN ROWS OF THIS SEAT. 12 by the template 'for every input the law returns true; each argument reads behind the call as it read before'; 0 by the template 'total and deterministic' (their statements: YtdjdjjbcmlnecaaTotals.lean).
  GIVEN WITH THE SEED: the statements are not yours to turn. If you find one false, say at which input.
  Laid BY PROGRAM, IN A SANDBOX (cutbox-rows.mjs): the forced cells as the released guide's own fill.sh prints them over the translation 0c94982c0e6f713c… (all of the seat's roots in one cut). By AI agents, Wed Nov 11 2026. No macro, syntax, notation, axiom, sorry.
-/
import Derived.Test.YtdjdjjbcmlnecaaChecked
import GoSem.Claim
import GoSem.ClaimJoined
import GoSem.ClaimMapViews
import Derived.JoinedTies
import Derived.KernelRfl
namespace Go.Proofs.Ytdjdjjbcmlnecaa
/- THE CELL 'sum', in the pinned program and in every row, IS THE sha256 OF THE DUMP (.gsa) THAT YtdjdjjbcmlnecaaProg.lean LOADS. Nothing in Lean hashes anything: it is a label: what it is worth is what the hold of that sum in a sandbox is worth. -/
noncomputable def Try.pinned : Pinned := { name := "ytdjdjjbcmlnecaa", sum := "0c94982c0e6f713cdf57384af9c2a2f498a1f4d48431054d9d7bbddc2c64465c", checked := Try.checked }
namespace Rows
def none {H : Type} : Left H := { results := [], args := [] }

/-- 'packthreadlaw.Names': WHATEVER THE INPUT: true; the input reads as it did. -/
def namesSpec : ChangeSpec := { name := "names", fn := fun _ => fun
  | [] => { results := [.lit (.bool true)], args := [] }
  | _ => none }
def namesRow : OpenClaim := { program := "ytdjdjjbcmlnecaa", sum := "0c94982c0e6f713cdf57384af9c2a2f498a1f4d48431054d9d7bbddc2c64465c", func := "packthread/packthreadlaw.Names", spec := "names", apart := false }
def NamesSaid : Prop := namesRow.holds Try.pinned (OpenSpec.ofChange namesSpec)

/-- ITS FALSE NEIGHBOUR: 'it returns false'. Refute it at one input. -/
def namesWrong : ChangeSpec := { name := "names", fn := fun _ => fun
  | [] => { results := [.lit (.bool false)], args := [] }
  | _ => none }
def NamesWrongFalsely : Prop := namesRow.holds Try.pinned (OpenSpec.ofChange namesWrong)

/-- 'packthreadlaw.RtoMays': WHATEVER THE INPUT: true; the input reads as it did. -/
def rtoMaysSpec : ChangeSpec := { name := "rtoMays", fn := fun _ => fun
  | [d] => { results := [.lit (.bool true)], args := [d] }
  | _ => none }
def rtoMaysRow : OpenClaim := { program := "ytdjdjjbcmlnecaa", sum := "0c94982c0e6f713cdf57384af9c2a2f498a1f4d48431054d9d7bbddc2c64465c", func := "packthread/packthreadlaw.RtoMays", spec := "rtoMays", apart := false }
def RtoMaysSaid : Prop := rtoMaysRow.holds Try.pinned (OpenSpec.ofChange rtoMaysSpec)

/-- ITS FALSE NEIGHBOUR: 'it returns false'. Refute it at one input. -/
def rtoMaysWrong : ChangeSpec := { name := "rtoMays", fn := fun _ => fun
  | [d] => { results := [.lit (.bool false)], args := [d] }
  | _ => none }
def RtoMaysWrongFalsely : Prop := rtoMaysRow.holds Try.pinned (OpenSpec.ofChange rtoMaysWrong)

/-- 'packthreadlaw.BucketBounds': WHATEVER THE INPUT: true; the input reads as it did. -/
def bucketBoundsSpec : ChangeSpec := { name := "bucketBounds", fn := fun _ => fun
  | [d1, d2, d3] => { results := [.lit (.bool true)], args := [d1, d2, d3] }
  | _ => none }
def bucketBoundsRow : OpenClaim := { program := "ytdjdjjbcmlnecaa", sum := "0c94982c0e6f713cdf57384af9c2a2f498a1f4d48431054d9d7bbddc2c64465c", func := "packthread/packthreadlaw.BucketBounds", spec := "bucketBounds", apart := false }
def BucketBoundsSaid : Prop := bucketBoundsRow.holds Try.pinned (OpenSpec.ofChange bucketBoundsSpec)

/-- ITS FALSE NEIGHBOUR: 'it returns false'. Refute it at one input. -/
def bucketBoundsWrong : ChangeSpec := { name := "bucketBounds", fn := fun _ => fun
  | [d1, d2, d3] => { results := [.lit (.bool false)], args := [d1, d2, d3] }
  | _ => none }
def BucketBoundsWrongFalsely : Prop := bucketBoundsRow.holds Try.pinned (OpenSpec.ofChange bucketBoundsWrong)

/-- 'packthreadlaw.HoleMays': WHATEVER THE INPUT: true; the input reads as it did. -/
def holeMaysSpec : ChangeSpec := { name := "holeMays", fn := fun _ => fun
  | [d1, d2] => { results := [.lit (.bool true)], args := [d1, d2] }
  | _ => none }
def holeMaysRow : OpenClaim := { program := "ytdjdjjbcmlnecaa", sum := "0c94982c0e6f713cdf57384af9c2a2f498a1f4d48431054d9d7bbddc2c64465c", func := "packthread/packthreadlaw.HoleMays", spec := "holeMays", apart := false }
def HoleMaysSaid : Prop := holeMaysRow.holds Try.pinned (OpenSpec.ofChange holeMaysSpec)

/-- ITS FALSE NEIGHBOUR: 'it returns false'. Refute it at one input. -/
def holeMaysWrong : ChangeSpec := { name := "holeMays", fn := fun _ => fun
  | [d1, d2] => { results := [.lit (.bool false)], args := [d1, d2] }
  | _ => none }
def HoleMaysWrongFalsely : Prop := holeMaysRow.holds Try.pinned (OpenSpec.ofChange holeMaysWrong)

/-- 'packthreadlaw.RtoFirsts': WHATEVER THE INPUT: true; the input reads as it did. -/
def rtoFirstsSpec : ChangeSpec := { name := "rtoFirsts", fn := fun _ => fun
  | [d] => { results := [.lit (.bool true)], args := [d] }
  | _ => none }
def rtoFirstsRow : OpenClaim := { program := "ytdjdjjbcmlnecaa", sum := "0c94982c0e6f713cdf57384af9c2a2f498a1f4d48431054d9d7bbddc2c64465c", func := "packthread/packthreadlaw.RtoFirsts", spec := "rtoFirsts", apart := false }
def RtoFirstsSaid : Prop := rtoFirstsRow.holds Try.pinned (OpenSpec.ofChange rtoFirstsSpec)

/-- ITS FALSE NEIGHBOUR: 'it returns false'. Refute it at one input. -/
def rtoFirstsWrong : ChangeSpec := { name := "rtoFirsts", fn := fun _ => fun
  | [d] => { results := [.lit (.bool false)], args := [d] }
  | _ => none }
def RtoFirstsWrongFalsely : Prop := rtoFirstsRow.holds Try.pinned (OpenSpec.ofChange rtoFirstsWrong)

/-- 'packthreadlaw.FrameWraps': WHATEVER THE INPUT: true; the input reads as it did. -/
def frameWrapsSpec : ChangeSpec := { name := "frameWraps", fn := fun _ => fun
  | [d] => { results := [.lit (.bool true)], args := [d] }
  | _ => none }
def frameWrapsRow : OpenClaim := { program := "ytdjdjjbcmlnecaa", sum := "0c94982c0e6f713cdf57384af9c2a2f498a1f4d48431054d9d7bbddc2c64465c", func := "packthread/packthreadlaw.FrameWraps", spec := "frameWraps", apart := false }
def FrameWrapsSaid : Prop := frameWrapsRow.holds Try.pinned (OpenSpec.ofChange frameWrapsSpec)

/-- ITS FALSE NEIGHBOUR: 'it returns false'. Refute it at one input. -/
def frameWrapsWrong : ChangeSpec := { name := "frameWraps", fn := fun _ => fun
  | [d] => { results := [.lit (.bool false)], args := [d] }
  | _ => none }
def FrameWrapsWrongFalsely : Prop := frameWrapsRow.holds Try.pinned (OpenSpec.ofChange frameWrapsWrong)

/-- 'packthreadlaw.RtoBacks': WHATEVER THE INPUT: true; the input reads as it did. -/
def rtoBacksSpec : ChangeSpec := { name := "rtoBacks", fn := fun _ => fun
  | [d] => { results := [.lit (.bool true)], args := [d] }
  | _ => none }
def rtoBacksRow : OpenClaim := { program := "ytdjdjjbcmlnecaa", sum := "0c94982c0e6f713cdf57384af9c2a2f498a1f4d48431054d9d7bbddc2c64465c", func := "packthread/packthreadlaw.RtoBacks", spec := "rtoBacks", apart := false }
def RtoBacksSaid : Prop := rtoBacksRow.holds Try.pinned (OpenSpec.ofChange rtoBacksSpec)

/-- ITS FALSE NEIGHBOUR: 'it returns false'. Refute it at one input. -/
def rtoBacksWrong : ChangeSpec := { name := "rtoBacks", fn := fun _ => fun
  | [d] => { results := [.lit (.bool false)], args := [d] }
  | _ => none }
def RtoBacksWrongFalsely : Prop := rtoBacksRow.holds Try.pinned (OpenSpec.ofChange rtoBacksWrong)

/-- 'packthreadlaw.RtoNexts': WHATEVER THE INPUT: true; the input reads as it did. -/
def rtoNextsSpec : ChangeSpec := { name := "rtoNexts", fn := fun _ => fun
  | [d1, d2] => { results := [.lit (.bool true)], args := [d1, d2] }
  | _ => none }
def rtoNextsRow : OpenClaim := { program := "ytdjdjjbcmlnecaa", sum := "0c94982c0e6f713cdf57384af9c2a2f498a1f4d48431054d9d7bbddc2c64465c", func := "packthread/packthreadlaw.RtoNexts", spec := "rtoNexts", apart := false }
def RtoNextsSaid : Prop := rtoNextsRow.holds Try.pinned (OpenSpec.ofChange rtoNextsSpec)

/-- ITS FALSE NEIGHBOUR: 'it returns false'. Refute it at one input. -/
def rtoNextsWrong : ChangeSpec := { name := "rtoNexts", fn := fun _ => fun
  | [d1, d2] => { results := [.lit (.bool false)], args := [d1, d2] }
  | _ => none }
def RtoNextsWrongFalsely : Prop := rtoNextsRow.holds Try.pinned (OpenSpec.ofChange rtoNextsWrong)

/-- 'packthreadlaw.HoleGaps': WHATEVER THE INPUT: true; the input reads as it did. -/
def holeGapsSpec : ChangeSpec := { name := "holeGaps", fn := fun _ => fun
  | [d1, d2] => { results := [.lit (.bool true)], args := [d1, d2] }
  | _ => none }
def holeGapsRow : OpenClaim := { program := "ytdjdjjbcmlnecaa", sum := "0c94982c0e6f713cdf57384af9c2a2f498a1f4d48431054d9d7bbddc2c64465c", func := "packthread/packthreadlaw.HoleGaps", spec := "holeGaps", apart := false }
def HoleGapsSaid : Prop := holeGapsRow.holds Try.pinned (OpenSpec.ofChange holeGapsSpec)

/-- ITS FALSE NEIGHBOUR: 'it returns false'. Refute it at one input. -/
def holeGapsWrong : ChangeSpec := { name := "holeGaps", fn := fun _ => fun
  | [d1, d2] => { results := [.lit (.bool false)], args := [d1, d2] }
  | _ => none }
def HoleGapsWrongFalsely : Prop := holeGapsRow.holds Try.pinned (OpenSpec.ofChange holeGapsWrong)

/-- 'packthreadlaw.BucketPlays': WHATEVER THE INPUT: true; the input reads as it did. -/
def bucketPlaysSpec : ChangeSpec := { name := "bucketPlays", fn := fun _ => fun
  | [d1, d2, d3] => { results := [.lit (.bool true)], args := [d1, d2, d3] }
  | _ => none }
def bucketPlaysRow : OpenClaim := { program := "ytdjdjjbcmlnecaa", sum := "0c94982c0e6f713cdf57384af9c2a2f498a1f4d48431054d9d7bbddc2c64465c", func := "packthread/packthreadlaw.BucketPlays", spec := "bucketPlays", apart := false }
def BucketPlaysSaid : Prop := bucketPlaysRow.holds Try.pinned (OpenSpec.ofChange bucketPlaysSpec)

/-- ITS FALSE NEIGHBOUR: 'it returns false'. Refute it at one input. -/
def bucketPlaysWrong : ChangeSpec := { name := "bucketPlays", fn := fun _ => fun
  | [d1, d2, d3] => { results := [.lit (.bool false)], args := [d1, d2, d3] }
  | _ => none }
def BucketPlaysWrongFalsely : Prop := bucketPlaysRow.holds Try.pinned (OpenSpec.ofChange bucketPlaysWrong)

/-- 'packthreadlaw.HoleSacks': WHATEVER THE INPUT: true; the input reads as it did. -/
def holeSacksSpec : ChangeSpec := { name := "holeSacks", fn := fun _ => fun
  | [d1, d2, d3, d4] => { results := [.lit (.bool true)], args := [d1, d2, d3, d4] }
  | _ => none }
def holeSacksRow : OpenClaim := { program := "ytdjdjjbcmlnecaa", sum := "0c94982c0e6f713cdf57384af9c2a2f498a1f4d48431054d9d7bbddc2c64465c", func := "packthread/packthreadlaw.HoleSacks", spec := "holeSacks", unfollowed := true, recurses := true, apart := false }
def HoleSacksSaid : Prop := holeSacksRow.holds Try.pinned (OpenSpec.ofChange holeSacksSpec)

/-- ITS FALSE NEIGHBOUR: 'it returns false'. Refute it at one input. -/
def holeSacksWrong : ChangeSpec := { name := "holeSacks", fn := fun _ => fun
  | [d1, d2, d3, d4] => { results := [.lit (.bool false)], args := [d1, d2, d3, d4] }
  | _ => none }
def HoleSacksWrongFalsely : Prop := holeSacksRow.holds Try.pinned (OpenSpec.ofChange holeSacksWrong)

/-- 'packthreadlaw.HoleAdds': WHATEVER THE INPUT: true; the input reads as it did. -/
def holeAddsSpec : ChangeSpec := { name := "holeAdds", fn := fun _ => fun
  | [d1, d2, d3] => { results := [.lit (.bool true)], args := [d1, d2, d3] }
  | _ => none }
def holeAddsRow : OpenClaim := { program := "ytdjdjjbcmlnecaa", sum := "0c94982c0e6f713cdf57384af9c2a2f498a1f4d48431054d9d7bbddc2c64465c", func := "packthread/packthreadlaw.HoleAdds", spec := "holeAdds", unfollowed := true, recurses := true, apart := false }
def HoleAddsSaid : Prop := holeAddsRow.holds Try.pinned (OpenSpec.ofChange holeAddsSpec)

/-- ITS FALSE NEIGHBOUR: 'it returns false'. Refute it at one input. -/
def holeAddsWrong : ChangeSpec := { name := "holeAdds", fn := fun _ => fun
  | [d1, d2, d3] => { results := [.lit (.bool false)], args := [d1, d2, d3] }
  | _ => none }
def HoleAddsWrongFalsely : Prop := holeAddsRow.holds Try.pinned (OpenSpec.ofChange holeAddsWrong)

/- THE SECOND FORM. 'bulk': how many values and letters a reading holds, each counted each time it is reached (what is shared counts as often as it is met; a slice's spare places count too). A statement '..UptoSaid' is the law's where the arguments, and the package variables that the reading takes, are together of bulk at most 1048576: NARROWER than '..Said'. Prove '..Said' where nothing that the law and all that it calls make is longer than what came in: it says more and counts as full. Else prove '..UptoSaid'. A law counts once. -/
mutual
def uptoBulk {H : Type} : DataW H → Nat
  | .lit (.string bytes) => bytes.length + 1
  | .lit _ => 1
  | .nil => 1
  | .ptr d => uptoBulk d + 1
  | .slice elems spare => uptoBulkAll elems + uptoBulkAll spare + 1
  | .agg parts => uptoBulkAll parts + 1
  | .iface _ d => uptoBulk d + 1
  | .map entries => uptoBulkEntries entries + 1
  | .held _ => 1
def uptoBulkAll {H : Type} : List (DataW H) → Nat
  | [] => 0
  | d :: r => uptoBulk d + uptoBulkAll r
def uptoBulkEntries {H : Type} : List (Lit × DataW H) → Nat
  | [] => 0
  | x :: r => uptoBulkEntry x + uptoBulkEntries r
def uptoBulkEntry {H : Type} : Lit × DataW H → Nat
  | (.string bytes, d) => bytes.length + uptoBulk d + 1
  | (_, d) => uptoBulk d + 1
 end
def uptoSmall : (H : Type) → List (DataW H) → Bool := fun _ ds => decide (uptoBulkAll ds ≤ 1048576)
def OpenSpec.upto (s : _root_.Go.ChangeSpec) : _root_.Go.OpenSpec := { _root_.Go.OpenSpec.ofChange s with cond := some uptoSmall }

/-- 'packthreadlaw.Names', WHERE WHAT IT READS IS OF BULK AT MOST 1048576: true; the input reads as it did. -/
def namesUptoRow : OpenClaim := { program := "ytdjdjjbcmlnecaa", sum := "0c94982c0e6f713cdf57384af9c2a2f498a1f4d48431054d9d7bbddc2c64465c", func := "packthread/packthreadlaw.Names", spec := "names", apart := false, narrowed := true }
def NamesUptoSaid : Prop := namesUptoRow.holds Try.pinned (OpenSpec.upto namesSpec)

/-- 'packthreadlaw.RtoMays', WHERE WHAT IT READS IS OF BULK AT MOST 1048576: true; the input reads as it did. -/
def rtoMaysUptoRow : OpenClaim := { program := "ytdjdjjbcmlnecaa", sum := "0c94982c0e6f713cdf57384af9c2a2f498a1f4d48431054d9d7bbddc2c64465c", func := "packthread/packthreadlaw.RtoMays", spec := "rtoMays", apart := false, narrowed := true }
def RtoMaysUptoSaid : Prop := rtoMaysUptoRow.holds Try.pinned (OpenSpec.upto rtoMaysSpec)

/-- 'packthreadlaw.BucketBounds', WHERE WHAT IT READS IS OF BULK AT MOST 1048576: true; the input reads as it did. -/
def bucketBoundsUptoRow : OpenClaim := { program := "ytdjdjjbcmlnecaa", sum := "0c94982c0e6f713cdf57384af9c2a2f498a1f4d48431054d9d7bbddc2c64465c", func := "packthread/packthreadlaw.BucketBounds", spec := "bucketBounds", apart := false, narrowed := true }
def BucketBoundsUptoSaid : Prop := bucketBoundsUptoRow.holds Try.pinned (OpenSpec.upto bucketBoundsSpec)

/-- 'packthreadlaw.HoleMays', WHERE WHAT IT READS IS OF BULK AT MOST 1048576: true; the input reads as it did. -/
def holeMaysUptoRow : OpenClaim := { program := "ytdjdjjbcmlnecaa", sum := "0c94982c0e6f713cdf57384af9c2a2f498a1f4d48431054d9d7bbddc2c64465c", func := "packthread/packthreadlaw.HoleMays", spec := "holeMays", apart := false, narrowed := true }
def HoleMaysUptoSaid : Prop := holeMaysUptoRow.holds Try.pinned (OpenSpec.upto holeMaysSpec)

/-- 'packthreadlaw.RtoFirsts', WHERE WHAT IT READS IS OF BULK AT MOST 1048576: true; the input reads as it did. -/
def rtoFirstsUptoRow : OpenClaim := { program := "ytdjdjjbcmlnecaa", sum := "0c94982c0e6f713cdf57384af9c2a2f498a1f4d48431054d9d7bbddc2c64465c", func := "packthread/packthreadlaw.RtoFirsts", spec := "rtoFirsts", apart := false, narrowed := true }
def RtoFirstsUptoSaid : Prop := rtoFirstsUptoRow.holds Try.pinned (OpenSpec.upto rtoFirstsSpec)

/-- 'packthreadlaw.FrameWraps', WHERE WHAT IT READS IS OF BULK AT MOST 1048576: true; the input reads as it did. -/
def frameWrapsUptoRow : OpenClaim := { program := "ytdjdjjbcmlnecaa", sum := "0c94982c0e6f713cdf57384af9c2a2f498a1f4d48431054d9d7bbddc2c64465c", func := "packthread/packthreadlaw.FrameWraps", spec := "frameWraps", apart := false, narrowed := true }
def FrameWrapsUptoSaid : Prop := frameWrapsUptoRow.holds Try.pinned (OpenSpec.upto frameWrapsSpec)

/-- 'packthreadlaw.RtoBacks', WHERE WHAT IT READS IS OF BULK AT MOST 1048576: true; the input reads as it did. -/
def rtoBacksUptoRow : OpenClaim := { program := "ytdjdjjbcmlnecaa", sum := "0c94982c0e6f713cdf57384af9c2a2f498a1f4d48431054d9d7bbddc2c64465c", func := "packthread/packthreadlaw.RtoBacks", spec := "rtoBacks", apart := false, narrowed := true }
def RtoBacksUptoSaid : Prop := rtoBacksUptoRow.holds Try.pinned (OpenSpec.upto rtoBacksSpec)

/-- 'packthreadlaw.RtoNexts', WHERE WHAT IT READS IS OF BULK AT MOST 1048576: true; the input reads as it did. -/
def rtoNextsUptoRow : OpenClaim := { program := "ytdjdjjbcmlnecaa", sum := "0c94982c0e6f713cdf57384af9c2a2f498a1f4d48431054d9d7bbddc2c64465c", func := "packthread/packthreadlaw.RtoNexts", spec := "rtoNexts", apart := false, narrowed := true }
def RtoNextsUptoSaid : Prop := rtoNextsUptoRow.holds Try.pinned (OpenSpec.upto rtoNextsSpec)

/-- 'packthreadlaw.HoleGaps', WHERE WHAT IT READS IS OF BULK AT MOST 1048576: true; the input reads as it did. -/
def holeGapsUptoRow : OpenClaim := { program := "ytdjdjjbcmlnecaa", sum := "0c94982c0e6f713cdf57384af9c2a2f498a1f4d48431054d9d7bbddc2c64465c", func := "packthread/packthreadlaw.HoleGaps", spec := "holeGaps", apart := false, narrowed := true }
def HoleGapsUptoSaid : Prop := holeGapsUptoRow.holds Try.pinned (OpenSpec.upto holeGapsSpec)

/-- 'packthreadlaw.BucketPlays', WHERE WHAT IT READS IS OF BULK AT MOST 1048576: true; the input reads as it did. -/
def bucketPlaysUptoRow : OpenClaim := { program := "ytdjdjjbcmlnecaa", sum := "0c94982c0e6f713cdf57384af9c2a2f498a1f4d48431054d9d7bbddc2c64465c", func := "packthread/packthreadlaw.BucketPlays", spec := "bucketPlays", apart := false, narrowed := true }
def BucketPlaysUptoSaid : Prop := bucketPlaysUptoRow.holds Try.pinned (OpenSpec.upto bucketPlaysSpec)

/-- 'packthreadlaw.HoleSacks', WHERE WHAT IT READS IS OF BULK AT MOST 1048576: true; the input reads as it did. -/
def holeSacksUptoRow : OpenClaim := { program := "ytdjdjjbcmlnecaa", sum := "0c94982c0e6f713cdf57384af9c2a2f498a1f4d48431054d9d7bbddc2c64465c", func := "packthread/packthreadlaw.HoleSacks", spec := "holeSacks", unfollowed := true, recurses := true, apart := false, narrowed := true }
def HoleSacksUptoSaid : Prop := holeSacksUptoRow.holds Try.pinned (OpenSpec.upto holeSacksSpec)

/-- 'packthreadlaw.HoleAdds', WHERE WHAT IT READS IS OF BULK AT MOST 1048576: true; the input reads as it did. -/
def holeAddsUptoRow : OpenClaim := { program := "ytdjdjjbcmlnecaa", sum := "0c94982c0e6f713cdf57384af9c2a2f498a1f4d48431054d9d7bbddc2c64465c", func := "packthread/packthreadlaw.HoleAdds", spec := "holeAdds", unfollowed := true, recurses := true, apart := false, narrowed := true }
def HoleAddsUptoSaid : Prop := holeAddsUptoRow.holds Try.pinned (OpenSpec.upto holeAddsSpec)

end Rows
end Go.Proofs.Ytdjdjjbcmlnecaa
