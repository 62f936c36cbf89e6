/-
  No cell of these rows narrows 'for every input' (looked for: loops, veiled, ifaces, maps, wideKeys, modest, calm, conditions, laid).
  DERIVED. THE GIVEN ROWS OF THIS SEAT. 12 by the template 'for every input the law returns true; each argument reads behind the call as it read before'; 0 by the template 'total and deterministic' (their statements: YtedbidblnjajdaaTotals.lean).
  GIVEN WITH THE SEED: the statements are not yours to turn. If you find one false, say at which input.
  Laid BY PROGRAM, IN A SANDBOX (cutbox-rows.mjs): the forced cells as the released guide's own fill.sh prints them over the translation f8ee9b729df278fd… (all of the seat's roots in one cut). By AI agents, Wed Nov 11 2026. No macro, syntax, notation, axiom, sorry.
-/
import Derived.Test.YtedbidblnjajdaaChecked
import GoSem.Claim
import GoSem.ClaimJoined
import GoSem.ClaimMapViews
import Derived.JoinedTies
import Derived.KernelRfl
namespace Go.Proofs.Ytedbidblnjajdaa
/- THE CELL 'sum', in the pinned program and in every row, IS THE sha256 OF THE DUMP (.gsa) THAT YtedbidblnjajdaaProg.lean LOADS. Nothing in Lean hashes anything: it is a label: what it is worth is what the hold of that sum in a sandbox is worth. -/
noncomputable def Try.pinned : Pinned := { name := "ytedbidblnjajdaa", sum := "f8ee9b729df278fd41a930e2d8a1d6b3268e8c10921d2daec5c4b83d0e04c66d", checked := Try.checked }
namespace Rows
def none {H : Type} : Left H := { results := [], args := [] }

/-- 'packthreadlaw.LzExpands': WHATEVER THE INPUT: true; the input reads as it did. -/
def lzExpandsSpec : ChangeSpec := { name := "lzExpands", fn := fun _ => fun
  | [d] => { results := [.lit (.bool true)], args := [d] }
  | _ => none }
def lzExpandsRow : OpenClaim := { program := "ytedbidblnjajdaa", sum := "f8ee9b729df278fd41a930e2d8a1d6b3268e8c10921d2daec5c4b83d0e04c66d", func := "packthread/packthreadlaw.LzExpands", spec := "lzExpands", plainKeys := false, apart := false }
def LzExpandsSaid : Prop := lzExpandsRow.holds Try.pinned (OpenSpec.ofChange lzExpandsSpec)

/-- ITS FALSE NEIGHBOUR: 'it returns false'. Refute it at one input. -/
def lzExpandsWrong : ChangeSpec := { name := "lzExpands", fn := fun _ => fun
  | [d] => { results := [.lit (.bool false)], args := [d] }
  | _ => none }
def LzExpandsWrongFalsely : Prop := lzExpandsRow.holds Try.pinned (OpenSpec.ofChange lzExpandsWrong)

/-- 'packthreadlaw.DeltaPatches': WHATEVER THE INPUT: true; the input reads as it did. -/
def deltaPatchesSpec : ChangeSpec := { name := "deltaPatches", fn := fun _ => fun
  | [d1, d2] => { results := [.lit (.bool true)], args := [d1, d2] }
  | _ => none }
def deltaPatchesRow : OpenClaim := { program := "ytedbidblnjajdaa", sum := "f8ee9b729df278fd41a930e2d8a1d6b3268e8c10921d2daec5c4b83d0e04c66d", func := "packthread/packthreadlaw.DeltaPatches", spec := "deltaPatches", plainKeys := false, apart := false }
def DeltaPatchesSaid : Prop := deltaPatchesRow.holds Try.pinned (OpenSpec.ofChange deltaPatchesSpec)

/-- ITS FALSE NEIGHBOUR: 'it returns false'. Refute it at one input. -/
def deltaPatchesWrong : ChangeSpec := { name := "deltaPatches", fn := fun _ => fun
  | [d1, d2] => { results := [.lit (.bool false)], args := [d1, d2] }
  | _ => none }
def DeltaPatchesWrongFalsely : Prop := deltaPatchesRow.holds Try.pinned (OpenSpec.ofChange deltaPatchesWrong)

/-- 'packthreadlaw.HoleSacks': WHATEVER THE INPUT: true; the input reads as it did. -/
def holeSacksSpec : ChangeSpec := { name := "holeSacks", fn := fun _ => fun
  | [d1, d2, d3, d4] => { results := [.lit (.bool true)], args := [d1, d2, d3, d4] }
  | _ => none }
def holeSacksRow : OpenClaim := { program := "ytedbidblnjajdaa", sum := "f8ee9b729df278fd41a930e2d8a1d6b3268e8c10921d2daec5c4b83d0e04c66d", func := "packthread/packthreadlaw.HoleSacks", spec := "holeSacks", unfollowed := true, recurses := true, plainKeys := false, apart := false }
def HoleSacksSaid : Prop := holeSacksRow.holds Try.pinned (OpenSpec.ofChange holeSacksSpec)

/-- ITS FALSE NEIGHBOUR: 'it returns false'. Refute it at one input. -/
def holeSacksWrong : ChangeSpec := { name := "holeSacks", fn := fun _ => fun
  | [d1, d2, d3, d4] => { results := [.lit (.bool false)], args := [d1, d2, d3, d4] }
  | _ => none }
def HoleSacksWrongFalsely : Prop := holeSacksRow.holds Try.pinned (OpenSpec.ofChange holeSacksWrong)

/-- 'packthreadlaw.DeltaDeltas': WHATEVER THE INPUT: true; the input reads as it did. -/
def deltaDeltasSpec : ChangeSpec := { name := "deltaDeltas", fn := fun _ => fun
  | [d1, d2] => { results := [.lit (.bool true)], args := [d1, d2] }
  | _ => none }
def deltaDeltasRow : OpenClaim := { program := "ytedbidblnjajdaa", sum := "f8ee9b729df278fd41a930e2d8a1d6b3268e8c10921d2daec5c4b83d0e04c66d", func := "packthread/packthreadlaw.DeltaDeltas", spec := "deltaDeltas", plainKeys := false, apart := false }
def DeltaDeltasSaid : Prop := deltaDeltasRow.holds Try.pinned (OpenSpec.ofChange deltaDeltasSpec)

/-- ITS FALSE NEIGHBOUR: 'it returns false'. Refute it at one input. -/
def deltaDeltasWrong : ChangeSpec := { name := "deltaDeltas", fn := fun _ => fun
  | [d1, d2] => { results := [.lit (.bool false)], args := [d1, d2] }
  | _ => none }
def DeltaDeltasWrongFalsely : Prop := deltaDeltasRow.holds Try.pinned (OpenSpec.ofChange deltaDeltasWrong)

/-- 'packthreadlaw.LzParses': WHATEVER THE INPUT: true; the input reads as it did. -/
def lzParsesSpec : ChangeSpec := { name := "lzParses", fn := fun _ => fun
  | [d] => { results := [.lit (.bool true)], args := [d] }
  | _ => none }
def lzParsesRow : OpenClaim := { program := "ytedbidblnjajdaa", sum := "f8ee9b729df278fd41a930e2d8a1d6b3268e8c10921d2daec5c4b83d0e04c66d", func := "packthread/packthreadlaw.LzParses", spec := "lzParses", plainKeys := false, apart := false }
def LzParsesSaid : Prop := lzParsesRow.holds Try.pinned (OpenSpec.ofChange lzParsesSpec)

/-- ITS FALSE NEIGHBOUR: 'it returns false'. Refute it at one input. -/
def lzParsesWrong : ChangeSpec := { name := "lzParses", fn := fun _ => fun
  | [d] => { results := [.lit (.bool false)], args := [d] }
  | _ => none }
def LzParsesWrongFalsely : Prop := lzParsesRow.holds Try.pinned (OpenSpec.ofChange lzParsesWrong)

/-- 'packthreadlaw.FrameFeeds': WHATEVER THE INPUT: true; the input reads as it did. -/
def frameFeedsSpec : ChangeSpec := { name := "frameFeeds", fn := fun _ => fun
  | [d1, d2] => { results := [.lit (.bool true)], args := [d1, d2] }
  | _ => none }
def frameFeedsRow : OpenClaim := { program := "ytedbidblnjajdaa", sum := "f8ee9b729df278fd41a930e2d8a1d6b3268e8c10921d2daec5c4b83d0e04c66d", func := "packthread/packthreadlaw.FrameFeeds", spec := "frameFeeds", plainKeys := false, apart := false }
def FrameFeedsSaid : Prop := frameFeedsRow.holds Try.pinned (OpenSpec.ofChange frameFeedsSpec)

/-- ITS FALSE NEIGHBOUR: 'it returns false'. Refute it at one input. -/
def frameFeedsWrong : ChangeSpec := { name := "frameFeeds", fn := fun _ => fun
  | [d1, d2] => { results := [.lit (.bool false)], args := [d1, d2] }
  | _ => none }
def FrameFeedsWrongFalsely : Prop := frameFeedsRow.holds Try.pinned (OpenSpec.ofChange frameFeedsWrong)

/-- 'packthreadlaw.SegEncodes': WHATEVER THE INPUT: true; the input reads as it did. -/
def segEncodesSpec : ChangeSpec := { name := "segEncodes", fn := fun _ => fun
  | [d] => { results := [.lit (.bool true)], args := [d] }
  | _ => none }
def segEncodesRow : OpenClaim := { program := "ytedbidblnjajdaa", sum := "f8ee9b729df278fd41a930e2d8a1d6b3268e8c10921d2daec5c4b83d0e04c66d", func := "packthread/packthreadlaw.SegEncodes", spec := "segEncodes", unfollowed := true, recurses := true, plainKeys := false, apart := false }
def SegEncodesSaid : Prop := segEncodesRow.holds Try.pinned (OpenSpec.ofChange segEncodesSpec)

/-- ITS FALSE NEIGHBOUR: 'it returns false'. Refute it at one input. -/
def segEncodesWrong : ChangeSpec := { name := "segEncodes", fn := fun _ => fun
  | [d] => { results := [.lit (.bool false)], args := [d] }
  | _ => none }
def SegEncodesWrongFalsely : Prop := segEncodesRow.holds Try.pinned (OpenSpec.ofChange segEncodesWrong)

/-- 'packthreadlaw.SegDecodes': WHATEVER THE INPUT: true; the input reads as it did. -/
def segDecodesSpec : ChangeSpec := { name := "segDecodes", fn := fun _ => fun
  | [d] => { results := [.lit (.bool true)], args := [d] }
  | _ => none }
def segDecodesRow : OpenClaim := { program := "ytedbidblnjajdaa", sum := "f8ee9b729df278fd41a930e2d8a1d6b3268e8c10921d2daec5c4b83d0e04c66d", func := "packthread/packthreadlaw.SegDecodes", spec := "segDecodes", unfollowed := true, recurses := true, plainKeys := false, apart := false }
def SegDecodesSaid : Prop := segDecodesRow.holds Try.pinned (OpenSpec.ofChange segDecodesSpec)

/-- ITS FALSE NEIGHBOUR: 'it returns false'. Refute it at one input. -/
def segDecodesWrong : ChangeSpec := { name := "segDecodes", fn := fun _ => fun
  | [d] => { results := [.lit (.bool false)], args := [d] }
  | _ => none }
def SegDecodesWrongFalsely : Prop := segDecodesRow.holds Try.pinned (OpenSpec.ofChange segDecodesWrong)

/-- 'packthreadtop.TopSealed': WHATEVER THE INPUT: true; the input reads as it did. -/
def topSealedSpec : ChangeSpec := { name := "topSealed", fn := fun _ => fun
  | [d1, d2, d3, d4, d5] => { results := [.lit (.bool true)], args := [d1, d2, d3, d4, d5] }
  | _ => none }
def topSealedRow : OpenClaim := { program := "ytedbidblnjajdaa", sum := "f8ee9b729df278fd41a930e2d8a1d6b3268e8c10921d2daec5c4b83d0e04c66d", func := "packthread/packthreadtop.TopSealed", spec := "topSealed", unfollowed := true, recurses := true, plainKeys := false, apart := false }
def TopSealedSaid : Prop := topSealedRow.holds Try.pinned (OpenSpec.ofChange topSealedSpec)

/-- ITS FALSE NEIGHBOUR: 'it returns false'. Refute it at one input. -/
def topSealedWrong : ChangeSpec := { name := "topSealed", fn := fun _ => fun
  | [d1, d2, d3, d4, d5] => { results := [.lit (.bool false)], args := [d1, d2, d3, d4, d5] }
  | _ => none }
def TopSealedWrongFalsely : Prop := topSealedRow.holds Try.pinned (OpenSpec.ofChange topSealedWrong)

/-- 'packthreadlaw.HoleAdds': WHATEVER THE INPUT: true; the input reads as it did. -/
def holeAddsSpec : ChangeSpec := { name := "holeAdds", fn := fun _ => fun
  | [d1, d2, d3] => { results := [.lit (.bool true)], args := [d1, d2, d3] }
  | _ => none }
def holeAddsRow : OpenClaim := { program := "ytedbidblnjajdaa", sum := "f8ee9b729df278fd41a930e2d8a1d6b3268e8c10921d2daec5c4b83d0e04c66d", func := "packthread/packthreadlaw.HoleAdds", spec := "holeAdds", unfollowed := true, recurses := true, plainKeys := false, apart := false }
def HoleAddsSaid : Prop := holeAddsRow.holds Try.pinned (OpenSpec.ofChange holeAddsSpec)

/-- ITS FALSE NEIGHBOUR: 'it returns false'. Refute it at one input. -/
def holeAddsWrong : ChangeSpec := { name := "holeAdds", fn := fun _ => fun
  | [d1, d2, d3] => { results := [.lit (.bool false)], args := [d1, d2, d3] }
  | _ => none }
def HoleAddsWrongFalsely : Prop := holeAddsRow.holds Try.pinned (OpenSpec.ofChange holeAddsWrong)

/-- 'packthreadlaw.FairPlays': WHATEVER THE INPUT: true; the input reads as it did. -/
def fairPlaysSpec : ChangeSpec := { name := "fairPlays", fn := fun _ => fun
  | [d1, d2] => { results := [.lit (.bool true)], args := [d1, d2] }
  | _ => none }
def fairPlaysRow : OpenClaim := { program := "ytedbidblnjajdaa", sum := "f8ee9b729df278fd41a930e2d8a1d6b3268e8c10921d2daec5c4b83d0e04c66d", func := "packthread/packthreadlaw.FairPlays", spec := "fairPlays", unfollowed := true, recurses := true, plainKeys := false, apart := false }
def FairPlaysSaid : Prop := fairPlaysRow.holds Try.pinned (OpenSpec.ofChange fairPlaysSpec)

/-- ITS FALSE NEIGHBOUR: 'it returns false'. Refute it at one input. -/
def fairPlaysWrong : ChangeSpec := { name := "fairPlays", fn := fun _ => fun
  | [d1, d2] => { results := [.lit (.bool false)], args := [d1, d2] }
  | _ => none }
def FairPlaysWrongFalsely : Prop := fairPlaysRow.holds Try.pinned (OpenSpec.ofChange fairPlaysWrong)

/-- 'packthreadlaw.FetchPlays': WHATEVER THE INPUT: true; the input reads as it did. -/
def fetchPlaysSpec : ChangeSpec := { name := "fetchPlays", fn := fun _ => fun
  | [d] => { results := [.lit (.bool true)], args := [d] }
  | _ => none }
def fetchPlaysRow : OpenClaim := { program := "ytedbidblnjajdaa", sum := "f8ee9b729df278fd41a930e2d8a1d6b3268e8c10921d2daec5c4b83d0e04c66d", func := "packthread/packthreadlaw.FetchPlays", spec := "fetchPlays", unfollowed := true, recurses := true, plainKeys := false, apart := false }
def FetchPlaysSaid : Prop := fetchPlaysRow.holds Try.pinned (OpenSpec.ofChange fetchPlaysSpec)

/-- ITS FALSE NEIGHBOUR: 'it returns false'. Refute it at one input. -/
def fetchPlaysWrong : ChangeSpec := { name := "fetchPlays", fn := fun _ => fun
  | [d] => { results := [.lit (.bool false)], args := [d] }
  | _ => none }
def FetchPlaysWrongFalsely : Prop := fetchPlaysRow.holds Try.pinned (OpenSpec.ofChange fetchPlaysWrong)

/- THE SECOND FORM. 'bulk': how many values and letters a reading holds, each counted each time it is reached (what is shared counts as often as it is met; a slice's spare places count too). A statement '..UptoSaid' is the law's where the arguments, and the package variables that the reading takes, are together of bulk at most 1048576: NARROWER than '..Said'. Prove '..Said' where nothing that the law and all that it calls make is longer than what came in: it says more and counts as full. Else prove '..UptoSaid'. A law counts once. -/
mutual
def uptoBulk {H : Type} : DataW H → Nat
  | .lit (.string bytes) => bytes.length + 1
  | .lit _ => 1
  | .nil => 1
  | .ptr d => uptoBulk d + 1
  | .slice elems spare => uptoBulkAll elems + uptoBulkAll spare + 1
  | .agg parts => uptoBulkAll parts + 1
  | .iface _ d => uptoBulk d + 1
  | .map entries => uptoBulkEntries entries + 1
  | .held _ => 1
def uptoBulkAll {H : Type} : List (DataW H) → Nat
  | [] => 0
  | d :: r => uptoBulk d + uptoBulkAll r
def uptoBulkEntries {H : Type} : List (Lit × DataW H) → Nat
  | [] => 0
  | x :: r => uptoBulkEntry x + uptoBulkEntries r
def uptoBulkEntry {H : Type} : Lit × DataW H → Nat
  | (.string bytes, d) => bytes.length + uptoBulk d + 1
  | (_, d) => uptoBulk d + 1
 end
def uptoSmall : (H : Type) → List (DataW H) → Bool := fun _ ds => decide (uptoBulkAll ds ≤ 1048576)
def OpenSpec.upto (s : _root_.Go.ChangeSpec) : _root_.Go.OpenSpec := { _root_.Go.OpenSpec.ofChange s with cond := some uptoSmall }

/-- 'packthreadlaw.LzExpands', WHERE WHAT IT READS IS OF BULK AT MOST 1048576: true; the input reads as it did. -/
def lzExpandsUptoRow : OpenClaim := { program := "ytedbidblnjajdaa", sum := "f8ee9b729df278fd41a930e2d8a1d6b3268e8c10921d2daec5c4b83d0e04c66d", func := "packthread/packthreadlaw.LzExpands", spec := "lzExpands", plainKeys := false, apart := false, narrowed := true }
def LzExpandsUptoSaid : Prop := lzExpandsUptoRow.holds Try.pinned (OpenSpec.upto lzExpandsSpec)

/-- 'packthreadlaw.DeltaPatches', WHERE WHAT IT READS IS OF BULK AT MOST 1048576: true; the input reads as it did. -/
def deltaPatchesUptoRow : OpenClaim := { program := "ytedbidblnjajdaa", sum := "f8ee9b729df278fd41a930e2d8a1d6b3268e8c10921d2daec5c4b83d0e04c66d", func := "packthread/packthreadlaw.DeltaPatches", spec := "deltaPatches", plainKeys := false, apart := false, narrowed := true }
def DeltaPatchesUptoSaid : Prop := deltaPatchesUptoRow.holds Try.pinned (OpenSpec.upto deltaPatchesSpec)

/-- 'packthreadlaw.HoleSacks', WHERE WHAT IT READS IS OF BULK AT MOST 1048576: true; the input reads as it did. -/
def holeSacksUptoRow : OpenClaim := { program := "ytedbidblnjajdaa", sum := "f8ee9b729df278fd41a930e2d8a1d6b3268e8c10921d2daec5c4b83d0e04c66d", func := "packthread/packthreadlaw.HoleSacks", spec := "holeSacks", unfollowed := true, recurses := true, plainKeys := false, apart := false, narrowed := true }
def HoleSacksUptoSaid : Prop := holeSacksUptoRow.holds Try.pinned (OpenSpec.upto holeSacksSpec)

/-- 'packthreadlaw.DeltaDeltas', WHERE WHAT IT READS IS OF BULK AT MOST 1048576: true; the input reads as it did. -/
def deltaDeltasUptoRow : OpenClaim := { program := "ytedbidblnjajdaa", sum := "f8ee9b729df278fd41a930e2d8a1d6b3268e8c10921d2daec5c4b83d0e04c66d", func := "packthread/packthreadlaw.DeltaDeltas", spec := "deltaDeltas", plainKeys := false, apart := false, narrowed := true }
def DeltaDeltasUptoSaid : Prop := deltaDeltasUptoRow.holds Try.pinned (OpenSpec.upto deltaDeltasSpec)

/-- 'packthreadlaw.LzParses', WHERE WHAT IT READS IS OF BULK AT MOST 1048576: true; the input reads as it did. -/
def lzParsesUptoRow : OpenClaim := { program := "ytedbidblnjajdaa", sum := "f8ee9b729df278fd41a930e2d8a1d6b3268e8c10921d2daec5c4b83d0e04c66d", func := "packthread/packthreadlaw.LzParses", spec := "lzParses", plainKeys := false, apart := false, narrowed := true }
def LzParsesUptoSaid : Prop := lzParsesUptoRow.holds Try.pinned (OpenSpec.upto lzParsesSpec)

/-- 'packthreadlaw.FrameFeeds', WHERE WHAT IT READS IS OF BULK AT MOST 1048576: true; the input reads as it did. -/
def frameFeedsUptoRow : OpenClaim := { program := "ytedbidblnjajdaa", sum := "f8ee9b729df278fd41a930e2d8a1d6b3268e8c10921d2daec5c4b83d0e04c66d", func := "packthread/packthreadlaw.FrameFeeds", spec := "frameFeeds", plainKeys := false, apart := false, narrowed := true }
def FrameFeedsUptoSaid : Prop := frameFeedsUptoRow.holds Try.pinned (OpenSpec.upto frameFeedsSpec)

/-- 'packthreadlaw.SegEncodes', WHERE WHAT IT READS IS OF BULK AT MOST 1048576: true; the input reads as it did. -/
def segEncodesUptoRow : OpenClaim := { program := "ytedbidblnjajdaa", sum := "f8ee9b729df278fd41a930e2d8a1d6b3268e8c10921d2daec5c4b83d0e04c66d", func := "packthread/packthreadlaw.SegEncodes", spec := "segEncodes", unfollowed := true, recurses := true, plainKeys := false, apart := false, narrowed := true }
def SegEncodesUptoSaid : Prop := segEncodesUptoRow.holds Try.pinned (OpenSpec.upto segEncodesSpec)

/-- 'packthreadlaw.SegDecodes', WHERE WHAT IT READS IS OF BULK AT MOST 1048576: true; the input reads as it did. -/
def segDecodesUptoRow : OpenClaim := { program := "ytedbidblnjajdaa", sum := "f8ee9b729df278fd41a930e2d8a1d6b3268e8c10921d2daec5c4b83d0e04c66d", func := "packthread/packthreadlaw.SegDecodes", spec := "segDecodes", unfollowed := true, recurses := true, plainKeys := false, apart := false, narrowed := true }
def SegDecodesUptoSaid : Prop := segDecodesUptoRow.holds Try.pinned (OpenSpec.upto segDecodesSpec)

/-- 'packthreadtop.TopSealed', WHERE WHAT IT READS IS OF BULK AT MOST 1048576: true; the input reads as it did. -/
def topSealedUptoRow : OpenClaim := { program := "ytedbidblnjajdaa", sum := "f8ee9b729df278fd41a930e2d8a1d6b3268e8c10921d2daec5c4b83d0e04c66d", func := "packthread/packthreadtop.TopSealed", spec := "topSealed", unfollowed := true, recurses := true, plainKeys := false, apart := false, narrowed := true }
def TopSealedUptoSaid : Prop := topSealedUptoRow.holds Try.pinned (OpenSpec.upto topSealedSpec)

/-- 'packthreadlaw.HoleAdds', WHERE WHAT IT READS IS OF BULK AT MOST 1048576: true; the input reads as it did. -/
def holeAddsUptoRow : OpenClaim := { program := "ytedbidblnjajdaa", sum := "f8ee9b729df278fd41a930e2d8a1d6b3268e8c10921d2daec5c4b83d0e04c66d", func := "packthread/packthreadlaw.HoleAdds", spec := "holeAdds", unfollowed := true, recurses := true, plainKeys := false, apart := false, narrowed := true }
def HoleAddsUptoSaid : Prop := holeAddsUptoRow.holds Try.pinned (OpenSpec.upto holeAddsSpec)

/-- 'packthreadlaw.FairPlays', WHERE WHAT IT READS IS OF BULK AT MOST 1048576: true; the input reads as it did. -/
def fairPlaysUptoRow : OpenClaim := { program := "ytedbidblnjajdaa", sum := "f8ee9b729df278fd41a930e2d8a1d6b3268e8c10921d2daec5c4b83d0e04c66d", func := "packthread/packthreadlaw.FairPlays", spec := "fairPlays", unfollowed := true, recurses := true, plainKeys := false, apart := false, narrowed := true }
def FairPlaysUptoSaid : Prop := fairPlaysUptoRow.holds Try.pinned (OpenSpec.upto fairPlaysSpec)

/-- 'packthreadlaw.FetchPlays', WHERE WHAT IT READS IS OF BULK AT MOST 1048576: true; the input reads as it did. -/
def fetchPlaysUptoRow : OpenClaim := { program := "ytedbidblnjajdaa", sum := "f8ee9b729df278fd41a930e2d8a1d6b3268e8c10921d2daec5c4b83d0e04c66d", func := "packthread/packthreadlaw.FetchPlays", spec := "fetchPlays", unfollowed := true, recurses := true, plainKeys := false, apart := false, narrowed := true }
def FetchPlaysUptoSaid : Prop := fetchPlaysUptoRow.holds Try.pinned (OpenSpec.upto fetchPlaysSpec)

end Rows
end Go.Proofs.Ytedbidblnjajdaa
