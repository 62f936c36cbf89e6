/-
  No cell of these rows narrows 'for every input' (looked for: loops, veiled, ifaces, maps, wideKeys, modest, calm, conditions, laid).
  DERIVED. THE GIVEN ROWS OF THIS SEAT. 12 by the template 'for every input the law returns true; each argument reads behind the call as it read before'; 0 by the template 'total and deterministic' (their statements: YtkebfedgabjmjaaTotals.lean).
  GIVEN WITH THE SEED: the statements are not yours to turn. If you find one false, say at which input.
  Laid BY PROGRAM, IN A SANDBOX (cutbox-rows.mjs): the forced cells as the released guide's own fill.sh prints them over the translation e96ea8268d344f8e… (all of the seat's roots in one cut). By AI agents, Wed Nov 11 2026. No macro, syntax, notation, axiom, sorry.
-/
import Derived.Test.YtkebfedgabjmjaaChecked
import GoSem.Claim
import GoSem.ClaimJoined
import GoSem.ClaimMapViews
import Derived.JoinedTies
import Derived.KernelRfl
namespace Go.Proofs.Ytkebfedgabjmjaa
/- THE CELL 'sum', in the pinned program and in every row, IS THE sha256 OF THE DUMP (.gsa) THAT YtkebfedgabjmjaaProg.lean LOADS. Nothing in Lean hashes anything: it is a label: what it is worth is what the hold of that sum in a sandbox is worth. -/
noncomputable def Try.pinned : Pinned := { name := "ytkebfedgabjmjaa", sum := "e96ea8268d344f8e118e278a720c605f2efd32b9ccc0f3cda2ec4c32a15fe4fd", checked := Try.checked }
namespace Rows
def none {H : Type} : Left H := { results := [], args := [] }

/-- 'packthreadlaw.SerialAdds': WHATEVER THE INPUT: true; the input reads as it did. -/
def serialAddsSpec : ChangeSpec := { name := "serialAdds", fn := fun _ => fun
  | [d1, d2] => { results := [.lit (.bool true)], args := [d1, d2] }
  | _ => none }
def serialAddsRow : OpenClaim := { program := "ytkebfedgabjmjaa", sum := "e96ea8268d344f8e118e278a720c605f2efd32b9ccc0f3cda2ec4c32a15fe4fd", func := "packthread/packthreadlaw.SerialAdds", spec := "serialAdds", apart := false }
def SerialAddsSaid : Prop := serialAddsRow.holds Try.pinned (OpenSpec.ofChange serialAddsSpec)

/-- ITS FALSE NEIGHBOUR: 'it returns false'. Refute it at one input. -/
def serialAddsWrong : ChangeSpec := { name := "serialAdds", fn := fun _ => fun
  | [d1, d2] => { results := [.lit (.bool false)], args := [d1, d2] }
  | _ => none }
def SerialAddsWrongFalsely : Prop := serialAddsRow.holds Try.pinned (OpenSpec.ofChange serialAddsWrong)

/-- 'packthreadlaw.SerialFars': WHATEVER THE INPUT: true; the input reads as it did. -/
def serialFarsSpec : ChangeSpec := { name := "serialFars", fn := fun _ => fun
  | [d1, d2] => { results := [.lit (.bool true)], args := [d1, d2] }
  | _ => none }
def serialFarsRow : OpenClaim := { program := "ytkebfedgabjmjaa", sum := "e96ea8268d344f8e118e278a720c605f2efd32b9ccc0f3cda2ec4c32a15fe4fd", func := "packthread/packthreadlaw.SerialFars", spec := "serialFars", apart := false }
def SerialFarsSaid : Prop := serialFarsRow.holds Try.pinned (OpenSpec.ofChange serialFarsSpec)

/-- ITS FALSE NEIGHBOUR: 'it returns false'. Refute it at one input. -/
def serialFarsWrong : ChangeSpec := { name := "serialFars", fn := fun _ => fun
  | [d1, d2] => { results := [.lit (.bool false)], args := [d1, d2] }
  | _ => none }
def SerialFarsWrongFalsely : Prop := serialFarsRow.holds Try.pinned (OpenSpec.ofChange serialFarsWrong)

/-- 'packthreadlaw.SerialWithins': WHATEVER THE INPUT: true; the input reads as it did. -/
def serialWithinsSpec : ChangeSpec := { name := "serialWithins", fn := fun _ => fun
  | [d1, d2, d3] => { results := [.lit (.bool true)], args := [d1, d2, d3] }
  | _ => none }
def serialWithinsRow : OpenClaim := { program := "ytkebfedgabjmjaa", sum := "e96ea8268d344f8e118e278a720c605f2efd32b9ccc0f3cda2ec4c32a15fe4fd", func := "packthread/packthreadlaw.SerialWithins", spec := "serialWithins", apart := false }
def SerialWithinsSaid : Prop := serialWithinsRow.holds Try.pinned (OpenSpec.ofChange serialWithinsSpec)

/-- ITS FALSE NEIGHBOUR: 'it returns false'. Refute it at one input. -/
def serialWithinsWrong : ChangeSpec := { name := "serialWithins", fn := fun _ => fun
  | [d1, d2, d3] => { results := [.lit (.bool false)], args := [d1, d2, d3] }
  | _ => none }
def SerialWithinsWrongFalsely : Prop := serialWithinsRow.holds Try.pinned (OpenSpec.ofChange serialWithinsWrong)

/-- 'packthreadlaw.InetFolds': WHATEVER THE INPUT: true; the input reads as it did. -/
def inetFoldsSpec : ChangeSpec := { name := "inetFolds", fn := fun _ => fun
  | [d] => { results := [.lit (.bool true)], args := [d] }
  | _ => none }
def inetFoldsRow : OpenClaim := { program := "ytkebfedgabjmjaa", sum := "e96ea8268d344f8e118e278a720c605f2efd32b9ccc0f3cda2ec4c32a15fe4fd", func := "packthread/packthreadlaw.InetFolds", spec := "inetFolds", apart := false }
def InetFoldsSaid : Prop := inetFoldsRow.holds Try.pinned (OpenSpec.ofChange inetFoldsSpec)

/-- ITS FALSE NEIGHBOUR: 'it returns false'. Refute it at one input. -/
def inetFoldsWrong : ChangeSpec := { name := "inetFolds", fn := fun _ => fun
  | [d] => { results := [.lit (.bool false)], args := [d] }
  | _ => none }
def InetFoldsWrongFalsely : Prop := inetFoldsRow.holds Try.pinned (OpenSpec.ofChange inetFoldsWrong)

/-- 'packthreadlaw.InetSums': WHATEVER THE INPUT: true; the input reads as it did. -/
def inetSumsSpec : ChangeSpec := { name := "inetSums", fn := fun _ => fun
  | [d] => { results := [.lit (.bool true)], args := [d] }
  | _ => none }
def inetSumsRow : OpenClaim := { program := "ytkebfedgabjmjaa", sum := "e96ea8268d344f8e118e278a720c605f2efd32b9ccc0f3cda2ec4c32a15fe4fd", func := "packthread/packthreadlaw.InetSums", spec := "inetSums", apart := false }
def InetSumsSaid : Prop := inetSumsRow.holds Try.pinned (OpenSpec.ofChange inetSumsSpec)

/-- ITS FALSE NEIGHBOUR: 'it returns false'. Refute it at one input. -/
def inetSumsWrong : ChangeSpec := { name := "inetSums", fn := fun _ => fun
  | [d] => { results := [.lit (.bool false)], args := [d] }
  | _ => none }
def InetSumsWrongFalsely : Prop := inetSumsRow.holds Try.pinned (OpenSpec.ofChange inetSumsWrong)

/-- 'packthreadlaw.SerialNears': WHATEVER THE INPUT: true; the input reads as it did. -/
def serialNearsSpec : ChangeSpec := { name := "serialNears", fn := fun _ => fun
  | [d1, d2] => { results := [.lit (.bool true)], args := [d1, d2] }
  | _ => none }
def serialNearsRow : OpenClaim := { program := "ytkebfedgabjmjaa", sum := "e96ea8268d344f8e118e278a720c605f2efd32b9ccc0f3cda2ec4c32a15fe4fd", func := "packthread/packthreadlaw.SerialNears", spec := "serialNears", apart := false }
def SerialNearsSaid : Prop := serialNearsRow.holds Try.pinned (OpenSpec.ofChange serialNearsSpec)

/-- ITS FALSE NEIGHBOUR: 'it returns false'. Refute it at one input. -/
def serialNearsWrong : ChangeSpec := { name := "serialNears", fn := fun _ => fun
  | [d1, d2] => { results := [.lit (.bool false)], args := [d1, d2] }
  | _ => none }
def SerialNearsWrongFalsely : Prop := serialNearsRow.holds Try.pinned (OpenSpec.ofChange serialNearsWrong)

/-- 'packthreadlaw.InetUpdates': WHATEVER THE INPUT: true; the input reads as it did. -/
def inetUpdatesSpec : ChangeSpec := { name := "inetUpdates", fn := fun _ => fun
  | [d1, d2, d3] => { results := [.lit (.bool true)], args := [d1, d2, d3] }
  | _ => none }
def inetUpdatesRow : OpenClaim := { program := "ytkebfedgabjmjaa", sum := "e96ea8268d344f8e118e278a720c605f2efd32b9ccc0f3cda2ec4c32a15fe4fd", func := "packthread/packthreadlaw.InetUpdates", spec := "inetUpdates", apart := false }
def InetUpdatesSaid : Prop := inetUpdatesRow.holds Try.pinned (OpenSpec.ofChange inetUpdatesSpec)

/-- ITS FALSE NEIGHBOUR: 'it returns false'. Refute it at one input. -/
def inetUpdatesWrong : ChangeSpec := { name := "inetUpdates", fn := fun _ => fun
  | [d1, d2, d3] => { results := [.lit (.bool false)], args := [d1, d2, d3] }
  | _ => none }
def InetUpdatesWrongFalsely : Prop := inetUpdatesRow.holds Try.pinned (OpenSpec.ofChange inetUpdatesWrong)

/-- 'packthreadtop.TopSealed': WHATEVER THE INPUT: true; the input reads as it did. -/
def topSealedSpec : ChangeSpec := { name := "topSealed", fn := fun _ => fun
  | [d1, d2, d3, d4, d5] => { results := [.lit (.bool true)], args := [d1, d2, d3, d4, d5] }
  | _ => none }
def topSealedRow : OpenClaim := { program := "ytkebfedgabjmjaa", sum := "e96ea8268d344f8e118e278a720c605f2efd32b9ccc0f3cda2ec4c32a15fe4fd", func := "packthread/packthreadtop.TopSealed", spec := "topSealed", unfollowed := true, recurses := true, apart := false }
def TopSealedSaid : Prop := topSealedRow.holds Try.pinned (OpenSpec.ofChange topSealedSpec)

/-- ITS FALSE NEIGHBOUR: 'it returns false'. Refute it at one input. -/
def topSealedWrong : ChangeSpec := { name := "topSealed", fn := fun _ => fun
  | [d1, d2, d3, d4, d5] => { results := [.lit (.bool false)], args := [d1, d2, d3, d4, d5] }
  | _ => none }
def TopSealedWrongFalsely : Prop := topSealedRow.holds Try.pinned (OpenSpec.ofChange topSealedWrong)

/-- 'packthreadlaw.SerialOrders': WHATEVER THE INPUT: true; the input reads as it did. -/
def serialOrdersSpec : ChangeSpec := { name := "serialOrders", fn := fun _ => fun
  | [d1, d2] => { results := [.lit (.bool true)], args := [d1, d2] }
  | _ => none }
def serialOrdersRow : OpenClaim := { program := "ytkebfedgabjmjaa", sum := "e96ea8268d344f8e118e278a720c605f2efd32b9ccc0f3cda2ec4c32a15fe4fd", func := "packthread/packthreadlaw.SerialOrders", spec := "serialOrders", apart := false }
def SerialOrdersSaid : Prop := serialOrdersRow.holds Try.pinned (OpenSpec.ofChange serialOrdersSpec)

/-- ITS FALSE NEIGHBOUR: 'it returns false'. Refute it at one input. -/
def serialOrdersWrong : ChangeSpec := { name := "serialOrders", fn := fun _ => fun
  | [d1, d2] => { results := [.lit (.bool false)], args := [d1, d2] }
  | _ => none }
def SerialOrdersWrongFalsely : Prop := serialOrdersRow.holds Try.pinned (OpenSpec.ofChange serialOrdersWrong)

/-- 'packthreadlaw.InetJoins': WHATEVER THE INPUT: true; the input reads as it did. -/
def inetJoinsSpec : ChangeSpec := { name := "inetJoins", fn := fun _ => fun
  | [d1, d2, d3] => { results := [.lit (.bool true)], args := [d1, d2, d3] }
  | _ => none }
def inetJoinsRow : OpenClaim := { program := "ytkebfedgabjmjaa", sum := "e96ea8268d344f8e118e278a720c605f2efd32b9ccc0f3cda2ec4c32a15fe4fd", func := "packthread/packthreadlaw.InetJoins", spec := "inetJoins", apart := false }
def InetJoinsSaid : Prop := inetJoinsRow.holds Try.pinned (OpenSpec.ofChange inetJoinsSpec)

/-- ITS FALSE NEIGHBOUR: 'it returns false'. Refute it at one input. -/
def inetJoinsWrong : ChangeSpec := { name := "inetJoins", fn := fun _ => fun
  | [d1, d2, d3] => { results := [.lit (.bool false)], args := [d1, d2, d3] }
  | _ => none }
def InetJoinsWrongFalsely : Prop := inetJoinsRow.holds Try.pinned (OpenSpec.ofChange inetJoinsWrong)

/-- 'packthreadlaw.SegEncodes': WHATEVER THE INPUT: true; the input reads as it did. -/
def segEncodesSpec : ChangeSpec := { name := "segEncodes", fn := fun _ => fun
  | [d] => { results := [.lit (.bool true)], args := [d] }
  | _ => none }
def segEncodesRow : OpenClaim := { program := "ytkebfedgabjmjaa", sum := "e96ea8268d344f8e118e278a720c605f2efd32b9ccc0f3cda2ec4c32a15fe4fd", func := "packthread/packthreadlaw.SegEncodes", spec := "segEncodes", unfollowed := true, recurses := true, apart := false }
def SegEncodesSaid : Prop := segEncodesRow.holds Try.pinned (OpenSpec.ofChange segEncodesSpec)

/-- ITS FALSE NEIGHBOUR: 'it returns false'. Refute it at one input. -/
def segEncodesWrong : ChangeSpec := { name := "segEncodes", fn := fun _ => fun
  | [d] => { results := [.lit (.bool false)], args := [d] }
  | _ => none }
def SegEncodesWrongFalsely : Prop := segEncodesRow.holds Try.pinned (OpenSpec.ofChange segEncodesWrong)

/-- 'packthreadlaw.SegDecodes': WHATEVER THE INPUT: true; the input reads as it did. -/
def segDecodesSpec : ChangeSpec := { name := "segDecodes", fn := fun _ => fun
  | [d] => { results := [.lit (.bool true)], args := [d] }
  | _ => none }
def segDecodesRow : OpenClaim := { program := "ytkebfedgabjmjaa", sum := "e96ea8268d344f8e118e278a720c605f2efd32b9ccc0f3cda2ec4c32a15fe4fd", func := "packthread/packthreadlaw.SegDecodes", spec := "segDecodes", unfollowed := true, recurses := true, apart := false }
def SegDecodesSaid : Prop := segDecodesRow.holds Try.pinned (OpenSpec.ofChange segDecodesSpec)

/-- ITS FALSE NEIGHBOUR: 'it returns false'. Refute it at one input. -/
def segDecodesWrong : ChangeSpec := { name := "segDecodes", fn := fun _ => fun
  | [d] => { results := [.lit (.bool false)], args := [d] }
  | _ => none }
def SegDecodesWrongFalsely : Prop := segDecodesRow.holds Try.pinned (OpenSpec.ofChange segDecodesWrong)

/- THE SECOND FORM. 'bulk': how many values and letters a reading holds, each counted each time it is reached (what is shared counts as often as it is met; a slice's spare places count too). A statement '..UptoSaid' is the law's where the arguments, and the package variables that the reading takes, are together of bulk at most 1048576: NARROWER than '..Said'. Prove '..Said' where nothing that the law and all that it calls make is longer than what came in: it says more and counts as full. Else prove '..UptoSaid'. A law counts once. -/
mutual
def uptoBulk {H : Type} : DataW H → Nat
  | .lit (.string bytes) => bytes.length + 1
  | .lit _ => 1
  | .nil => 1
  | .ptr d => uptoBulk d + 1
  | .slice elems spare => uptoBulkAll elems + uptoBulkAll spare + 1
  | .agg parts => uptoBulkAll parts + 1
  | .iface _ d => uptoBulk d + 1
  | .map entries => uptoBulkEntries entries + 1
  | .held _ => 1
def uptoBulkAll {H : Type} : List (DataW H) → Nat
  | [] => 0
  | d :: r => uptoBulk d + uptoBulkAll r
def uptoBulkEntries {H : Type} : List (Lit × DataW H) → Nat
  | [] => 0
  | x :: r => uptoBulkEntry x + uptoBulkEntries r
def uptoBulkEntry {H : Type} : Lit × DataW H → Nat
  | (.string bytes, d) => bytes.length + uptoBulk d + 1
  | (_, d) => uptoBulk d + 1
 end
def uptoSmall : (H : Type) → List (DataW H) → Bool := fun _ ds => decide (uptoBulkAll ds ≤ 1048576)
def OpenSpec.upto (s : _root_.Go.ChangeSpec) : _root_.Go.OpenSpec := { _root_.Go.OpenSpec.ofChange s with cond := some uptoSmall }

/-- 'packthreadlaw.SerialAdds', WHERE WHAT IT READS IS OF BULK AT MOST 1048576: true; the input reads as it did. -/
def serialAddsUptoRow : OpenClaim := { program := "ytkebfedgabjmjaa", sum := "e96ea8268d344f8e118e278a720c605f2efd32b9ccc0f3cda2ec4c32a15fe4fd", func := "packthread/packthreadlaw.SerialAdds", spec := "serialAdds", apart := false, narrowed := true }
def SerialAddsUptoSaid : Prop := serialAddsUptoRow.holds Try.pinned (OpenSpec.upto serialAddsSpec)

/-- 'packthreadlaw.SerialFars', WHERE WHAT IT READS IS OF BULK AT MOST 1048576: true; the input reads as it did. -/
def serialFarsUptoRow : OpenClaim := { program := "ytkebfedgabjmjaa", sum := "e96ea8268d344f8e118e278a720c605f2efd32b9ccc0f3cda2ec4c32a15fe4fd", func := "packthread/packthreadlaw.SerialFars", spec := "serialFars", apart := false, narrowed := true }
def SerialFarsUptoSaid : Prop := serialFarsUptoRow.holds Try.pinned (OpenSpec.upto serialFarsSpec)

/-- 'packthreadlaw.SerialWithins', WHERE WHAT IT READS IS OF BULK AT MOST 1048576: true; the input reads as it did. -/
def serialWithinsUptoRow : OpenClaim := { program := "ytkebfedgabjmjaa", sum := "e96ea8268d344f8e118e278a720c605f2efd32b9ccc0f3cda2ec4c32a15fe4fd", func := "packthread/packthreadlaw.SerialWithins", spec := "serialWithins", apart := false, narrowed := true }
def SerialWithinsUptoSaid : Prop := serialWithinsUptoRow.holds Try.pinned (OpenSpec.upto serialWithinsSpec)

/-- 'packthreadlaw.InetFolds', WHERE WHAT IT READS IS OF BULK AT MOST 1048576: true; the input reads as it did. -/
def inetFoldsUptoRow : OpenClaim := { program := "ytkebfedgabjmjaa", sum := "e96ea8268d344f8e118e278a720c605f2efd32b9ccc0f3cda2ec4c32a15fe4fd", func := "packthread/packthreadlaw.InetFolds", spec := "inetFolds", apart := false, narrowed := true }
def InetFoldsUptoSaid : Prop := inetFoldsUptoRow.holds Try.pinned (OpenSpec.upto inetFoldsSpec)

/-- 'packthreadlaw.InetSums', WHERE WHAT IT READS IS OF BULK AT MOST 1048576: true; the input reads as it did. -/
def inetSumsUptoRow : OpenClaim := { program := "ytkebfedgabjmjaa", sum := "e96ea8268d344f8e118e278a720c605f2efd32b9ccc0f3cda2ec4c32a15fe4fd", func := "packthread/packthreadlaw.InetSums", spec := "inetSums", apart := false, narrowed := true }
def InetSumsUptoSaid : Prop := inetSumsUptoRow.holds Try.pinned (OpenSpec.upto inetSumsSpec)

/-- 'packthreadlaw.SerialNears', WHERE WHAT IT READS IS OF BULK AT MOST 1048576: true; the input reads as it did. -/
def serialNearsUptoRow : OpenClaim := { program := "ytkebfedgabjmjaa", sum := "e96ea8268d344f8e118e278a720c605f2efd32b9ccc0f3cda2ec4c32a15fe4fd", func := "packthread/packthreadlaw.SerialNears", spec := "serialNears", apart := false, narrowed := true }
def SerialNearsUptoSaid : Prop := serialNearsUptoRow.holds Try.pinned (OpenSpec.upto serialNearsSpec)

/-- 'packthreadlaw.InetUpdates', WHERE WHAT IT READS IS OF BULK AT MOST 1048576: true; the input reads as it did. -/
def inetUpdatesUptoRow : OpenClaim := { program := "ytkebfedgabjmjaa", sum := "e96ea8268d344f8e118e278a720c605f2efd32b9ccc0f3cda2ec4c32a15fe4fd", func := "packthread/packthreadlaw.InetUpdates", spec := "inetUpdates", apart := false, narrowed := true }
def InetUpdatesUptoSaid : Prop := inetUpdatesUptoRow.holds Try.pinned (OpenSpec.upto inetUpdatesSpec)

/-- 'packthreadtop.TopSealed', WHERE WHAT IT READS IS OF BULK AT MOST 1048576: true; the input reads as it did. -/
def topSealedUptoRow : OpenClaim := { program := "ytkebfedgabjmjaa", sum := "e96ea8268d344f8e118e278a720c605f2efd32b9ccc0f3cda2ec4c32a15fe4fd", func := "packthread/packthreadtop.TopSealed", spec := "topSealed", unfollowed := true, recurses := true, apart := false, narrowed := true }
def TopSealedUptoSaid : Prop := topSealedUptoRow.holds Try.pinned (OpenSpec.upto topSealedSpec)

/-- 'packthreadlaw.SerialOrders', WHERE WHAT IT READS IS OF BULK AT MOST 1048576: true; the input reads as it did. -/
def serialOrdersUptoRow : OpenClaim := { program := "ytkebfedgabjmjaa", sum := "e96ea8268d344f8e118e278a720c605f2efd32b9ccc0f3cda2ec4c32a15fe4fd", func := "packthread/packthreadlaw.SerialOrders", spec := "serialOrders", apart := false, narrowed := true }
def SerialOrdersUptoSaid : Prop := serialOrdersUptoRow.holds Try.pinned (OpenSpec.upto serialOrdersSpec)

/-- 'packthreadlaw.InetJoins', WHERE WHAT IT READS IS OF BULK AT MOST 1048576: true; the input reads as it did. -/
def inetJoinsUptoRow : OpenClaim := { program := "ytkebfedgabjmjaa", sum := "e96ea8268d344f8e118e278a720c605f2efd32b9ccc0f3cda2ec4c32a15fe4fd", func := "packthread/packthreadlaw.InetJoins", spec := "inetJoins", apart := false, narrowed := true }
def InetJoinsUptoSaid : Prop := inetJoinsUptoRow.holds Try.pinned (OpenSpec.upto inetJoinsSpec)

/-- 'packthreadlaw.SegEncodes', WHERE WHAT IT READS IS OF BULK AT MOST 1048576: true; the input reads as it did. -/
def segEncodesUptoRow : OpenClaim := { program := "ytkebfedgabjmjaa", sum := "e96ea8268d344f8e118e278a720c605f2efd32b9ccc0f3cda2ec4c32a15fe4fd", func := "packthread/packthreadlaw.SegEncodes", spec := "segEncodes", unfollowed := true, recurses := true, apart := false, narrowed := true }
def SegEncodesUptoSaid : Prop := segEncodesUptoRow.holds Try.pinned (OpenSpec.upto segEncodesSpec)

/-- 'packthreadlaw.SegDecodes', WHERE WHAT IT READS IS OF BULK AT MOST 1048576: true; the input reads as it did. -/
def segDecodesUptoRow : OpenClaim := { program := "ytkebfedgabjmjaa", sum := "e96ea8268d344f8e118e278a720c605f2efd32b9ccc0f3cda2ec4c32a15fe4fd", func := "packthread/packthreadlaw.SegDecodes", spec := "segDecodes", unfollowed := true, recurses := true, apart := false, narrowed := true }
def SegDecodesUptoSaid : Prop := segDecodesUptoRow.holds Try.pinned (OpenSpec.upto segDecodesSpec)

end Rows
end Go.Proofs.Ytkebfedgabjmjaa
