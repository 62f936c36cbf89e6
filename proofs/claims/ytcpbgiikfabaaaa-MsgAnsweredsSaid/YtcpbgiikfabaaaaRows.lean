/-
  No cell of these rows narrows 'for every input' (looked for: loops, veiled, ifaces, maps, wideKeys, modest, calm, conditions, laid).
  DERIVED. THE GIVEN ROWS OF THIS SEAT. 4 by the template 'for every input the law returns true; each argument reads behind the call as it read before'; 0 by the template 'total and deterministic' (their statements: YtcpbgiikfabaaaaTotals.lean).
  GIVEN WITH THE SEED: the statements are not yours to turn. If you find one false, say at which input.
  Laid BY PROGRAM, IN A SANDBOX (cutbox-rows.mjs): the forced cells as the released guide's own fill.sh prints them over the translation 4edc3b20ddeb2438… (all of the seat's roots in one cut). By AI agents, Wed Nov 11 2026. No macro, syntax, notation, axiom, sorry.
-/
import Derived.Test.YtcpbgiikfabaaaaChecked
import GoSem.Claim
import GoSem.ClaimJoined
import GoSem.ClaimMapViews
import Derived.JoinedTies
import Derived.KernelRfl
namespace Go.Proofs.Ytcpbgiikfabaaaa
/- THE CELL 'sum', in the pinned program and in every row, IS THE sha256 OF THE DUMP (.gsa) THAT YtcpbgiikfabaaaaProg.lean LOADS. Nothing in Lean hashes anything: it is a label: what it is worth is what the hold of that sum in a sandbox is worth. -/
noncomputable def Try.pinned : Pinned := { name := "ytcpbgiikfabaaaa", sum := "4edc3b20ddeb2438aa211eaf2a87ab49bc4da4c0ad4828184c85af027bbb42a6", checked := Try.checked }
namespace Rows
def none {H : Type} : Left H := { results := [], args := [] }

/-- 'packthreadlaw.MsgAsks': WHATEVER THE INPUT: true; the input reads as it did. -/
def msgAsksSpec : ChangeSpec := { name := "msgAsks", fn := fun _ => fun
  | [d] => { results := [.lit (.bool true)], args := [d] }
  | _ => none }
def msgAsksRow : OpenClaim := { program := "ytcpbgiikfabaaaa", sum := "4edc3b20ddeb2438aa211eaf2a87ab49bc4da4c0ad4828184c85af027bbb42a6", func := "packthread/packthreadlaw.MsgAsks", spec := "msgAsks", unfollowed := true, recurses := true, apart := false }
def MsgAsksSaid : Prop := msgAsksRow.holds Try.pinned (OpenSpec.ofChange msgAsksSpec)

/-- ITS FALSE NEIGHBOUR: 'it returns false'. Refute it at one input. -/
def msgAsksWrong : ChangeSpec := { name := "msgAsks", fn := fun _ => fun
  | [d] => { results := [.lit (.bool false)], args := [d] }
  | _ => none }
def MsgAsksWrongFalsely : Prop := msgAsksRow.holds Try.pinned (OpenSpec.ofChange msgAsksWrong)

/-- 'packthreadlaw.MsgAskeds': WHATEVER THE INPUT: true; the input reads as it did. -/
def msgAskedsSpec : ChangeSpec := { name := "msgAskeds", fn := fun _ => fun
  | [d] => { results := [.lit (.bool true)], args := [d] }
  | _ => none }
def msgAskedsRow : OpenClaim := { program := "ytcpbgiikfabaaaa", sum := "4edc3b20ddeb2438aa211eaf2a87ab49bc4da4c0ad4828184c85af027bbb42a6", func := "packthread/packthreadlaw.MsgAskeds", spec := "msgAskeds", unfollowed := true, recurses := true, apart := false }
def MsgAskedsSaid : Prop := msgAskedsRow.holds Try.pinned (OpenSpec.ofChange msgAskedsSpec)

/-- ITS FALSE NEIGHBOUR: 'it returns false'. Refute it at one input. -/
def msgAskedsWrong : ChangeSpec := { name := "msgAskeds", fn := fun _ => fun
  | [d] => { results := [.lit (.bool false)], args := [d] }
  | _ => none }
def MsgAskedsWrongFalsely : Prop := msgAskedsRow.holds Try.pinned (OpenSpec.ofChange msgAskedsWrong)

/-- 'packthreadlaw.MsgAnswers': WHATEVER THE INPUT: true; the input reads as it did. -/
def msgAnswersSpec : ChangeSpec := { name := "msgAnswers", fn := fun _ => fun
  | [d] => { results := [.lit (.bool true)], args := [d] }
  | _ => none }
def msgAnswersRow : OpenClaim := { program := "ytcpbgiikfabaaaa", sum := "4edc3b20ddeb2438aa211eaf2a87ab49bc4da4c0ad4828184c85af027bbb42a6", func := "packthread/packthreadlaw.MsgAnswers", spec := "msgAnswers", inPlace := ["internal/bytealg.IndexByteString", "internal/bytealg.IndexString"], unfollowed := true, recurses := true, named := ["internal/bytealg.MaxLen"], apart := false }
def MsgAnswersSaid : Prop := msgAnswersRow.holds Try.pinned (OpenSpec.ofChange msgAnswersSpec)

/-- ITS FALSE NEIGHBOUR: 'it returns false'. Refute it at one input. -/
def msgAnswersWrong : ChangeSpec := { name := "msgAnswers", fn := fun _ => fun
  | [d] => { results := [.lit (.bool false)], args := [d] }
  | _ => none }
def MsgAnswersWrongFalsely : Prop := msgAnswersRow.holds Try.pinned (OpenSpec.ofChange msgAnswersWrong)

/-- 'packthreadlaw.MsgAnswereds': WHATEVER THE INPUT: true; the input reads as it did. -/
def msgAnsweredsSpec : ChangeSpec := { name := "msgAnswereds", fn := fun _ => fun
  | [d] => { results := [.lit (.bool true)], args := [d] }
  | _ => none }
def msgAnsweredsRow : OpenClaim := { program := "ytcpbgiikfabaaaa", sum := "4edc3b20ddeb2438aa211eaf2a87ab49bc4da4c0ad4828184c85af027bbb42a6", func := "packthread/packthreadlaw.MsgAnswereds", spec := "msgAnswereds", inPlace := ["internal/bytealg.IndexByteString", "internal/bytealg.IndexString"], unfollowed := true, recurses := true, named := ["internal/bytealg.MaxLen"], apart := false }
def MsgAnsweredsSaid : Prop := msgAnsweredsRow.holds Try.pinned (OpenSpec.ofChange msgAnsweredsSpec)

/-- ITS FALSE NEIGHBOUR: 'it returns false'. Refute it at one input. -/
def msgAnsweredsWrong : ChangeSpec := { name := "msgAnswereds", fn := fun _ => fun
  | [d] => { results := [.lit (.bool false)], args := [d] }
  | _ => none }
def MsgAnsweredsWrongFalsely : Prop := msgAnsweredsRow.holds Try.pinned (OpenSpec.ofChange msgAnsweredsWrong)

/- THE SECOND FORM. 'bulk': how many values and letters a reading holds, each counted each time it is reached (what is shared counts as often as it is met; a slice's spare places count too). A statement '..UptoSaid' is the law's where the arguments, and the package variables that the reading takes, are together of bulk at most 1048576: NARROWER than '..Said'. Prove '..Said' where nothing that the law and all that it calls make is longer than what came in: it says more and counts as full. Else prove '..UptoSaid'. A law counts once. -/
mutual
def uptoBulk {H : Type} : DataW H → Nat
  | .lit (.string bytes) => bytes.length + 1
  | .lit _ => 1
  | .nil => 1
  | .ptr d => uptoBulk d + 1
  | .slice elems spare => uptoBulkAll elems + uptoBulkAll spare + 1
  | .agg parts => uptoBulkAll parts + 1
  | .iface _ d => uptoBulk d + 1
  | .map entries => uptoBulkEntries entries + 1
  | .held _ => 1
def uptoBulkAll {H : Type} : List (DataW H) → Nat
  | [] => 0
  | d :: r => uptoBulk d + uptoBulkAll r
def uptoBulkEntries {H : Type} : List (Lit × DataW H) → Nat
  | [] => 0
  | x :: r => uptoBulkEntry x + uptoBulkEntries r
def uptoBulkEntry {H : Type} : Lit × DataW H → Nat
  | (.string bytes, d) => bytes.length + uptoBulk d + 1
  | (_, d) => uptoBulk d + 1
 end
def uptoSmall : (H : Type) → List (DataW H) → Bool := fun _ ds => decide (uptoBulkAll ds ≤ 1048576)
def OpenSpec.upto (s : _root_.Go.ChangeSpec) : _root_.Go.OpenSpec := { _root_.Go.OpenSpec.ofChange s with cond := some uptoSmall }

/-- 'packthreadlaw.MsgAsks', WHERE WHAT IT READS IS OF BULK AT MOST 1048576: true; the input reads as it did. -/
def msgAsksUptoRow : OpenClaim := { program := "ytcpbgiikfabaaaa", sum := "4edc3b20ddeb2438aa211eaf2a87ab49bc4da4c0ad4828184c85af027bbb42a6", func := "packthread/packthreadlaw.MsgAsks", spec := "msgAsks", unfollowed := true, recurses := true, apart := false, narrowed := true }
def MsgAsksUptoSaid : Prop := msgAsksUptoRow.holds Try.pinned (OpenSpec.upto msgAsksSpec)

/-- 'packthreadlaw.MsgAskeds', WHERE WHAT IT READS IS OF BULK AT MOST 1048576: true; the input reads as it did. -/
def msgAskedsUptoRow : OpenClaim := { program := "ytcpbgiikfabaaaa", sum := "4edc3b20ddeb2438aa211eaf2a87ab49bc4da4c0ad4828184c85af027bbb42a6", func := "packthread/packthreadlaw.MsgAskeds", spec := "msgAskeds", unfollowed := true, recurses := true, apart := false, narrowed := true }
def MsgAskedsUptoSaid : Prop := msgAskedsUptoRow.holds Try.pinned (OpenSpec.upto msgAskedsSpec)

/-- 'packthreadlaw.MsgAnswers', WHERE WHAT IT READS IS OF BULK AT MOST 1048576: true; the input reads as it did. -/
def msgAnswersUptoRow : OpenClaim := { program := "ytcpbgiikfabaaaa", sum := "4edc3b20ddeb2438aa211eaf2a87ab49bc4da4c0ad4828184c85af027bbb42a6", func := "packthread/packthreadlaw.MsgAnswers", spec := "msgAnswers", inPlace := ["internal/bytealg.IndexByteString", "internal/bytealg.IndexString"], unfollowed := true, recurses := true, named := ["internal/bytealg.MaxLen"], apart := false, narrowed := true }
def MsgAnswersUptoSaid : Prop := msgAnswersUptoRow.holds Try.pinned (OpenSpec.upto msgAnswersSpec)

/-- 'packthreadlaw.MsgAnswereds', WHERE WHAT IT READS IS OF BULK AT MOST 1048576: true; the input reads as it did. -/
def msgAnsweredsUptoRow : OpenClaim := { program := "ytcpbgiikfabaaaa", sum := "4edc3b20ddeb2438aa211eaf2a87ab49bc4da4c0ad4828184c85af027bbb42a6", func := "packthread/packthreadlaw.MsgAnswereds", spec := "msgAnswereds", inPlace := ["internal/bytealg.IndexByteString", "internal/bytealg.IndexString"], unfollowed := true, recurses := true, named := ["internal/bytealg.MaxLen"], apart := false, narrowed := true }
def MsgAnsweredsUptoSaid : Prop := msgAnsweredsUptoRow.holds Try.pinned (OpenSpec.upto msgAnsweredsSpec)

end Rows
end Go.Proofs.Ytcpbgiikfabaaaa
