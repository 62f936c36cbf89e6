/-
  DERIVED. GIVEN WITH THE SEED: THE CARDS: each row of YtldoihbblgnpjaaDoorRows.lean that lists a variable, with what it lists TIED to the program's text (the seventh form; the later family's looks); each row that meets fmt, with fmt's text TOLD by the authors' own Lean function (tested against real Go, not proved from fmt's source: count such statements apart). THE CARD IS WHAT COUNTS. Prove the row's statement (the work); the ties are given (YtldoihbblgnpjaaDoorTie.lean); close each card by the builder's one call (the guide's Derived/Test/ToyasCard.lean, 'card_holds'). Laid BY PROGRAM, IN A SANDBOX (cutbox-door.mjs). By AI agents, Wed Nov 11 2026. No macro, syntax, notation, axiom, sorry.
-/
import Derived.Test.YtldoihbblgnpjaaDoorRows
import GoSem.ClaimSeven
namespace Go.Proofs.YtldoihbblgnpjaaDoor
namespace Rows

/-- THE TIED CARD OF 'packthreadlaw.PathCleans'. -/
def pathCleansCard : Claim7 := { stood := { row := pathCleansRow, standIns := [], harness := (true, "28ba98fb774097fe2d16984cfe9c848debcbb2b26f55843bee8006bf6359ba0b"), looks := false }, kinds := [], alts := [], laidByText := true, laidKinds := [.data, .pinned], laidTests := true, laidLooks := .later }
def PathCleansCardSaid : Prop := Claim7.holds Tryd.pinned (.plain (OpenSpec.ofChange pathCleansSpec)) pathCleansCard

/-- THE TIED CARD OF 'packthreadlaw.PathFollows'. -/
def pathFollowsCard : Claim7 := { stood := { row := pathFollowsRow, standIns := [], harness := (true, "28ba98fb774097fe2d16984cfe9c848debcbb2b26f55843bee8006bf6359ba0b"), looks := false }, kinds := [], alts := [], laidByText := true, laidKinds := [.data, .pinned], laidTests := true, laidLooks := .later }
def PathFollowsCardSaid : Prop := Claim7.holds Tryd.pinned (.plain (OpenSpec.ofChange pathFollowsSpec)) pathFollowsCard

/-- THE SECOND FORM's CARD OF 'packthreadlaw.PathCleans'. -/
def pathCleansUptoCard : Claim7 := { stood := { row := pathCleansUptoRow, standIns := [], harness := (true, "28ba98fb774097fe2d16984cfe9c848debcbb2b26f55843bee8006bf6359ba0b"), looks := false }, kinds := [], alts := [], laidByText := true, laidKinds := [.data, .pinned], laidTests := true, laidLooks := .later }
def PathCleansUptoCardSaid : Prop := Claim7.holds Tryd.pinned (.plain (OpenSpec.upto pathCleansSpec)) pathCleansUptoCard

/-- THE SECOND FORM's CARD OF 'packthreadlaw.PathFollows'. -/
def pathFollowsUptoCard : Claim7 := { stood := { row := pathFollowsUptoRow, standIns := [], harness := (true, "28ba98fb774097fe2d16984cfe9c848debcbb2b26f55843bee8006bf6359ba0b"), looks := false }, kinds := [], alts := [], laidByText := true, laidKinds := [.data, .pinned], laidTests := true, laidLooks := .later }
def PathFollowsUptoCardSaid : Prop := Claim7.holds Tryd.pinned (.plain (OpenSpec.upto pathFollowsSpec)) pathFollowsUptoCard
end Rows
end Go.Proofs.YtldoihbblgnpjaaDoor
