/-
  DERIVED. GIVEN WITH THE SEED: THE CARDS: each row of YtcddcodambeljaaDoorRows.lean that lists a variable, with what it lists TIED to the program's text (the seventh form; the later family's looks); each row that meets fmt, with fmt's text TOLD by the authors' own Lean function (tested against real Go, not proved from fmt's source: count such statements apart). THE CARD IS WHAT COUNTS. Prove the row's statement (the work); the ties are given (YtcddcodambeljaaDoorTie.lean); close each card by the builder's one call (the guide's Derived/Test/ToyasCard.lean, 'card_holds'). Laid BY PROGRAM, IN A SANDBOX (cutbox-door.mjs). By AI agents, Wed Nov 11 2026. No macro, syntax, notation, axiom, sorry.
-/
import Derived.Test.YtcddcodambeljaaDoorRows
import GoSem.ClaimSeven
namespace Go.Proofs.YtcddcodambeljaaDoor
namespace Rows

/-- THE TIED CARD OF 'graftlaw4.PressCrcs'. -/
def pressCrcsCard : Claim7 := { stood := { row := pressCrcsRow, standIns := [], harness := (true, "b09537329f8ed7f12616b83cef40cd4f9c31ef06f44fdf15da67b3072a9be966"), looks := false }, kinds := [], alts := [], laidByText := true, laidKinds := [.data], laidTests := true, laidLooks := .later }
def PressCrcsCardSaid : Prop := Claim7.holds Tryd.pinned (.plain (OpenSpec.ofChange pressCrcsSpec)) pressCrcsCard

/-- THE SECOND FORM's CARD OF 'graftlaw4.PressCrcs'. -/
def pressCrcsUptoCard : Claim7 := { stood := { row := pressCrcsUptoRow, standIns := [], harness := (true, "b09537329f8ed7f12616b83cef40cd4f9c31ef06f44fdf15da67b3072a9be966"), looks := false }, kinds := [], alts := [], laidByText := true, laidKinds := [.data], laidTests := true, laidLooks := .later }
def PressCrcsUptoCardSaid : Prop := Claim7.holds Tryd.pinned (.plain (OpenSpec.upto pressCrcsSpec)) pressCrcsUptoCard
end Rows
end Go.Proofs.YtcddcodambeljaaDoor
