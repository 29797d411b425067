/-
  DERIVED. GIVEN WITH THE SEED: THE CARDS: each row of YtepgfnoafhlokaaDoorRows.lean that lists a variable, with what it lists TIED to the program's text (the seventh form; the later family's looks); each row that meets fmt, with fmt's text TOLD by the authors' own Lean function (tested against real Go, not proved from fmt's source: count such statements apart). THE CARD IS WHAT COUNTS. Prove the row's statement (the work); the ties are given (YtepgfnoafhlokaaDoorTie.lean); close each card by the builder's one call (the guide's Derived/Test/ToyasCard.lean, 'card_holds'). Laid BY PROGRAM, IN A SANDBOX (cutbox-door.mjs). By AI agents, Wed Nov 11 2026. No macro, syntax, notation, axiom, sorry.
-/
import Derived.Test.YtepgfnoafhlokaaDoorRows
import GoSem.ClaimSeven
namespace Go.Proofs.YtepgfnoafhlokaaDoor
namespace Rows

/-- THE TIED CARD OF 'quillkeep.Formed'. -/
def formedCard : Claim7 := { stood := { row := formedRow, standIns := [], harness := (true, "ee3903a8ec2f8361c8dcc9f1ba224415cfcec968f790329fd79e516dba5267d7"), looks := false }, kinds := [], alts := [], laidByText := true, laidKinds := [.data, .pinned], laidTests := true, laidLooks := .later }
def FormedCardSaid : Prop := Claim7.holds Tryd.pinned (.plain (OpenSpec.ofChange formedSpec)) formedCard

/-- THE SECOND FORM's CARD OF 'quillkeep.Formed'. -/
def formedUptoCard : Claim7 := { stood := { row := formedUptoRow, standIns := [], harness := (true, "ee3903a8ec2f8361c8dcc9f1ba224415cfcec968f790329fd79e516dba5267d7"), looks := false }, kinds := [], alts := [], laidByText := true, laidKinds := [.data, .pinned], laidTests := true, laidLooks := .later }
def FormedUptoCardSaid : Prop := Claim7.holds Tryd.pinned (.plain (OpenSpec.upto formedSpec)) formedUptoCard
end Rows
end Go.Proofs.YtepgfnoafhlokaaDoor
