/-
  DERIVED. GIVEN WITH THE SEED: THE CARDS: each row of YtmcoaopcmjociaaDoorRows.lean that lists a variable, with what it lists TIED to the program's text (the seventh form; the later family's looks); each row that meets fmt, with fmt's text TOLD by the authors' own Lean function (tested against real Go, not proved from fmt's source: count such statements apart). THE CARD IS WHAT COUNTS. Prove the row's statement (the work); the ties are given (YtmcoaopcmjociaaDoorTie.lean); close each card by the builder's one call (the guide's Derived/Test/ToyasCard.lean, 'card_holds'). Laid BY PROGRAM, IN A SANDBOX (cutbox-door.mjs). By AI agents, Wed Nov 11 2026. No macro, syntax, notation, axiom, sorry.
-/
import Derived.Test.YtmcoaopcmjociaaDoorRows
import GoSem.ClaimSeven
namespace Go.Proofs.YtmcoaopcmjociaaDoor
namespace Rows

/-- THE TIED CARD OF 'porterlaw16.SpotsOf'. -/
def spotsOfCard : Claim7 := { stood := { row := spotsOfRow, standIns := [], harness := (true, "c48589f1262aff101779e9639eb7a5929d28eefc5e91098e04a9d5f3b42c5ce4"), looks := true }, kinds := [], alts := [], laidByText := true, laidKinds := [.data], laidTests := true, laidLooks := .later }
def SpotsOfCardSaid : Prop := Claim7.holds Tryd.pinned (.plain (OpenSpec.ofChange spotsOfSpec)) spotsOfCard

/-- THE TIED CARD OF 'porterlaw16.SpotsTexts'. -/
def spotsTextsCard : Claim7 := { stood := { row := spotsTextsRow, standIns := [], harness := (true, "c48589f1262aff101779e9639eb7a5929d28eefc5e91098e04a9d5f3b42c5ce4"), looks := true }, kinds := [], alts := [], laidByText := true, laidKinds := [.data], laidTests := true, laidLooks := .later }
def SpotsTextsCardSaid : Prop := Claim7.holds Tryd.pinned (.plain (OpenSpec.ofChange spotsTextsSpec)) spotsTextsCard

/-- THE SECOND FORM's CARD OF 'porterlaw16.SpotsOf'. -/
def spotsOfUptoCard : Claim7 := { stood := { row := spotsOfUptoRow, standIns := [], harness := (true, "c48589f1262aff101779e9639eb7a5929d28eefc5e91098e04a9d5f3b42c5ce4"), looks := true }, kinds := [], alts := [], laidByText := true, laidKinds := [.data], laidTests := true, laidLooks := .later }
def SpotsOfUptoCardSaid : Prop := Claim7.holds Tryd.pinned (.plain (OpenSpec.upto spotsOfSpec)) spotsOfUptoCard

/-- THE SECOND FORM's CARD OF 'porterlaw16.SpotsTexts'. -/
def spotsTextsUptoCard : Claim7 := { stood := { row := spotsTextsUptoRow, standIns := [], harness := (true, "c48589f1262aff101779e9639eb7a5929d28eefc5e91098e04a9d5f3b42c5ce4"), looks := true }, kinds := [], alts := [], laidByText := true, laidKinds := [.data], laidTests := true, laidLooks := .later }
def SpotsTextsUptoCardSaid : Prop := Claim7.holds Tryd.pinned (.plain (OpenSpec.upto spotsTextsSpec)) spotsTextsUptoCard
end Rows
end Go.Proofs.YtmcoaopcmjociaaDoor
