/-
  DERIVED. GIVEN WITH THE SEED: THE CARDS: each row of YtdijffojppjmfaaDoorRows.lean that lists a variable, with what it lists TIED to the program's text (the seventh form; the later family's looks); each row that meets fmt, with fmt's text TOLD by the authors' own Lean function (tested against real Go, not proved from fmt's source: count such statements apart). THE CARD IS WHAT COUNTS. Prove the row's statement (the work); the ties are given (YtdijffojppjmfaaDoorTie.lean); close each card by the builder's one call (the guide's Derived/Test/ToyasCard.lean, 'card_holds'). Laid BY PROGRAM, IN A SANDBOX (cutbox-door.mjs). By AI agents, Wed Nov 11 2026. No macro, syntax, notation, axiom, sorry.
-/
import Derived.Test.YtdijffojppjmfaaDoorRows
import GoSem.ClaimSeven
namespace Go.Proofs.YtdijffojppjmfaaDoor
namespace Rows

/-- THE TIED CARD OF 'biremelaw03.SyntaxParses'. -/
def syntaxParsesCard : Claim7 := { stood := { row := syntaxParsesRow, standIns := [], harness := (true, "8bef71aeb20779088e75c3893e472129d4a831bfa4a0d744eb3b51990f9c6f20"), looks := true }, kinds := [], alts := [], laidByText := true, laidKinds := [.widerDeep], laidTests := true, laidLooks := .later }
def SyntaxParsesCardSaid : Prop := Claim7.holds Tryd.pinned (.plain (OpenSpec.ofChange syntaxParsesSpec)) syntaxParsesCard

/-- THE TIED CARD OF 'biremelaw03.SyntaxExprs'. -/
def syntaxExprsCard : Claim7 := { stood := { row := syntaxExprsRow, standIns := [], harness := (true, "8bef71aeb20779088e75c3893e472129d4a831bfa4a0d744eb3b51990f9c6f20"), looks := true }, kinds := [], alts := [], laidByText := true, laidKinds := [.widerDeep], laidTests := true, laidLooks := .later }
def SyntaxExprsCardSaid : Prop := Claim7.holds Tryd.pinned (.plain (OpenSpec.ofChange syntaxExprsSpec)) syntaxExprsCard

/-- THE TIED CARD OF 'biremelaw03.SyntaxBrackets'. -/
def syntaxBracketsCard : Claim7 := { stood := { row := syntaxBracketsRow, standIns := [], harness := (true, "8bef71aeb20779088e75c3893e472129d4a831bfa4a0d744eb3b51990f9c6f20"), looks := true }, kinds := [], alts := [], laidByText := true, laidKinds := [.widerDeep], laidTests := true, laidLooks := .later }
def SyntaxBracketsCardSaid : Prop := Claim7.holds Tryd.pinned (.plain (OpenSpec.ofChange syntaxBracketsSpec)) syntaxBracketsCard

/-- THE TIED CARD OF 'biremelaw03.SyntaxBlanks'. -/
def syntaxBlanksCard : Claim7 := { stood := { row := syntaxBlanksRow, standIns := [], harness := (true, "8bef71aeb20779088e75c3893e472129d4a831bfa4a0d744eb3b51990f9c6f20"), looks := true }, kinds := [], alts := [], laidByText := true, laidKinds := [.widerDeep], laidTests := true, laidLooks := .later }
def SyntaxBlanksCardSaid : Prop := Claim7.holds Tryd.pinned (.plain (OpenSpec.ofChange syntaxBlanksSpec)) syntaxBlanksCard

/-- THE TIED CARD OF 'biremelaw03.SyntaxLeft'. -/
def syntaxLeftCard : Claim7 := { stood := { row := syntaxLeftRow, standIns := [], harness := (true, "8bef71aeb20779088e75c3893e472129d4a831bfa4a0d744eb3b51990f9c6f20"), looks := true }, kinds := [], alts := [], laidByText := true, laidKinds := [.widerDeep], laidTests := true, laidLooks := .later }
def SyntaxLeftCardSaid : Prop := Claim7.holds Tryd.pinned (.plain (OpenSpec.ofChange syntaxLeftSpec)) syntaxLeftCard

/-- THE TIED CARD OF 'biremelaw03.SyntaxPrefix'. -/
def syntaxPrefixCard : Claim7 := { stood := { row := syntaxPrefixRow, standIns := [], harness := (true, "8bef71aeb20779088e75c3893e472129d4a831bfa4a0d744eb3b51990f9c6f20"), looks := true }, kinds := [], alts := [], laidByText := true, laidKinds := [.widerDeep], laidTests := true, laidLooks := .later }
def SyntaxPrefixCardSaid : Prop := Claim7.holds Tryd.pinned (.plain (OpenSpec.ofChange syntaxPrefixSpec)) syntaxPrefixCard

/-- THE TIED CARD OF 'biremelaw03.SyntaxOne'. -/
def syntaxOneCard : Claim7 := { stood := { row := syntaxOneRow, standIns := [], harness := (true, "8bef71aeb20779088e75c3893e472129d4a831bfa4a0d744eb3b51990f9c6f20"), looks := true }, kinds := [], alts := [], laidByText := true, laidKinds := [.widerDeep], laidTests := true, laidLooks := .later }
def SyntaxOneCardSaid : Prop := Claim7.holds Tryd.pinned (.plain (OpenSpec.ofChange syntaxOneSpec)) syntaxOneCard

/-- THE TIED CARD OF 'biremelaw03.SyntaxTells'. -/
def syntaxTellsCard : Claim7 := { stood := { row := syntaxTellsRow, standIns := [], harness := (true, "8bef71aeb20779088e75c3893e472129d4a831bfa4a0d744eb3b51990f9c6f20"), looks := true }, kinds := [], alts := [], laidByText := true, laidKinds := [.widerDeep], laidTests := true, laidLooks := .later }
def SyntaxTellsCardSaid : Prop := Claim7.holds Tryd.pinned (.plain (OpenSpec.ofChange syntaxTellsSpec)) syntaxTellsCard

/-- THE TIED CARD OF 'biremelaw04.PrintExprs'. -/
def printExprsCard : Claim7 := { stood := { row := printExprsRow, standIns := [], harness := (true, "8bef71aeb20779088e75c3893e472129d4a831bfa4a0d744eb3b51990f9c6f20"), looks := true }, kinds := [], alts := [], laidByText := true, laidKinds := [.data, .data, .data, .mapped, .widerDeep], laidTests := true, laidLooks := .later }
def PrintExprsCardSaid : Prop := Claim7.holds Tryd.pinned (.plain (OpenSpec.ofChange printExprsSpec)) printExprsCard

/-- THE TIED CARD OF 'biremelaw04.PrintExprBack'. -/
def printExprBackCard : Claim7 := { stood := { row := printExprBackRow, standIns := [], harness := (true, "8bef71aeb20779088e75c3893e472129d4a831bfa4a0d744eb3b51990f9c6f20"), looks := true }, kinds := [], alts := [], laidByText := true, laidKinds := [.data, .data, .data, .mapped, .widerDeep], laidTests := true, laidLooks := .later }
def PrintExprBackCardSaid : Prop := Claim7.holds Tryd.pinned (.plain (OpenSpec.ofChange printExprBackSpec)) printExprBackCard

/-- THE SECOND FORM's CARD OF 'biremelaw03.SyntaxParses'. -/
def syntaxParsesUptoCard : Claim7 := { stood := { row := syntaxParsesUptoRow, standIns := [], harness := (true, "8bef71aeb20779088e75c3893e472129d4a831bfa4a0d744eb3b51990f9c6f20"), looks := true }, kinds := [], alts := [], laidByText := true, laidKinds := [.widerDeep], laidTests := true, laidLooks := .later }
def SyntaxParsesUptoCardSaid : Prop := Claim7.holds Tryd.pinned (.plain (OpenSpec.upto syntaxParsesSpec)) syntaxParsesUptoCard

/-- THE SECOND FORM's CARD OF 'biremelaw03.SyntaxExprs'. -/
def syntaxExprsUptoCard : Claim7 := { stood := { row := syntaxExprsUptoRow, standIns := [], harness := (true, "8bef71aeb20779088e75c3893e472129d4a831bfa4a0d744eb3b51990f9c6f20"), looks := true }, kinds := [], alts := [], laidByText := true, laidKinds := [.widerDeep], laidTests := true, laidLooks := .later }
def SyntaxExprsUptoCardSaid : Prop := Claim7.holds Tryd.pinned (.plain (OpenSpec.upto syntaxExprsSpec)) syntaxExprsUptoCard

/-- THE SECOND FORM's CARD OF 'biremelaw03.SyntaxBrackets'. -/
def syntaxBracketsUptoCard : Claim7 := { stood := { row := syntaxBracketsUptoRow, standIns := [], harness := (true, "8bef71aeb20779088e75c3893e472129d4a831bfa4a0d744eb3b51990f9c6f20"), looks := true }, kinds := [], alts := [], laidByText := true, laidKinds := [.widerDeep], laidTests := true, laidLooks := .later }
def SyntaxBracketsUptoCardSaid : Prop := Claim7.holds Tryd.pinned (.plain (OpenSpec.upto syntaxBracketsSpec)) syntaxBracketsUptoCard

/-- THE SECOND FORM's CARD OF 'biremelaw03.SyntaxBlanks'. -/
def syntaxBlanksUptoCard : Claim7 := { stood := { row := syntaxBlanksUptoRow, standIns := [], harness := (true, "8bef71aeb20779088e75c3893e472129d4a831bfa4a0d744eb3b51990f9c6f20"), looks := true }, kinds := [], alts := [], laidByText := true, laidKinds := [.widerDeep], laidTests := true, laidLooks := .later }
def SyntaxBlanksUptoCardSaid : Prop := Claim7.holds Tryd.pinned (.plain (OpenSpec.upto syntaxBlanksSpec)) syntaxBlanksUptoCard

/-- THE SECOND FORM's CARD OF 'biremelaw03.SyntaxLeft'. -/
def syntaxLeftUptoCard : Claim7 := { stood := { row := syntaxLeftUptoRow, standIns := [], harness := (true, "8bef71aeb20779088e75c3893e472129d4a831bfa4a0d744eb3b51990f9c6f20"), looks := true }, kinds := [], alts := [], laidByText := true, laidKinds := [.widerDeep], laidTests := true, laidLooks := .later }
def SyntaxLeftUptoCardSaid : Prop := Claim7.holds Tryd.pinned (.plain (OpenSpec.upto syntaxLeftSpec)) syntaxLeftUptoCard

/-- THE SECOND FORM's CARD OF 'biremelaw03.SyntaxPrefix'. -/
def syntaxPrefixUptoCard : Claim7 := { stood := { row := syntaxPrefixUptoRow, standIns := [], harness := (true, "8bef71aeb20779088e75c3893e472129d4a831bfa4a0d744eb3b51990f9c6f20"), looks := true }, kinds := [], alts := [], laidByText := true, laidKinds := [.widerDeep], laidTests := true, laidLooks := .later }
def SyntaxPrefixUptoCardSaid : Prop := Claim7.holds Tryd.pinned (.plain (OpenSpec.upto syntaxPrefixSpec)) syntaxPrefixUptoCard

/-- THE SECOND FORM's CARD OF 'biremelaw03.SyntaxOne'. -/
def syntaxOneUptoCard : Claim7 := { stood := { row := syntaxOneUptoRow, standIns := [], harness := (true, "8bef71aeb20779088e75c3893e472129d4a831bfa4a0d744eb3b51990f9c6f20"), looks := true }, kinds := [], alts := [], laidByText := true, laidKinds := [.widerDeep], laidTests := true, laidLooks := .later }
def SyntaxOneUptoCardSaid : Prop := Claim7.holds Tryd.pinned (.plain (OpenSpec.upto syntaxOneSpec)) syntaxOneUptoCard

/-- THE SECOND FORM's CARD OF 'biremelaw03.SyntaxTells'. -/
def syntaxTellsUptoCard : Claim7 := { stood := { row := syntaxTellsUptoRow, standIns := [], harness := (true, "8bef71aeb20779088e75c3893e472129d4a831bfa4a0d744eb3b51990f9c6f20"), looks := true }, kinds := [], alts := [], laidByText := true, laidKinds := [.widerDeep], laidTests := true, laidLooks := .later }
def SyntaxTellsUptoCardSaid : Prop := Claim7.holds Tryd.pinned (.plain (OpenSpec.upto syntaxTellsSpec)) syntaxTellsUptoCard

/-- THE SECOND FORM's CARD OF 'biremelaw04.PrintExprs'. -/
def printExprsUptoCard : Claim7 := { stood := { row := printExprsUptoRow, standIns := [], harness := (true, "8bef71aeb20779088e75c3893e472129d4a831bfa4a0d744eb3b51990f9c6f20"), looks := true }, kinds := [], alts := [], laidByText := true, laidKinds := [.data, .data, .data, .mapped, .widerDeep], laidTests := true, laidLooks := .later }
def PrintExprsUptoCardSaid : Prop := Claim7.holds Tryd.pinned (.plain (OpenSpec.upto printExprsSpec)) printExprsUptoCard

/-- THE SECOND FORM's CARD OF 'biremelaw04.PrintExprBack'. -/
def printExprBackUptoCard : Claim7 := { stood := { row := printExprBackUptoRow, standIns := [], harness := (true, "8bef71aeb20779088e75c3893e472129d4a831bfa4a0d744eb3b51990f9c6f20"), looks := true }, kinds := [], alts := [], laidByText := true, laidKinds := [.data, .data, .data, .mapped, .widerDeep], laidTests := true, laidLooks := .later }
def PrintExprBackUptoCardSaid : Prop := Claim7.holds Tryd.pinned (.plain (OpenSpec.upto printExprBackSpec)) printExprBackUptoCard
end Rows
end Go.Proofs.YtdijffojppjmfaaDoor
