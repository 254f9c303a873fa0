/-
  DERIVED. GIVEN WITH THE SEED: THE CARDS: each row of YtpdjahejcdmopaaDoorRows.lean that lists a variable, with what it lists TIED to the program's text (the seventh form; the later family's looks); each row that meets fmt, with fmt's text TOLD by the authors' own Lean function (tested against real Go, not proved from fmt's source: count such statements apart). THE CARD IS WHAT COUNTS. Prove the row's statement (the work); the ties are given (YtpdjahejcdmopaaDoorTie.lean); close each card by the builder's one call (the guide's Derived/Test/ToyasCard.lean, 'card_holds'). Laid BY PROGRAM, IN A SANDBOX (cutbox-door.mjs). By AI agents, Wed Nov 11 2026. No macro, syntax, notation, axiom, sorry.
-/
import Derived.Test.YtpdjahejcdmopaaDoorRows
import GoSem.ClaimSeven
namespace Go.Proofs.YtpdjahejcdmopaaDoor
namespace Rows

/-- THE TIED CARD OF 'bursarylaw30.EngineCas'. -/
def engineCasCard : Claim7 := { stood := { row := engineCasRow, standIns := [], harness := (true, "63611d5d25fe76ac880e7d024d6b853aa6888a41764509d85cc0f1b17a256a40"), looks := true }, kinds := [], alts := [], laidByText := true, laidKinds := [.handle], laidTests := true, laidLooks := .later }
def EngineCasCardSaid : Prop := Claim7.holds Tryd.pinned (.plain (OpenSpec.ofChange engineCasSpec)) engineCasCard

/-- THE TIED CARD OF 'bursarylaw30.EngineSteps'. -/
def engineStepsCard : Claim7 := { stood := { row := engineStepsRow, standIns := [], harness := (true, "63611d5d25fe76ac880e7d024d6b853aa6888a41764509d85cc0f1b17a256a40"), looks := true }, kinds := [], alts := [], laidByText := true, laidKinds := [.handle], laidTests := true, laidLooks := .later }
def EngineStepsCardSaid : Prop := Claim7.holds Tryd.pinned (.plain (OpenSpec.ofChange engineStepsSpec)) engineStepsCard

/-- THE TIED CARD OF 'bursarylaw30.EngineKeeps'. -/
def engineKeepsCard : Claim7 := { stood := { row := engineKeepsRow, standIns := [], harness := (true, "63611d5d25fe76ac880e7d024d6b853aa6888a41764509d85cc0f1b17a256a40"), looks := true }, kinds := [], alts := [], laidByText := true, laidKinds := [.handle], laidTests := true, laidLooks := .later }
def EngineKeepsCardSaid : Prop := Claim7.holds Tryd.pinned (.plain (OpenSpec.ofChange engineKeepsSpec)) engineKeepsCard

/-- THE TIED CARD OF 'bursarylaw30.EngineForms'. -/
def engineFormsCard : Claim7 := { stood := { row := engineFormsRow, standIns := [], harness := (true, "63611d5d25fe76ac880e7d024d6b853aa6888a41764509d85cc0f1b17a256a40"), looks := true }, kinds := [], alts := [], laidByText := true, laidKinds := [.handle], laidTests := true, laidLooks := .later }
def EngineFormsCardSaid : Prop := Claim7.holds Tryd.pinned (.plain (OpenSpec.ofChange engineFormsSpec)) engineFormsCard

/-- THE SECOND FORM's CARD OF 'bursarylaw30.EngineCas'. -/
def engineCasUptoCard : Claim7 := { stood := { row := engineCasUptoRow, standIns := [], harness := (true, "63611d5d25fe76ac880e7d024d6b853aa6888a41764509d85cc0f1b17a256a40"), looks := true }, kinds := [], alts := [], laidByText := true, laidKinds := [.handle], laidTests := true, laidLooks := .later }
def EngineCasUptoCardSaid : Prop := Claim7.holds Tryd.pinned (.plain (OpenSpec.upto engineCasSpec)) engineCasUptoCard

/-- THE SECOND FORM's CARD OF 'bursarylaw30.EngineSteps'. -/
def engineStepsUptoCard : Claim7 := { stood := { row := engineStepsUptoRow, standIns := [], harness := (true, "63611d5d25fe76ac880e7d024d6b853aa6888a41764509d85cc0f1b17a256a40"), looks := true }, kinds := [], alts := [], laidByText := true, laidKinds := [.handle], laidTests := true, laidLooks := .later }
def EngineStepsUptoCardSaid : Prop := Claim7.holds Tryd.pinned (.plain (OpenSpec.upto engineStepsSpec)) engineStepsUptoCard

/-- THE SECOND FORM's CARD OF 'bursarylaw30.EngineKeeps'. -/
def engineKeepsUptoCard : Claim7 := { stood := { row := engineKeepsUptoRow, standIns := [], harness := (true, "63611d5d25fe76ac880e7d024d6b853aa6888a41764509d85cc0f1b17a256a40"), looks := true }, kinds := [], alts := [], laidByText := true, laidKinds := [.handle], laidTests := true, laidLooks := .later }
def EngineKeepsUptoCardSaid : Prop := Claim7.holds Tryd.pinned (.plain (OpenSpec.upto engineKeepsSpec)) engineKeepsUptoCard

/-- THE SECOND FORM's CARD OF 'bursarylaw30.EngineForms'. -/
def engineFormsUptoCard : Claim7 := { stood := { row := engineFormsUptoRow, standIns := [], harness := (true, "63611d5d25fe76ac880e7d024d6b853aa6888a41764509d85cc0f1b17a256a40"), looks := true }, kinds := [], alts := [], laidByText := true, laidKinds := [.handle], laidTests := true, laidLooks := .later }
def EngineFormsUptoCardSaid : Prop := Claim7.holds Tryd.pinned (.plain (OpenSpec.upto engineFormsSpec)) engineFormsUptoCard
end Rows
end Go.Proofs.YtpdjahejcdmopaaDoor
