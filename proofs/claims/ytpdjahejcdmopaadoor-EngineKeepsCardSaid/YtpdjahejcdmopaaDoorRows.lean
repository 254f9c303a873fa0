/-
  NARROWER THAN 'FOR EVERY INPUT', by the rows' own cells (each row's printed sentence says how): EngineCas: laid · EngineSteps: laid · EngineKeeps: laid · EngineForms: laid.
  DERIVED. THE GIVEN ROWS OF THIS SEAT. 4 by the template 'for every input the law returns true; each argument reads behind the call as it read before'; 0 by the template 'total and deterministic' (their statements: YtpdjahejcdmopaaDoorTotals.lean).
  GIVEN WITH THE SEED: the statements are not yours to turn. If you find one false, say at which input.
  Laid BY PROGRAM, IN A SANDBOX (cutbox-rows.mjs): the forced cells as the released guide's own fill.sh prints them over the translation 290475e0cf238606… (all of the seat's roots in one cut). By AI agents, Wed Nov 11 2026. No macro, syntax, notation, axiom, sorry.
-/
import Derived.Test.YtpdjahejcdmopaaDoorChecked
import GoSem.Claim
import GoSem.ClaimJoined
import GoSem.ClaimMapViews
import Derived.JoinedTies
import Derived.KernelRfl
namespace Go.Proofs.YtpdjahejcdmopaaDoor
/- THE CELL 'sum', in the pinned program and in every row, IS THE sha256 OF THE DUMP (.gsa) THAT YtpdjahejcdmopaaDoorProg.lean LOADS. Nothing in Lean hashes anything: it is a label: what it is worth is what the hold of that sum in a sandbox is worth. -/
noncomputable def Tryd.pinned : Pinned := { name := "ytpdjahejcdmopaadoor", sum := "290475e0cf238606edea3e640a8178322baa087eae07d37ba45cccc2ef64cc46", checked := Tryd.checked }
namespace Rows
def none {H : Type} : Left H := { results := [], args := [] }

/- WHAT THE LISTED PACKAGE-LEVEL VARIABLES READ AS WHEN THE CALL BEGINS. Each datum BY PROGRAM (the guide's laid-datum.mjs) off the statement by which the dump's own 'gosem.cut.vars' lays the variable. In a bare row this is a premise. The card (YtpdjahejcdmopaaDoorCards.lean) ties it to the program's text. -/
def laid_errors_errorType {H : Type} : DataW H := .iface "internal/reflectlite.rtype" (.agg [.ptr (.lit (.string [101, 114, 114, 111, 114]))])

/-- 'bursarylaw30.EngineCas': WHATEVER THE INPUT: true; the input reads as it did. -/
def engineCasSpec : ChangeSpec := { name := "engineCas", fn := fun _ => fun
  | [d1, d2, d3] => { results := [.lit (.bool true)], args := [d1, d2, d3] }
  | _ => none }
def engineCasRow : OpenClaim := { program := "ytpdjahejcdmopaadoor", sum := "290475e0cf238606edea3e640a8178322baa087eae07d37ba45cccc2ef64cc46", func := "bursary/bursarylaw30.EngineCas", spec := "engineCas", inPlace := ["internal/reflectlite.ValueOf", "(internal/reflectlite.Value).Type", "(internal/reflectlite.Value).IsNil", "internal/reflectlite.TypeOf", "(internal/reflectlite.Value).Elem", "(internal/reflectlite.Value).Set"], unfollowed := true, recurses := true, named := ["errors.errorType"], apart := false, laid := [("errors.errorType", laid_errors_errorType)] }
def EngineCasSaid : Prop := engineCasRow.holds Tryd.pinned (OpenSpec.ofChange engineCasSpec)

/-- ITS FALSE NEIGHBOUR: 'it returns false'. Refute it at one input. -/
def engineCasWrong : ChangeSpec := { name := "engineCas", fn := fun _ => fun
  | [d1, d2, d3] => { results := [.lit (.bool false)], args := [d1, d2, d3] }
  | _ => none }
def EngineCasWrongFalsely : Prop := engineCasRow.holds Tryd.pinned (OpenSpec.ofChange engineCasWrong)

/-- 'bursarylaw30.EngineSteps': WHATEVER THE INPUT: true; the input reads as it did. -/
def engineStepsSpec : ChangeSpec := { name := "engineSteps", fn := fun _ => fun
  | [d1, d2] => { results := [.lit (.bool true)], args := [d1, d2] }
  | _ => none }
def engineStepsRow : OpenClaim := { program := "ytpdjahejcdmopaadoor", sum := "290475e0cf238606edea3e640a8178322baa087eae07d37ba45cccc2ef64cc46", func := "bursary/bursarylaw30.EngineSteps", spec := "engineSteps", inPlace := ["internal/reflectlite.ValueOf", "(internal/reflectlite.Value).Type", "(internal/reflectlite.Value).IsNil", "internal/reflectlite.TypeOf", "(internal/reflectlite.Value).Elem", "(internal/reflectlite.Value).Set"], unfollowed := true, recurses := true, named := ["errors.errorType"], apart := false, laid := [("errors.errorType", laid_errors_errorType)] }
def EngineStepsSaid : Prop := engineStepsRow.holds Tryd.pinned (OpenSpec.ofChange engineStepsSpec)

/-- ITS FALSE NEIGHBOUR: 'it returns false'. Refute it at one input. -/
def engineStepsWrong : ChangeSpec := { name := "engineSteps", fn := fun _ => fun
  | [d1, d2] => { results := [.lit (.bool false)], args := [d1, d2] }
  | _ => none }
def EngineStepsWrongFalsely : Prop := engineStepsRow.holds Tryd.pinned (OpenSpec.ofChange engineStepsWrong)

/-- 'bursarylaw30.EngineKeeps': WHATEVER THE INPUT: true; the input reads as it did. -/
def engineKeepsSpec : ChangeSpec := { name := "engineKeeps", fn := fun _ => fun
  | [d1, d2] => { results := [.lit (.bool true)], args := [d1, d2] }
  | _ => none }
def engineKeepsRow : OpenClaim := { program := "ytpdjahejcdmopaadoor", sum := "290475e0cf238606edea3e640a8178322baa087eae07d37ba45cccc2ef64cc46", func := "bursary/bursarylaw30.EngineKeeps", spec := "engineKeeps", inPlace := ["internal/reflectlite.ValueOf", "(internal/reflectlite.Value).Type", "(internal/reflectlite.Value).IsNil", "internal/reflectlite.TypeOf", "(internal/reflectlite.Value).Elem", "(internal/reflectlite.Value).Set"], unfollowed := true, recurses := true, named := ["errors.errorType"], apart := false, laid := [("errors.errorType", laid_errors_errorType)] }
def EngineKeepsSaid : Prop := engineKeepsRow.holds Tryd.pinned (OpenSpec.ofChange engineKeepsSpec)

/-- ITS FALSE NEIGHBOUR: 'it returns false'. Refute it at one input. -/
def engineKeepsWrong : ChangeSpec := { name := "engineKeeps", fn := fun _ => fun
  | [d1, d2] => { results := [.lit (.bool false)], args := [d1, d2] }
  | _ => none }
def EngineKeepsWrongFalsely : Prop := engineKeepsRow.holds Tryd.pinned (OpenSpec.ofChange engineKeepsWrong)

/-- 'bursarylaw30.EngineForms': WHATEVER THE INPUT: true; the input reads as it did. -/
def engineFormsSpec : ChangeSpec := { name := "engineForms", fn := fun _ => fun
  | [d1, d2] => { results := [.lit (.bool true)], args := [d1, d2] }
  | _ => none }
def engineFormsRow : OpenClaim := { program := "ytpdjahejcdmopaadoor", sum := "290475e0cf238606edea3e640a8178322baa087eae07d37ba45cccc2ef64cc46", func := "bursary/bursarylaw30.EngineForms", spec := "engineForms", inPlace := ["internal/reflectlite.ValueOf", "(internal/reflectlite.Value).Type", "(internal/reflectlite.Value).IsNil", "internal/reflectlite.TypeOf", "(internal/reflectlite.Value).Elem", "(internal/reflectlite.Value).Set"], unfollowed := true, recurses := true, named := ["errors.errorType"], apart := false, laid := [("errors.errorType", laid_errors_errorType)] }
def EngineFormsSaid : Prop := engineFormsRow.holds Tryd.pinned (OpenSpec.ofChange engineFormsSpec)

/-- ITS FALSE NEIGHBOUR: 'it returns false'. Refute it at one input. -/
def engineFormsWrong : ChangeSpec := { name := "engineForms", fn := fun _ => fun
  | [d1, d2] => { results := [.lit (.bool false)], args := [d1, d2] }
  | _ => none }
def EngineFormsWrongFalsely : Prop := engineFormsRow.holds Tryd.pinned (OpenSpec.ofChange engineFormsWrong)

/- THE SECOND FORM. 'bulk': how many values and letters a reading holds, each counted each time it is reached (what is shared counts as often as it is met; a slice's spare places count too). A statement '..UptoSaid' is the law's where the arguments, and the package variables that the reading takes, are together of bulk at most 1048576: NARROWER than '..Said'. Prove '..Said' where nothing that the law and all that it calls make is longer than what came in: it says more and counts as full. Else prove '..UptoSaid'. A law counts once. -/
mutual
def uptoBulk {H : Type} : DataW H → Nat
  | .lit (.string bytes) => bytes.length + 1
  | .lit _ => 1
  | .nil => 1
  | .ptr d => uptoBulk d + 1
  | .slice elems spare => uptoBulkAll elems + uptoBulkAll spare + 1
  | .agg parts => uptoBulkAll parts + 1
  | .iface _ d => uptoBulk d + 1
  | .map entries => uptoBulkEntries entries + 1
  | .held _ => 1
def uptoBulkAll {H : Type} : List (DataW H) → Nat
  | [] => 0
  | d :: r => uptoBulk d + uptoBulkAll r
def uptoBulkEntries {H : Type} : List (Lit × DataW H) → Nat
  | [] => 0
  | x :: r => uptoBulkEntry x + uptoBulkEntries r
def uptoBulkEntry {H : Type} : Lit × DataW H → Nat
  | (.string bytes, d) => bytes.length + uptoBulk d + 1
  | (_, d) => uptoBulk d + 1
 end
def uptoSmall : (H : Type) → List (DataW H) → Bool := fun _ ds => decide (uptoBulkAll ds ≤ 1048576)
def OpenSpec.upto (s : _root_.Go.ChangeSpec) : _root_.Go.OpenSpec := { _root_.Go.OpenSpec.ofChange s with cond := some uptoSmall }

/-- 'bursarylaw30.EngineCas', WHERE WHAT IT READS IS OF BULK AT MOST 1048576: true; the input reads as it did. -/
def engineCasUptoRow : OpenClaim := { program := "ytpdjahejcdmopaadoor", sum := "290475e0cf238606edea3e640a8178322baa087eae07d37ba45cccc2ef64cc46", func := "bursary/bursarylaw30.EngineCas", spec := "engineCas", inPlace := ["internal/reflectlite.ValueOf", "(internal/reflectlite.Value).Type", "(internal/reflectlite.Value).IsNil", "internal/reflectlite.TypeOf", "(internal/reflectlite.Value).Elem", "(internal/reflectlite.Value).Set"], unfollowed := true, recurses := true, named := ["errors.errorType"], apart := false, laid := [("errors.errorType", laid_errors_errorType)], narrowed := true }
def EngineCasUptoSaid : Prop := engineCasUptoRow.holds Tryd.pinned (OpenSpec.upto engineCasSpec)

/-- 'bursarylaw30.EngineSteps', WHERE WHAT IT READS IS OF BULK AT MOST 1048576: true; the input reads as it did. -/
def engineStepsUptoRow : OpenClaim := { program := "ytpdjahejcdmopaadoor", sum := "290475e0cf238606edea3e640a8178322baa087eae07d37ba45cccc2ef64cc46", func := "bursary/bursarylaw30.EngineSteps", spec := "engineSteps", inPlace := ["internal/reflectlite.ValueOf", "(internal/reflectlite.Value).Type", "(internal/reflectlite.Value).IsNil", "internal/reflectlite.TypeOf", "(internal/reflectlite.Value).Elem", "(internal/reflectlite.Value).Set"], unfollowed := true, recurses := true, named := ["errors.errorType"], apart := false, laid := [("errors.errorType", laid_errors_errorType)], narrowed := true }
def EngineStepsUptoSaid : Prop := engineStepsUptoRow.holds Tryd.pinned (OpenSpec.upto engineStepsSpec)

/-- 'bursarylaw30.EngineKeeps', WHERE WHAT IT READS IS OF BULK AT MOST 1048576: true; the input reads as it did. -/
def engineKeepsUptoRow : OpenClaim := { program := "ytpdjahejcdmopaadoor", sum := "290475e0cf238606edea3e640a8178322baa087eae07d37ba45cccc2ef64cc46", func := "bursary/bursarylaw30.EngineKeeps", spec := "engineKeeps", inPlace := ["internal/reflectlite.ValueOf", "(internal/reflectlite.Value).Type", "(internal/reflectlite.Value).IsNil", "internal/reflectlite.TypeOf", "(internal/reflectlite.Value).Elem", "(internal/reflectlite.Value).Set"], unfollowed := true, recurses := true, named := ["errors.errorType"], apart := false, laid := [("errors.errorType", laid_errors_errorType)], narrowed := true }
def EngineKeepsUptoSaid : Prop := engineKeepsUptoRow.holds Tryd.pinned (OpenSpec.upto engineKeepsSpec)

/-- 'bursarylaw30.EngineForms', WHERE WHAT IT READS IS OF BULK AT MOST 1048576: true; the input reads as it did. -/
def engineFormsUptoRow : OpenClaim := { program := "ytpdjahejcdmopaadoor", sum := "290475e0cf238606edea3e640a8178322baa087eae07d37ba45cccc2ef64cc46", func := "bursary/bursarylaw30.EngineForms", spec := "engineForms", inPlace := ["internal/reflectlite.ValueOf", "(internal/reflectlite.Value).Type", "(internal/reflectlite.Value).IsNil", "internal/reflectlite.TypeOf", "(internal/reflectlite.Value).Elem", "(internal/reflectlite.Value).Set"], unfollowed := true, recurses := true, named := ["errors.errorType"], apart := false, laid := [("errors.errorType", laid_errors_errorType)], narrowed := true }
def EngineFormsUptoSaid : Prop := engineFormsUptoRow.holds Tryd.pinned (OpenSpec.upto engineFormsSpec)

end Rows
end Go.Proofs.YtpdjahejcdmopaaDoor
