/- What a law's row gives its walk: the variable's cell, the arguments by their kinds; a world that meets the condition. -/
import Derived.Test.YtpdjahejcdmopaaDoorRows
import Derived.Test.YtpdjahejcdmopaaDoorOpen
import Derived.ChangeSame
import Derived.ChangeVars
import Derived.JoinedOf
import Derived.RowKit
import Derived.RowKitTokens
import Derived.LaidLaws
import Derived.LaidHandle
import Derived.Stop.Joined
import Derived.Carry
namespace Go.Proofs.YtpdjahejcdmopaaDoor
open Go.ChangeShapes Go.WideShapes Go.RowKit
set_option linter.unusedVariables false
theorem own : ownKnob Tryd.prog.godebug = none := by kernel_rfl
theorem laidOut : laidOutB Tryd.prog = true := by kernel_rfl
theorem etNamed : Tryd.prog.globalNamed "errors.errorType" = some 0 := by kernel_rfl
theorem rtNamed : (Tryd.prog.cutTypes.find? (·.1 == "internal/reflectlite.rtype")).map (·.2) = some 105 := by kernel_rfl
theorem oneRow : ((List.range 147).filter fun t => Tryd.prog.rowNamed t [101, 114, 114, 111, 114]) = [36] := by kernel_rfl
theorem typesSize : Tryd.prog.types.size = 147 := by kernel_rfl
def laidL {H : Type} : List (String × DataW H) := [("errors.errorType", Rows.laid_errors_errorType)]
/-- What the condition gives a walk: the variable's one cell. -/
theorem handle_of_laid {W : World} (h : laidMetH Tryd.prog [("errors.errorType", Rows.laid_errors_errorType)] W) : EVar W := by
  have h' : laidMet Tryd.prog [] W ∧ handlesMet Tryd.prog [("errors.errorType", Rows.laid_errors_errorType)] W := h
  obtain ⟨name, u, ty, e1, e2, e3, e4, e5⟩ := h'.2 _ (List.mem_singleton.2 rfl)
  have en : name = [101, 114, 114, 111, 114] := (Option.some.inj e1).symm
  subst en
  obtain rfl := Option.some.inj (rtNamed.symm.trans e2)
  have hm : ty ∈ (List.range 147).filter fun t => Tryd.prog.rowNamed t [101, 114, 114, 111, 114] := List.mem_filter.2 ⟨List.mem_range.2 (by rw [← typesSize]; exact e3), e4⟩
  rw [oneRow] at hm
  obtain rfl := List.mem_singleton.1 hm
  have hh : typeHandle Tryd.prog 36 = .pointer (some ⟨1, 36, none⟩) := by kernel_rfl
  rw [hh] at e5
  simpa [EVar] using World.var?_cell etNamed e5 0
/-- A world that meets the condition: the settled one, the variable's cell laid. -/
noncomputable def laidWorld (os : Os) : World :=
  let w0 := World.holding Tryd.prog os ⟨#[], #[], []⟩
  { w0 with heap := w0.heap.modify 0 fun
      | .cells _ t frozen => .cells #[.iface 105 (.agg #[.pointer (some ⟨1, 36, none⟩)])] t frozen
      | o => o }
theorem laidWorld_met (os : Os) (args : Array Value) : laidMetH Tryd.prog [("errors.errorType", Rows.laid_errors_errorType)] ((laidWorld os).forCall (fun _ _ => 0) ⟨#[], args, []⟩).memory :=
  laidMetH_of_parts (laidMet_nil _ _) (by kernel_rfl)
section
variable {H : Type} {enc : TypeId × Value → H} {P : Program} {W : World} {t : TypeId} {v : Value} {dd : DataW H} {ps : List MemPlace} {r : Reach} {b0 : Nat}
theorem okAgg {fs : Array Field} (ht : P.underlying t = some (.struct fs)) (h : Value.okWide P W r b0 t v) : ∃ cs : List Value, v = .agg cs.toArray := by
  simp only [Value.okWide, ht] at h
  obtain ⟨cs, h1, _⟩ := h
  exact ⟨cs.toList, by rw [h1]⟩
theorem okArr {n : Nat} {e : TypeId} (ht : P.underlying t = some (.array n e)) (h : Value.okWide P W r b0 t v) : ∃ cs : List Value, v = .agg cs.toArray := by
  simp only [Value.okWide, ht] at h
  obtain ⟨cs, h1, _⟩ := h
  exact ⟨cs.toList, by rw [h1]⟩
theorem open_agg {α : Type} {d : Rep α} {F : α → Prop} (hO : Opens P t d F) (hv : ∃ cs : List Value, v = .agg cs.toArray) (hT : DataW.Trod enc P W 0 (fun _ => true) true t v dd ps) (hw : ∀ n ∈ dd.weights P t, n ≤ 140737488351232) :
    ∃ a cs, v = .agg (List.toArray cs) ∧ d.K (fun _ => True) W a cs ∧ F a := by
  obtain ⟨cs, rfl⟩ := hv
  obtain ⟨n, hn⟩ := hT
  obtain ⟨a, h1, h2⟩ := hO enc W n _ _ hn
  simp only [Value.cells] at h1
  exact ⟨a, cs, rfl, h1, h2 hw⟩
theorem open_sl {α : Type} {d : Rep α} {F : List α → Prop} {e : TypeId} (hO : Opens P t d.slice F) (ht : P.underlying t = some (.slice e)) (hv : Value.okWide P W r b0 t v) (hT : DataW.Trod enc P W 0 (fun _ => true) true t v dd ps) (hw : ∀ n ∈ dd.weights P t, n ≤ 140737488351232) :
    ∃ A xs c, v = .slice A (List.length xs) c ∧ xs.length ≤ c ∧ c ≤ maxCap ∧ Rd d (fun _ => True) W A xs ∧ F xs := by
  obtain ⟨a, len, cap, rfl⟩ := okWide_slice ht hv
  obtain ⟨n, hn⟩ := hT
  obtain ⟨xs, ⟨A, c, h1, h2, h3, h4⟩, h5⟩ := hO enc W n _ _ hn
  simp only [Value.cells, List.cons.injEq, Value.slice.injEq, and_true] at h1
  obtain ⟨rfl, rfl, rfl⟩ := h1
  exact ⟨_, xs, _, rfl, h2, h3, h4, h5 hw⟩
theorem weighs {ts : List TypeId} {ds : List (DataW H)} (h : (DataW.weightsEach P ts ds).all (· ≤ reachBytes) = true) (j : Nat) (ht : ts[j]? = some t) (hd : ds[j]? = some dd) : ∀ n ∈ dd.weights P t, n ≤ 140737488351232 := fun n hn => by
  have := List.all_eq_true.1 h _ (DataW.weights_mem_each ht hd n hn)
  exact of_decide_eq_true this
end
end Go.Proofs.YtpdjahejcdmopaaDoor
