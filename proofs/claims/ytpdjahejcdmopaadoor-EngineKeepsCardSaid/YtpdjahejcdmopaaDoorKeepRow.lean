/- EngineKeeps: for every input the law returns true and leaves its arguments as they were; the row, and its card tied to the program's text. -/
import Derived.Test.YtpdjahejcdmopaaDoorEngO
import Derived.Test.YtpdjahejcdmopaaDoorKc
import Derived.Test.YtpdjahejcdmopaaDoorCards
import Derived.Test.YtpdjahejcdmopaaDoorTie
import Derived.SevenTiedAt
namespace Go.Proofs.YtpdjahejcdmopaaDoor
open Go Go.ChangeShapes Go.WideShapes Go.RowKit
set_option linter.unusedVariables false
set_option maxRecDepth 100000 in
theorem keep_lifted (os : Os) (started : os.Started) (H : Type) (enc : TypeId × Value → H) :
    ReturnsInHanded {} Tryd.checked os 5 .any (fun w args => (Rows.engineKeepsSpec.pre enc Tryd.prog Tryd.f5 [] false w args ∧ laidMetH Tryd.prog [("errors.errorType", Rows.laid_errors_errorType)] w) ∧ sizedMet enc Tryd.prog Tryd.f5 (OpenSpec.ofChange Rows.engineKeepsSpec) false w args)
      (Rows.engineKeepsSpec.post enc Tryd.prog Tryd.f5 false true false false) := by
  refine returnsInHanded_of_change_and (C := Tryd.checked) (X := fun w _ => laidMetH Tryd.prog [("errors.errorType", Rows.laid_errors_errorType)] w) (fun _ _ _ hh h => h.of_heap hh) own started (by kernel_rfl) Tryd.func5
    (ChangeSpec.witness_at (enc := enc) (C := Tryd.checked) (os := os) (X := fun w _ => laidMetH Tryd.prog [("errors.errorType", Rows.laid_errors_errorType)] w) false (laidWorld os) #[.int .u8 0, .slice none 0 0] 8 rfl (by kernel_rfl) (by kernel_rfl) (by kernel_rfl) (by kernel_rfl) (by kernel_rfl) (laidWorld_met os _)) ?_
  intro W base args ds gs before hval0 hW _ hsz0 hL _
  have hval : ∀ (j : Nat) t v, Tryd.f5.params[j]? = some t → args[j]? = some v → Value.okWide Tryd.prog W .any base t v := hval0
  have hW' := hW
  obtain ⟨p, q, hA0, hV0, rfl, hfz, hnd⟩ := hW
  have hA : DataW.TrodAll enc Tryd.prog W 0 (fun _ => true) true Tryd.f5.params.toList args.toList ds p := hA0
  have hV : DataW.TrodVars enc Tryd.prog W (fun _ => true) [] gs q := hV0
  rw [Tryd.params5] at hA hval
  obtain ⟨v0, v1, d0, d1, p0, p1, rfl, rfl, rfl, t0, t1⟩ := trodAll_two hA
  obtain ⟨rfl, rfl⟩ : gs = [] ∧ q = [] := by
    cases gs with
    | nil => exact ⟨rfl, hV⟩
    | cons g r => exact absurd hV (by intro h; cases h)
  have hsz : (DataW.weightsEach Tryd.prog ([5, 58] ++ []) ([d0, d1] ++ [])).all (· ≤ reachBytes) = true := by
    rw [Tryd.params5] at hsz0
    exact hsz0
  obtain ⟨m0, rfl⟩ := okWide_int Tryd.underlying5 (hval 0 _ v0 rfl rfl)
  obtain ⟨most, rfl⟩ : ∃ a : UInt8, m0 = (a.toNat : Int) := by
    obtain ⟨m, hm⟩ := t0
    obtain ⟨a, ⟨h1, _⟩, _⟩ := Opens.u8 Tryd.underlying5 enc W m _ _ hm
    simp only [Value.cells, u8V, List.cons.injEq, Value.int.injEq, true_and, and_true] at h1
    exact ⟨a, h1⟩
  obtain ⟨A, l, c, rfl, hc, hcc, hr, _⟩ := open_sl (d := askK) (F := fun xs => xs.length * 48 ≤ 140737488351232 ∧ ∀ x ∈ xs, x.data.length ≤ 140737488351232) (Opens.slice Tryd.underlying58 (by kernel_rfl) (by kernel_rfl) opens_ask) Tryd.underlying58 (hval 1 _ v1 rfl rfl) t1 (weighs hsz 1 rfl rfl)
  refine (keep_calls _ most l A c W (handle_of_laid hL) hr hc hcc).mono fun e W' ⟨he, bel⟩ => ?_
  subst he
  have lt : ∀ {t v d ps}, DataW.Trod enc Tryd.prog W 0 (fun _ => true) true t v d ps → ∀ x ∈ ps, x.block < W.heap.size := fun ⟨m, hm⟩ => DataW.trod_lt m _ _ _ hm
  exact ⟨_, rfl, _, _, _, [], _, [], hW', trodAll_mk1 (shut_bool Tryd.underlying4 _),
    trodAll_cons_mk (Below.trod laidOut (by kernel_rfl) (of_decide_eq_true (by kernel_rfl)) t0 bel (lt t0)) (trodAll_cons_mk (Below.trod laidOut (by kernel_rfl) (of_decide_eq_true (by kernel_rfl)) t1 bel (lt t1)) trodAll_mk0),
    rfl, bel.frame _, fun h => by cases h⟩
theorem keep_holds : Rows.EngineKeepsSaid :=
  OpenClaim.holds_of_wide 5 Tryd.f5 rfl rfl rfl rfl rfl rfl rfl ⟨rfl, rfl, rfl, rfl, rfl⟩ rfl rfl rfl rfl rfl (by kernel_rfl) Tryd.func5 (by kernel_rfl)
    (of_decide_eq_true (by kernel_rfl)) (by unfold Func.isWrapper; rw [if_neg (of_decide_eq_false (by kernel_rfl))]; exact ⟨rfl, rfl⟩)
    (fun os started H enc _ => keep_lifted os started H enc)
theorem engineKeeps_card : Rows.EngineKeepsCardSaid :=
  Claim7.holds_tied_plain_at .later [] [.handle] true (true, "63611d5d25fe76ac880e7d024d6b853aa6888a41764509d85cc0f1b17a256a40") true
    keep_holds (fun _ h => by cases h) (by kernel_rfl) (fun _ h => by cases h) engineKeeps_row_tie rfl ⟨rfl, rfl⟩ (by kernel_rfl) rfl
    (fun f fn hf hfn => by
      obtain rfl : f = 5 := Option.some.inj ((show Tryd.prog.funcNamed "bursary/bursarylaw30.EngineKeeps" = some 5 by kernel_rfl).symm.trans hf) |>.symm
      obtain rfl : fn = Tryd.f5 := (Option.some.inj (Tryd.func5.symm.trans hfn)).symm
      exact ⟨by kernel_rfl, fun j t ht => by
        rw [Tryd.params5] at ht
        have h3 : Tryd.prog.wantsStandIn t = false := by
          rcases j with _ | _ | j
          · obtain rfl := Option.some.inj ht; kernel_rfl
          · obtain rfl := Option.some.inj ht; kernel_rfl
          · simp at ht
        exact h3⟩)
    (by kernel_rfl)
#print axioms engineKeeps_card
end Go.Proofs.YtpdjahejcdmopaaDoor
