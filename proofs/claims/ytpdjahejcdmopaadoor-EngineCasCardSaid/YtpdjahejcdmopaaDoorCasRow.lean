/- EngineCas: for every input the law returns true and leaves its arguments as they were; the row, and its card tied to the program's text. -/
import Derived.Test.YtpdjahejcdmopaaDoorEngO
import Derived.Test.YtpdjahejcdmopaaDoorCas
import Derived.Test.YtpdjahejcdmopaaDoorCards
import Derived.Test.YtpdjahejcdmopaaDoorTie
import Derived.SevenTiedAt
namespace Go.Proofs.YtpdjahejcdmopaaDoor
open Go Go.ChangeShapes Go.WideShapes Go.RowKit
set_option linter.unusedVariables false
theorem cas_walk (s : Sec) (x y : Ask) (A Ax Ay : Option Addr) (c cx cy : Nat) (w : World) (hg : EVar w)
    (hr : Rd verK (fun _ => True) w A s.l) (hc : s.l.length ≤ c) (hcc : c ≤ maxCap) (hl : s.l.length * 48 ≤ 140737488355328) (hrx : Rd u8 (fun _ => True) w Ax x.data) (hcx : x.data.length ≤ cx) (hccx : cx ≤ maxCap) (hry : Rd u8 (fun _ => True) w Ay y.data) (hcy : y.data.length ≤ cy) (hccy : cy ≤ maxCap) :
    Calls Tryd.prog 3 #[.agg #[.slice A s.l.length c, .int .u32 (s.last.toNat : Int), .int .i64 s.mx], .agg #[.slice Ax x.data.length cx, .int .i64 x.cas, .int .u32 (x.n.toNat : Int), .int .u64 (x.now.toNat : Int)], .agg #[.slice Ay y.data.length cy, .int .i64 y.cas, .int .u32 (y.n.toNat : Int), .int .u64 (y.now.toNat : Int)]] w fun e w' => e = .returned (.bool true) ∧ Below w.heap.size w w' := by
  cases h0 : s.big with
  | true => exact cas_big _ _ _ s x.data y.data A Ax Ay c cx cy _ _ _ _ _ _ w hg hr hc hcc hl hrx hcx hccx hry hcy hccy h0
  | false =>
    cases h1 : decide ((100 : Int) < (x.data.length : Int)) with
    | true => exact cas_x _ _ _ s x.data y.data A Ax Ay c cx cy _ _ _ _ _ _ w hg hr hc hcc hl hrx hcx hccx hry hcy hccy h0 h1
    | false =>
      cases h2 : decide ((100 : Int) < (y.data.length : Int)) with
      | true => exact cas_y _ _ _ s x.data y.data A Ax Ay c cx cy _ _ _ _ _ _ w hg hr hc hcc hl hrx hcx hccx hry hcy hccy h0 h1 h2
      | false =>
        cases hm : s.may with
        | false => exact cas_no _ _ _ s x.data y.data A Ax Ay c cx cy _ _ _ _ _ _ w hg hr hc hcc hl hrx hcx hccx hry hcy hccy h0 h1 h2 (by show ¬ s.may = true; rw [hm]; simp)
        | true =>
          cases h3 : decide ((2147483648 : Int) < (s.last.toNat : Int)) with
          | true => exact cas_late _ _ _ s x.data y.data A Ax Ay c cx cy _ _ _ _ _ _ w hg hr hc hcc hl hrx hcx hccx hry hcy hccy h0 h1 h2 hm h3
          | false => exact cas_yes _ _ _ s x.data y.data A Ax Ay c cx cy _ _ _ _ _ _ w hg hr hc hcc hl hrx hcx hccx hry hcy hccy h0 h1 h2 hm h3
set_option maxRecDepth 100000 in
theorem cas_lifted (os : Os) (started : os.Started) (H : Type) (enc : TypeId × Value → H) :
    ReturnsInHanded {} Tryd.checked os 3 .any (fun w args => (Rows.engineCasSpec.pre enc Tryd.prog Tryd.f3 [] false w args ∧ laidMetH Tryd.prog [("errors.errorType", Rows.laid_errors_errorType)] w) ∧ sizedMet enc Tryd.prog Tryd.f3 (OpenSpec.ofChange Rows.engineCasSpec) false w args)
      (Rows.engineCasSpec.post enc Tryd.prog Tryd.f3 false true false false) := by
  refine returnsInHanded_of_change_and (C := Tryd.checked) (X := fun w _ => laidMetH Tryd.prog [("errors.errorType", Rows.laid_errors_errorType)] w) (fun _ _ _ hh h => h.of_heap hh) own started (by kernel_rfl) Tryd.func3
    (ChangeSpec.witness_at (enc := enc) (C := Tryd.checked) (os := os) (X := fun w _ => laidMetH Tryd.prog [("errors.errorType", Rows.laid_errors_errorType)] w) false (laidWorld os) #[.agg #[.slice none 0 0, .int .u32 0, .int .i64 0], .agg #[.slice none 0 0, .int .i64 0, .int .u32 0, .int .u64 0], .agg #[.slice none 0 0, .int .i64 0, .int .u32 0, .int .u64 0]] 8 rfl (by kernel_rfl) (by kernel_rfl) (by kernel_rfl) (by kernel_rfl) (by kernel_rfl) (laidWorld_met os _)) ?_
  intro W base args ds gs before hval0 hW _ hsz0 hL _
  have hval : ∀ (j : Nat) t v, Tryd.f3.params[j]? = some t → args[j]? = some v → Value.okWide Tryd.prog W .any base t v := hval0
  have hW' := hW
  obtain ⟨p, q, hA0, hV0, rfl, hfz, hnd⟩ := hW
  have hA : DataW.TrodAll enc Tryd.prog W 0 (fun _ => true) true Tryd.f3.params.toList args.toList ds p := hA0
  have hV : DataW.TrodVars enc Tryd.prog W (fun _ => true) [] gs q := hV0
  rw [Tryd.params3] at hA hval
  obtain ⟨v0, v1, v2, d0, d1, d2, p0, p1, p2, rfl, rfl, rfl, t0, t1, t2⟩ := trodAll_three hA
  obtain ⟨rfl, rfl⟩ : gs = [] ∧ q = [] := by
    cases gs with
    | nil => exact ⟨rfl, hV⟩
    | cons g r => exact absurd hV (by intro h; cases h)
  have hsz : (DataW.weightsEach Tryd.prog ([25, 29, 29] ++ []) ([d0, d1, d2] ++ [])).all (· ≤ reachBytes) = true := by
    rw [Tryd.params3] at hsz0
    exact hsz0
  obtain ⟨s, cs, rfl, ⟨A, c, rfl, hc, hcc, hr, _⟩, hl⟩ := open_agg opens_sec (okAgg Tryd.underlying25 (hval 0 _ v0 rfl rfl)) t0 (weighs hsz 0 rfl rfl)
  obtain ⟨x, csx, rfl, ⟨Ax, cx, rfl, hcx, hccx, hrx, _⟩, _⟩ := open_agg opens_ask (okAgg Tryd.underlying29 (hval 1 _ v1 rfl rfl)) t1 (weighs hsz 1 rfl rfl)
  obtain ⟨y, csy, rfl, ⟨Ay, cy, rfl, hcy, hccy, hry, _⟩, _⟩ := open_agg opens_ask (okAgg Tryd.underlying29 (hval 2 _ v2 rfl rfl)) t2 (weighs hsz 2 rfl rfl)
  refine (cas_walk s x y A Ax Ay c cx cy W (handle_of_laid hL) hr hc hcc (by omega) hrx hcx hccx hry hcy hccy).mono fun e W' ⟨he, bel⟩ => ?_
  subst he
  have lt : ∀ {t v d ps}, DataW.Trod enc Tryd.prog W 0 (fun _ => true) true t v d ps → ∀ x ∈ ps, x.block < W.heap.size := fun ⟨m, hm⟩ => DataW.trod_lt m _ _ _ hm
  exact ⟨_, rfl, _, _, _, [], _, [], hW', trodAll_mk1 (shut_bool Tryd.underlying4 _),
    trodAll_cons_mk (Below.trod laidOut (by kernel_rfl) (of_decide_eq_true (by kernel_rfl)) t0 bel (lt t0)) (trodAll_cons_mk (Below.trod laidOut (by kernel_rfl) (of_decide_eq_true (by kernel_rfl)) t1 bel (lt t1)) (trodAll_cons_mk (Below.trod laidOut (by kernel_rfl) (of_decide_eq_true (by kernel_rfl)) t2 bel (lt t2)) trodAll_mk0)),
    rfl, bel.frame _, fun h => by cases h⟩
theorem cas_holds : Rows.EngineCasSaid :=
  OpenClaim.holds_of_wide 3 Tryd.f3 rfl rfl rfl rfl rfl rfl rfl ⟨rfl, rfl, rfl, rfl, rfl⟩ rfl rfl rfl rfl rfl (by kernel_rfl) Tryd.func3 (by kernel_rfl)
    (of_decide_eq_true (by kernel_rfl)) (by unfold Func.isWrapper; rw [if_neg (of_decide_eq_false (by kernel_rfl))]; exact ⟨rfl, rfl⟩)
    (fun os started H enc _ => cas_lifted os started H enc)
theorem engineCas_card : Rows.EngineCasCardSaid :=
  Claim7.holds_tied_plain_at .later [] [.handle] true (true, "63611d5d25fe76ac880e7d024d6b853aa6888a41764509d85cc0f1b17a256a40") true
    cas_holds (fun _ h => by cases h) (by kernel_rfl) (fun _ h => by cases h) engineCas_row_tie rfl ⟨rfl, rfl⟩ (by kernel_rfl) rfl
    (fun f fn hf hfn => by
      obtain rfl : f = 3 := Option.some.inj ((show Tryd.prog.funcNamed "bursary/bursarylaw30.EngineCas" = some 3 by kernel_rfl).symm.trans hf) |>.symm
      obtain rfl : fn = Tryd.f3 := (Option.some.inj (Tryd.func3.symm.trans hfn)).symm
      exact ⟨by kernel_rfl, fun j t ht => by
        rw [Tryd.params3] at ht
        have h3 : Tryd.prog.wantsStandIn t = false := by
          rcases j with _ | _ | _ | j
          · obtain rfl := Option.some.inj ht; kernel_rfl
          · obtain rfl := Option.some.inj ht; kernel_rfl
          · obtain rfl := Option.some.inj ht; kernel_rfl
          · simp at ht
        exact h3⟩)
    (by kernel_rfl)
#print axioms engineCas_card
end Go.Proofs.YtpdjahejcdmopaaDoor
