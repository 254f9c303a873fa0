/- The law's bigSecret. -/
import Derived.Test.YtpdjahejcdmopaaDoorGive
namespace Go.Proofs.YtpdjahejcdmopaaDoor
open Go.RowKit
set_option linter.unusedVariables false
set_option linter.unusedSimpArgs false
def Sec.big (s : Sec) : Bool := ((s.l.take 20).any fun v => decide (400 < v.data.length)) || decide (20 < s.l.length)
set_option maxHeartbeats 1000000 in
theorem big_calls (ok : Nat → Prop) (s : Sec) (A : Option Addr) (c : Nat) (w : World) (hr : Rd verK ok w A s.l) (hc : s.l.length ≤ c) (hcc : c ≤ maxCap) :
    Calls Tryd.prog 8 #[.agg #[.slice A s.l.length c, .int .u32 (s.last.toNat : Int), .int .i64 s.mx]] w fun e w' => e = .returned (.bool s.big) ∧ Below w.heap.size w w' := by
  refine calls_hide fun R HR => ?_
  have HC := Lib.hid hr
  clear hr
  have hcm : c ≤ 9223372036854775807 := hcc
  have hlm : s.l.length ≤ 9223372036854775807 := Nat.le_trans hc hcc
  go_enter Tryd.func8, Tryd.ntmps8
  go_wp2_with (fail)
  go_loopg [3] s.l.length (fun gk i wr => ∃ (k : Nat), k ≤ s.l.length ∧ k ≤ 20 ∧ s.l.length ≤ k + gk ∧ i = .int .i64 k ∧ wr = (w.alloc (.cells #[.slice A s.l.length c, .int .u32 (s.last.toNat : Int), .int .i64 s.mx] 25)) ∧ Hid (∀ (j : Nat) v, j < k → s.l[j]? = some v → ¬ 400 < v.data.length))
  case atStart => exact ⟨0, Nat.zero_le _, by omega, by omega, rfl, rfl, fun j v h => by omega⟩
  case round =>
    obtain ⟨k, hk, hk20, hgk, rfl, rfl, HB⟩ := hrel
    by_cases hlt : k < s.l.length
    · have d0 : decide ((k : Int) < (s.l.length : Int)) = true := by simp; omega
      by_cases h20 : k < 20
      · have d1 : decide ((k : Int) < 20) = true := by simp; omega
        obtain ⟨x, hxk⟩ : ∃ x, s.l[k]? = some x := ⟨_, List.getElem?_eq_getElem hlt⟩
        obtain ⟨b, o, A1, c1, rfl, hbs, hbok, q0, q1, q2, q3, hl1, hc1, hrd, hst⟩ := HC.out.ver k x hxk
        have hbs2 : b < w.heap.size + 1 := by omega
        have hbs3 : b ≠ w.heap.size := by omega
        have HX := Lib.hid hxk
        clear hxk hrd hst
        by_cases hbig : 400 < x.data.length
        · have d2 : decide ((400 : Int) < (x.data.length : Int)) = true := by simp; omega
          go_wp2
          have hb : true = s.big := by
            unfold Sec.big
            have : ((s.l.take 20).any fun v => decide (400 < v.data.length)) = true := by
              rw [List.any_eq_true]
              refine ⟨x, List.mem_of_getElem? (i := k) ?_, by simpa using hbig⟩
              rw [List.getElem?_take, if_pos h20]; exact HX.out
            rw [this]; rfl
          exact HR.out _ _ ⟨congrArg (fun b => Ending.returned (.bool b)) hb, by repeat (first | with_reducible exact Below.refl _ _ | assumption | refine Below.alloc ?_ (by first | exact Nat.le_refl _ | omega | (simp; done) | (simp; omega)) _ | refine Below.setCell ?_ (by first | exact Nat.le_refl _ | (simp; done) | (simp; omega)) _ | refine Below.drew ?_)⟩
        · have d2 : decide ((400 : Int) < (x.data.length : Int)) = false := by simp; omega
          go_wp2
          go_roundg (gk - 1)
          case measure => omega
          case rel =>
            refine ⟨k + 1, by omega, by omega, by omega, by go_num, rfl, fun j v hj hv => ?_⟩
            by_cases hjk : j = k
            · subst hjk
              have := Option.some.inj (hv.symm.trans HX.out)
              subst this
              exact hbig
            · exact HB.out j v (by omega) hv
      · have d1 : decide ((k : Int) < 20) = false := by simp; omega
        go_wp2
        have hb : decide ((20 : Int) < (s.l.length : Int)) = s.big := by
          unfold Sec.big
          have : ((s.l.take 20).any fun v => decide (400 < v.data.length)) = false := by
            rw [List.any_eq_false]
            intro v hv
            obtain ⟨j, hj⟩ := List.getElem?_of_mem hv
            rw [List.getElem?_take] at hj
            split at hj
            · simpa using HB.out j v (by omega) hj
            · cases hj
          rw [this, Bool.false_or]
          rw [decide_eq_decide]; omega
        exact HR.out _ _ ⟨congrArg (fun b => Ending.returned (.bool b)) hb, by repeat (first | with_reducible exact Below.refl _ _ | assumption | refine Below.alloc ?_ (by first | exact Nat.le_refl _ | omega | (simp; done) | (simp; omega)) _ | refine Below.setCell ?_ (by first | exact Nat.le_refl _ | (simp; done) | (simp; omega)) _ | refine Below.drew ?_)⟩
    · have d0 : decide ((k : Int) < (s.l.length : Int)) = false := by simp; omega
      go_wp2
      have hb : decide ((20 : Int) < (s.l.length : Int)) = s.big := by
        unfold Sec.big
        have : ((s.l.take 20).any fun v => decide (400 < v.data.length)) = false := by
          rw [List.any_eq_false]
          intro v hv
          obtain ⟨j, hj⟩ := List.getElem?_of_mem hv
          rw [List.getElem?_take] at hj
          split at hj
          · simpa using HB.out j v (by have := lt_of_getElem? hj; omega) hj
          · cases hj
        rw [this, Bool.false_or]
        rw [decide_eq_decide]; omega
      exact HR.out _ _ ⟨congrArg (fun b => Ending.returned (.bool b)) hb, by repeat (first | with_reducible exact Below.refl _ _ | assumption | refine Below.alloc ?_ (by first | exact Nat.le_refl _ | omega | (simp; done) | (simp; omega)) _ | refine Below.setCell ?_ (by first | exact Nat.le_refl _ | (simp; done) | (simp; omega)) _ | refine Below.drew ?_)⟩
end Go.Proofs.YtpdjahejcdmopaaDoor
