/- engine.New, and the law's small functions. -/
import Derived.Test.YtpdjahejcdmopaaDoorEngT
namespace Go.Proofs.YtpdjahejcdmopaaDoor
open Go.RowKit
set_option linter.unusedVariables false
set_option linter.unusedSimpArgs false
def Sec.new (mx : Int) : Sec × Option Int := if 1 ≤ mx ∧ mx ≤ 8 then (⟨[], 0, mx⟩, none) else (Sec.zero, some 1)
theorem may_new (mx : Int) : (⟨[], 0, mx⟩ : Sec).may = decide (1 ≤ mx ∧ mx ≤ 8) := by
  have h : (⟨[], 0, mx⟩ : Sec).may = true ↔ (1 ≤ mx ∧ mx ≤ 8) := by
    rw [Sec.may_iff]
    unfold Sec.head
    simp
    omega
  by_cases hm : 1 ≤ mx ∧ mx ≤ 8
  · rw [h.2 hm]; exact (decide_eq_true hm).symm
  · rw [decide_eq_false hm]
    exact Bool.eq_false_iff.2 (fun q => hm (h.1 q))
set_option maxHeartbeats 1000000 in
theorem new_calls (mx : Int) (hmx : I64 mx) (w : World) :
    Calls Tryd.prog 20 #[.int .i64 mx] w fun e w' => SecAns w.heap.size (Sec.new mx) e w' ∧ Below w.heap.size w w' := by
  refine calls_hide fun R HR => ?_
  have HM := Lib.hid (may_new mx)
  by_cases hm : 1 ≤ mx ∧ mx ≤ 8
  · have hn : Sec.new mx = (⟨[], 0, mx⟩, none) := by unfold Sec.new; rw [if_pos hm]
    have HN := Lib.hid hn
    have HMM := Lib.hid (show (⟨[], 0, mx⟩ : Sec).may = true by rw [HM.out]; exact decide_eq_true hm)
    clear hm hn
    go_enter Tryd.func20, Tryd.ntmps20
    go_wp2_with (go_at_call 9; (refine (check_yes (fun _ => True) ⟨[], 0, mx⟩ none 0 _ HMM.out (Rd.nil _ _ _ _) (Nat.le_refl _) (by simp [maxCap])).mono ?_; rintro e w2 ⟨rfl, hb2⟩; obtain ⟨hX2, hY2⟩ := bcell hb2; have hs2 : w.heap.size + 1 + 1 ≤ w2.heap.size := (by simpa using hb2.size); have hs4 : w.heap.size + 1 < w2.heap.size := (by omega); have B2 : w2.heap[w.heap.size]? = some (.cells #[.slice none 0 0, .int .u32 0, .int .i64 0] 32) := (by rw [hb2.block _ (by simp; omega), heap_alloc_lt _ _ (by simp)]; exact heap_alloc_at _ _ _ rfl); have t5 := blk_cell B2; have t4 := blk_frozen B2; have HB2 := Lib.hid hb2; clear hb2 B2))
    refine bodyPost_ret (v := .tuple #[.agg #[.slice none 0 0, .int .u32 0, .int .i64 mx], .nilIface]) (by simp [results, Tryd.results20, go_sem, t5]) rfl (HR.out _ _ ⟨?_, by repeat (first | with_reducible exact Below.refl _ _ | refine below_set ?_ (by first | exact Nat.le_refl _ | omega) _ | refine Below.alloc ?_ (by first | exact Nat.le_refl _ | omega | (simp; done) | (simp; omega)) _ | refine Below.drew ?_ | refine Below.trans ?_ (Below.mono HB2.out (by first | exact Nat.le_refl _ | omega | (simp; done) | (simp; omega))) )⟩)
    rw [HN.out]
    exact ⟨none, 0, rfl, Nat.le_refl _, by simp [maxCap], Rd.nil _ _ _ _⟩
  · have hn : Sec.new mx = (Sec.zero, some 1) := by unfold Sec.new; rw [if_neg hm]
    have HN := Lib.hid hn
    have HMM := Lib.hid (show ¬ (⟨[], 0, mx⟩ : Sec).may = true by rw [HM.out]; exact fun q => hm (of_decide_eq_true q))
    clear hm hn
    go_enter Tryd.func20, Tryd.ntmps20
    go_wp2_with (go_at_call 9; (refine (check_no (fun _ => True) ⟨[], 0, mx⟩ none 0 _ HMM.out (Rd.nil _ _ _ _) (Nat.le_refl _) (by simp [maxCap])).mono ?_; rintro e w2 ⟨rfl, hb2⟩; obtain ⟨hX2, hY2⟩ := bcell hb2; have hs2 : w.heap.size + 1 + 1 ≤ w2.heap.size := (by simpa using hb2.size); have hs4 : w.heap.size + 1 < w2.heap.size := (by omega); have B2 : w2.heap[w.heap.size]? = some (.cells #[.slice none 0 0, .int .u32 0, .int .i64 0] 32) := (by rw [hb2.block _ (by simp; omega), heap_alloc_lt _ _ (by simp)]; exact heap_alloc_at _ _ _ rfl); have t5 := blk_cell B2; have t4 := blk_frozen B2; have HB2 := Lib.hid hb2; clear hb2 B2))
    refine bodyPost_ret (v := .tuple #[.agg #[.slice none 0 0, .int .u32 0, .int .i64 0], .iface 69 (.int .i64 1)]) (by simp [results, Tryd.results20, go_sem, t5]) rfl (HR.out _ _ ⟨?_, by repeat (first | with_reducible exact Below.refl _ _ | refine below_set ?_ (by first | exact Nat.le_refl _ | omega) _ | refine Below.alloc ?_ (by first | exact Nat.le_refl _ | omega | (simp; done) | (simp; omega)) _ | refine Below.drew ?_ | refine Below.trans ?_ (Below.mono HB2.out (by first | exact Nat.le_refl _ | omega | (simp; done) | (simp; omega))) )⟩)
    rw [HN.out]
    exact SecAns.none _ _ _
end Go.Proofs.YtpdjahejcdmopaaDoor
