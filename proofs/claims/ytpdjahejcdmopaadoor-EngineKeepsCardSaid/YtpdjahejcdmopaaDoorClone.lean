/- slices.Clone at bytes. -/
import Derived.Test.YtpdjahejcdmopaaDoorBase
namespace Go.Proofs.YtpdjahejcdmopaaDoor
set_option linter.unusedVariables false
open Go.RowKit
set_option maxHeartbeats 400000 in
/-- slices.Clone of bytes: the same bytes, in memory of the call's own. -/
theorem cloneB_calls (ok : Nat → Prop) (xs : List UInt8) (A : Option Addr) (c : Nat) (w : World) (hr : Rd u8 ok w A xs) (hc : xs.length ≤ c) (hcc : c ≤ maxCap) (hb : xs.length ≤ 140737488355328) :
    Calls Tryd.prog 30 #[.slice A xs.length c] w fun e w' => ∃ A' c', e = .returned (.slice A' xs.length c') ∧ Below w.heap.size w w' ∧ xs.length ≤ c' ∧ c' ≤ maxCap ∧ OwnB (fun k => w.heap.size ≤ k) w' (.slice A' xs.length c') xs := by
  refine calls_hide fun R HR => ?_
  have hq := fun (W : World) (a : Option Addr) (n k : Nat) => Lib.run_eql_slice_nil (P := Tryd.prog) W 26 5 a n k 0 0 Tryd.underlying26
  cases A with
  | none =>
    obtain rfl := hr.nilA
    clear hr
    go_enter Tryd.func30, Tryd.ntmps30
    go_wp2
    refine HR.out _ _ ⟨none, 0, rfl, Below.refl _ _, Nat.le_refl _, by simp [maxCap], Own.nil _ _ _ _⟩
  | some ad =>
    have HC := Lib.hid hr
    clear hr
    go_enter Tryd.func30, Tryd.ntmps30
    go_wp2_with (at_builtin; refine wpList_appB (.slice (some ⟨w.heap.size, 0, none⟩) 0 0) [] (some ad) c xs (fun k => w.heap.size ≤ k) ok _ 26 rfl _ _ rfl Tryd.underlying26 rfl rfl (by intro k hk; simp at hk; omega) (by exact ⟨by simp [bV], .inl ⟨rfl, _, rfl⟩⟩) (by exact HC.out.alloc _) (by simpa using hb) ?_; intro v' w1 hown hgrow _)
    rw [List.nil_append] at hown
    obtain ⟨A', c', rfl, h1, h2⟩ := hown.form
    refine HR.out _ _ ⟨_, _, rfl, ?_, h1, h2, hown⟩
    exact ((Below.refl _ _).alloc (Nat.le_refl _) _).grown (row := none) hgrow (by simp) (fun k hk => by cases hk)
end Go.Proofs.YtpdjahejcdmopaaDoor
