/- The law's giveSecret: each version laid behind the other. -/
import Derived.Test.YtpdjahejcdmopaaDoorEngN
namespace Go.Proofs.YtpdjahejcdmopaaDoor
open Go.RowKit
set_option linter.unusedVariables false
set_option linter.unusedSimpArgs false
set_option maxRecDepth 10000 in
set_option maxHeartbeats 2000000 in
theorem give_calls (ok : Nat → Prop) (s : Sec) (A : Option Addr) (c : Nat) (w : World) (hr : Rd verK ok w A s.l) (hc : s.l.length ≤ c) (hcc : c ≤ maxCap) (hl : s.l.length * 48 ≤ 140737488355328) :
    Calls Tryd.prog 7 #[.agg #[.slice A s.l.length c, .int .u32 (s.last.toNat : Int), .int .i64 s.mx]] w fun e w' => ∃ A' c', e = .returned (secV (.slice A' s.l.length c') s) ∧ s.l.length ≤ c' ∧ c' ≤ maxCap ∧ Rd verK (fun k => w.heap.size ≤ k ∨ ok k) w' A' s.l ∧ Below w.heap.size w w' := by
  refine calls_hide fun R HR => ?_
  have HC := Lib.hid hr
  clear hr
  have hcm : c ≤ 9223372036854775807 := hcc
  go_enter Tryd.func7, Tryd.ntmps7
  go_wp2_with (fail)
  go_loopg [4] s.l.length (fun gk i wr => ∃ (k : Nat) (xs : List Ver) (A' : Option Addr) (c' : Nat), k ≤ s.l.length ∧ s.l.length ≤ k + gk ∧ i = .int .i64 k ∧ Hid (xs = s.l.take k) ∧ Below w.heap.size w wr ∧ w.heap.size + 3 ≤ wr.heap.size ∧
    wr.heap[w.heap.size]? = some (.cells #[.slice A s.l.length c, .int .u32 (s.last.toNat : Int), .int .i64 s.mx] 25 (0, 0)) ∧
    wr.heap[w.heap.size + 1]? = some (.cells #[.slice none 0 0, .int .u32 0, .int .i64 0] 32 (0, 0)) ∧
    wr.heap[w.heap.size + 1 + 1]? = some (.cells #[.slice A' xs.length c', .int .u32 (s.last.toNat : Int), .int .i64 s.mx] 32 (0, 0)) ∧
    OwnX verK (w.heap.size + 3) (fun k => ok k ∧ k < w.heap.size) wr 42 (.slice A' xs.length c') xs)
  case atStart =>
    refine ⟨0, [], none, 0, Nat.zero_le _, by omega, rfl, rfl, by repeat (first | with_reducible exact Below.refl _ _ | assumption | refine Below.alloc ?_ (by first | exact Nat.le_refl _ | omega | (simp; done) | (simp; omega)) _ | refine Below.setCell ?_ (by first | exact Nat.le_refl _ | (simp; done) | (simp; omega)) _ | refine Below.drew ?_), by simp, ?_, ?_, ?_, OwnL.nil _ _ _ _ _⟩
    · rw [heap_alloc_lt _ _ (by simp; omega), heap_alloc_lt _ _ (by simp)]; exact heap_alloc_at _ _ _ (by simp)
    · rw [heap_alloc_lt _ _ (by simp)]; exact heap_alloc_at _ _ _ (by simp)
    · exact heap_alloc_at _ _ _ (by simp)
  case round =>
    obtain ⟨k, xs, A', c', hk, hgk, rfl, HXS, hb, hsz, hb0, hb1, hb2, hown⟩ := hrel
    have HB := Lib.hid hb
    have HB0 := Lib.hid hb0
    have HB1 := Lib.hid hb1
    have HB2 := Lib.hid hb2
    have HO := Lib.hid hown
    have o0 : wr.cell? ⟨w.heap.size + 1 + 1, 0, none⟩ = some (.slice A' xs.length c') := (blk_cell hb2 0).trans rfl
    have o1 : wr.cell? ⟨w.heap.size, 0, none⟩ = some (.slice A s.l.length c) := (blk_cell hb0 0).trans rfl
    have hs1 : w.heap.size + 1 + 1 < wr.heap.size := by omega
    have hs0 : w.heap.size < wr.heap.size := by omega
    by_cases hlt : k < s.l.length
    · obtain ⟨x, hxk⟩ : ∃ x, s.l[k]? = some x := ⟨_, List.getElem?_eq_getElem hlt⟩
      obtain ⟨b, o, A1, c1, rfl, hbs, hbok, q0, q1, q2, q3, hl1, hc1, hrd, hst⟩ := HC.out.ver k x hxk
      have hbs' : b < wr.heap.size := Nat.lt_of_lt_of_le hbs hb.size
      have e0 := fun j => hb.cell (p := ⟨b, o + k * 4 + j, none⟩) hbs
      have x0 : wr.cell? ⟨b, o + k * 4, none⟩ = some (.int .u32 (x.n.toNat : Int)) := (e0 0).trans q0
      have x1 : wr.cell? ⟨b, o + k * 4 + 1, none⟩ = some (.slice A1 x.data.length c1) := (e0 1).trans q1
      have x2 : wr.cell? ⟨b, o + k * 4 + 2, none⟩ = some (.int .u64 (x.at_.toNat : Int)) := (e0 2).trans q2
      have x3 : wr.cell? ⟨b, o + k * 4 + 3, none⟩ = some (.int .i64 x.st) := (e0 3).trans q3
      have HX := Lib.hid hxk
      have HRD := Lib.hid hrd
      have HST := Lib.hid hst
      clear hb hb0 hb1 hb2 hown hxk hrd hst e0 q0 q1 q2 q3
      go_wp2_with (fail)
      refine hv_begin (fun W => W.cell? ⟨w.heap.size + 1 + 1, 0, none⟩ = some (.slice A' xs.length c') ∧ W.cell? ⟨w.heap.size, 0, none⟩ = some (.slice (some ⟨b, o, none⟩) s.l.length c) ∧ W.cell? ⟨b, o + k * 4, none⟩ = some (.int .u32 (x.n.toNat : Int)) ∧ W.cell? ⟨b, o + k * 4 + 1, none⟩ = some (.slice A1 x.data.length c1) ∧
        W.cell? ⟨b, o + k * 4 + 2, none⟩ = some (.int .u64 (x.at_.toNat : Int)) ∧ W.cell? ⟨b, o + k * 4 + 3, none⟩ = some (.int .i64 x.st)) 10 (by kernel_rfl) ?_
      have HS := And.intro (show wr.drew.cell? _ = _ from o0) (And.intro (show wr.drew.cell? _ = _ from o1) (And.intro (show wr.drew.cell? _ = _ from x0) (And.intro (show wr.drew.cell? _ = _ from x1) (And.intro (show wr.drew.cell? _ = _ from x2) (show wr.drew.cell? _ = _ from x3)))))
      refine hv_take 0 (v := ?_) (by rfl) (by kernel_rfl) (by kernel_rfl) (by kernel_rfl) (by kernel_rfl) (by intro _ _ _ h; exact h) (.inl ⟨by rfl, fun W hS => ?_⟩) HS ?_; rotate_left; (focus obtain ⟨t0, t1, t2, t3, t4, t5⟩ := hS; go_simp; rfl); (try simp only [Act.put, List.setIfInBounds_toArray, List.set_cons_zero, List.set_cons_succ])
      refine hv_take 1 (v := ?_) (by rfl) (by kernel_rfl) (by kernel_rfl) (by kernel_rfl) (by kernel_rfl) (by intro _ _ _ h; exact h) (.inl ⟨by rfl, fun W hS => ?_⟩) HS ?_; rotate_left; (focus obtain ⟨t0, t1, t2, t3, t4, t5⟩ := hS; go_simp; rfl); (try simp only [Act.put, List.setIfInBounds_toArray, List.set_cons_zero, List.set_cons_succ])
      refine hv_take 2 (v := ?_) (by rfl) (by kernel_rfl) (by kernel_rfl) (by kernel_rfl) (by kernel_rfl) (by intro _ _ _ h; exact h) (.inl ⟨by rfl, fun W hS => ?_⟩) HS ?_; rotate_left; (focus obtain ⟨t0, t1, t2, t3, t4, t5⟩ := hS; go_simp; rfl); (try simp only [Act.put, List.setIfInBounds_toArray, List.set_cons_zero, List.set_cons_succ])
      refine hv_take 3 (v := ?_) (by rfl) (by kernel_rfl) (by kernel_rfl) (by kernel_rfl) (by kernel_rfl) (by intro _ _ _ h; exact h) (.inl ⟨by rfl, fun W hS => ?_⟩) HS ?_; rotate_left; (focus obtain ⟨t0, t1, t2, t3, t4, t5⟩ := hS; go_simp; rfl); (try simp only [Act.put, List.setIfInBounds_toArray, List.set_cons_zero, List.set_cons_succ])
      refine hv_take 4 (v := ?_) (by rfl) (by kernel_rfl) (by kernel_rfl) (by kernel_rfl) (by kernel_rfl) (by intro _ _ _ h; exact h) (.inl ⟨by rfl, fun W hS => ?_⟩) HS ?_; rotate_left; (focus obtain ⟨t0, t1, t2, t3, t4, t5⟩ := hS; go_simp; rfl); (try simp only [Act.put, List.setIfInBounds_toArray, List.set_cons_zero, List.set_cons_succ])
      refine hv_take 5 (v := ?_) (by rfl) (by kernel_rfl) (by kernel_rfl) (by kernel_rfl) (by kernel_rfl) (by intro _ _ _ h; exact h) (.inl ⟨by rfl, fun W hS => ?_⟩) HS ?_; rotate_left; (focus obtain ⟨t0, t1, t2, t3, t4, t5⟩ := hS; go_simp; rfl); (try simp only [Act.put, List.setIfInBounds_toArray, List.set_cons_zero, List.set_cons_succ])
      refine hv_take 6 (v := ?_) (by rfl) (by kernel_rfl) (by kernel_rfl) (by kernel_rfl) (by kernel_rfl) (by intro _ _ _ h; exact h) (.inl ⟨by rfl, fun W hS => ?_⟩) HS ?_; rotate_left; (focus obtain ⟨t0, t1, t2, t3, t4, t5⟩ := hS; go_simp; rfl); (try simp only [Act.put, List.setIfInBounds_toArray, List.set_cons_zero, List.set_cons_succ])
      refine hv_only 7 (by kernel_rfl) (by rfl) (fun K hK => ?_)
      go_simp
      have hq : ∀ (j : Nat) (y : Value), wr.cell? ⟨b, j, none⟩ = some y → (wr.drew.alloc (.cells #[.int .u32 (x.n.toNat : Int), .slice A1 x.data.length c1, .int .u64 (x.at_.toNat : Int), .int .i64 x.st] 42)).cell? ⟨b, j, none⟩ = some y := fun j y h => (cell_of_heap (heap_alloc_lt wr.drew _ hbs')).trans h
      have hq' : ∀ (q j : Nat) (y : Value), q < wr.heap.size → wr.cell? ⟨q, j, none⟩ = some y → (wr.drew.alloc (.cells #[.int .u32 (x.n.toNat : Int), .slice A1 x.data.length c1, .int .u64 (x.at_.toNat : Int), .int .i64 x.st] 42)).cell? ⟨q, j, none⟩ = some y := fun q j y hq h => (cell_of_heap (heap_alloc_lt wr.drew _ hq)).trans h
      show K _ (wr.drew.alloc (.cells #[.int .u32 (x.n.toNat : Int), .slice A1 x.data.length c1, .int .u64 (x.at_.toNat : Int), .int .i64 x.st] 42))
      refine hK _ _ (fun _ => ⟨hq' _ _ _ hs1 o0, hq' _ _ _ hs0 o1, hq _ _ x0, hq _ _ x1, hq _ _ x2, hq _ _ x3⟩) ?_
      clear hK K HS hq hq'
      (try simp only [Act.put, List.setIfInBounds_toArray, List.set_cons_zero, List.set_cons_succ])
      refine hv_only 8 (by kernel_rfl) (by rfl) (fun K hK => ?_)
      refine step_appX verK (w.heap.size + 3) (fun k => ok k ∧ k < w.heap.size) x (.slice A' xs.length c') xs wr.drew _ 30 42 _ 48 rfl _ _ rfl Tryd.underlying30 infoVer rfl rfl _ rfl rfl (by exact hsz) ?own ?elem (by have h1 : xs.length = k := (by rw [HXS.out, List.length_take]; omega); omega) (by omega) ?_
      · obtain ⟨cs, ho, hr⟩ := HO.out
        exact ⟨cs, ho.drew, hr.drew⟩
      · refine ⟨A1, c1, rfl, hl1, hc1, ?_, HST.out⟩
        have h1 : Rd u8 (fun k => ok k ∧ k < w.heap.size) w A1 x.data := HRD.out.weak (fun k hk ho => ⟨ho, hk⟩)
        refine ((h1.belowB HB.out (Nat.le_refl _)).drew).weak (fun k _ hk => ⟨hk, fun e => ?_⟩)
        obtain ⟨_, ho, _⟩ := HO.out
        have := (ho.row _ e.symm).1
        omega
      intro A3 c3 w3 hown3 hb3 hg3 hl3 hc3
      have hsz3 : wr.heap.size ≤ w3.heap.size := hb3.size
      have hw3 : ∀ q, q < w.heap.size + 3 → w3.heap[q]? = wr.heap[q]? := fun q hq => hb3.block q hq
      have g0 := (hw3 _ (by omega)).trans HB2.out
      have g1 := (hw3 _ (by omega)).trans HB0.out
      have y0 : w3.cell? ⟨w.heap.size + 1 + 1, 0, none⟩ = some (.slice A' xs.length c') := (blk_cell g0 0).trans rfl
      have f0 : w3.frozen? ⟨w.heap.size + 1 + 1, 0, none⟩ = false := blk_frozen g0 0
      have y1 : w3.cell? ⟨w.heap.size, 0, none⟩ = some (.slice (some ⟨b, o, none⟩) s.l.length c) := (blk_cell g1 0).trans rfl
      have hx3 : ∀ j, w3.cell? ⟨b, j, none⟩ = wr.cell? ⟨b, j, none⟩ := fun j => cell_of_heap (hw3 b (by omega))
      have HS := And.intro y0 (And.intro y1 (And.intro ((hx3 _).trans x0) (And.intro ((hx3 _).trans x1) (And.intro ((hx3 _).trans x2) ((hx3 _).trans x3)))))
      have HB3 := Lib.hid hb3
      have HO3 := Lib.hid hown3
      have HW3 := Lib.hid hw3
      clear hb3 hown3 hw3 g0 g1 hg3 hx3 x0 x1 x2 x3
      refine hK _ _ (fun _ => HS) ?_
      clear hK K
      (try simp only [Act.put, List.setIfInBounds_toArray, List.set_cons_zero, List.set_cons_succ])
      refine hv_take 9 (v := ?_) (by rfl) (by kernel_rfl) (by kernel_rfl) (by kernel_rfl) (by kernel_rfl) (by intro _ _ _ h; exact h) (.inl ⟨by rfl, fun W hS => ?_⟩) HS ?_; rotate_left; (focus obtain ⟨t0, t1, t2, t3, t4, t5⟩ := hS; go_simp; rfl); (try simp only [Act.put, List.setIfInBounds_toArray, List.set_cons_zero, List.set_cons_succ])
      refine hv_only 10 (by kernel_rfl) (by rfl) (fun K hK => ?_)
      go_simp
      refine hK _ _ (fun h => absurd rfl h) ?_
      clear hK K HS
      (try simp only [Act.put, List.setIfInBounds_toArray, List.set_cons_zero, List.set_cons_succ])
      refine hv_done (by kernel_rfl) ?_
      go_wp2
      have hb3 : Below w.heap.size w (w3.setCell ⟨w.heap.size + 1 + 1, 0, none⟩ (.slice A3 (xs.length + 1) c3)) := below_set ((HB.out.drew).trans (HB3.out.mono (by omega))) (by omega) _
      go_roundg (gk - 1)
      case measure => omega
      case rel =>
        refine ⟨k + 1, xs ++ [x], A3, c3, by omega, by omega, by go_num, ?_, hb3, by rw [size_set]; omega, ?_, ?_, ?_, ?_⟩
        · show xs ++ [x] = s.l.take (k + 1)
          rw [List.take_add_one, ← HXS.out, HX.out]; rfl
        · rw [heap_set_ne _ _ _ (by simp; omega), HW3.out _ (by omega)]; exact HB0.out
        · rw [heap_set_ne _ _ _ (by simp), HW3.out _ (by omega)]; exact HB1.out
        · rw [show (xs ++ [x]).length = xs.length + 1 by simp]; exact heap_setCell_eq ((HW3.out _ (by omega)).trans HB2.out) _
        · obtain ⟨cs3, ho3, hr3⟩ := HO3.out
          refine ⟨cs3, ho3.setCell _ (by simp) _, hr3.setCell _ (by simp; omega) _⟩
    · have hkl : k = s.l.length := by omega
      have HKL := Lib.hid hkl
      have o2 : wr.cell? ⟨w.heap.size + 1 + 1, 1, none⟩ = some (.int .u32 (s.last.toNat : Int)) := (blk_cell hb2 1).trans rfl
      have o3 : wr.cell? ⟨w.heap.size + 1 + 1, 2, none⟩ = some (.int .i64 s.mx) := (blk_cell hb2 2).trans rfl
      have t5 := blk_cell hb1
      have t4 := blk_frozen hb1
      have hge : decide ((k : Int) < (s.l.length : Int)) = false := by simp; omega
      clear hb hb0 hb1 hb2 hown hkl
      go_wp2
      refine bodyPost_ret (v := secV (.slice A' xs.length c') s) (by simp [results, Tryd.results7, go_sem, t5, secV]) rfl ?_
      have hkk : xs = s.l := by rw [HXS.out, List.take_of_length_le (by omega)]
      subst hkk
      obtain ⟨_, _, e1, g1, g2, h2⟩ := HO.out.rd
      simp only [Value.slice.injEq] at e1
      obtain ⟨rfl, _, rfl⟩ := e1
      refine HR.out _ _ ⟨_, _, rfl, g1, g2, ?_, below_set (below_set (below_set HB.out (by omega) _) (by omega) _) (by omega) _⟩
      exact (((h2.setCell _ (by simp) _).setCell _ (by simp) _).setCell _ (by simp) _).weak (fun q _ hq => hq.elim (fun h => .inl (by omega)) (fun h => .inr h.1))
end Go.Proofs.YtpdjahejcdmopaaDoor
