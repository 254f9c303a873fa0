/- engine.New, engine.copied. -/
import Derived.Test.YtpdjahejcdmopaaDoorEng
import Derived.Test.YtpdjahejcdmopaaDoorClone
namespace Go.Proofs.YtpdjahejcdmopaaDoor
open Go.RowKit
set_option linter.unusedVariables false
theorem infoVer : (Tryd.prog.info? 42).map (fun i => (i.zero, i.size, i.bytes)) = some (some (.agg #[.int .u32 0, .slice none 0 0, .int .u64 0, .int .i64 0]), 4, 48) := by kernel_rfl
theorem heap_alloc_at (w : World) (o : Obj) (k : Nat) (h : k = w.heap.size) : (w.alloc o).heap[k]? = some o := by subst h; exact heap_alloc_new w o
def secV (v : Value) (s : Sec) : Value := .agg #[v, .int .u32 (s.last.toNat : Int), .int .i64 s.mx]
/-- A secret of the call's own. -/
def OwnS (B : Nat) (w : World) (v : Value) (l : List Ver) : Prop := OwnX verK B (fun k => B ≤ k) w 42 v l
set_option maxHeartbeats 1000000 in
theorem copied_calls (ok : Nat → Prop) (s : Sec) (A : Option Addr) (c : Nat) (w : World) (hr : Rd verK ok w A s.l) (hc : s.l.length ≤ c) (hcc : c ≤ maxCap) (hn : s.l.length ≤ 1000) (hd : ∀ v ∈ s.l, v.data.length ≤ 1000) :
    Calls Tryd.prog 29 #[.agg #[.slice A s.l.length c, .int .u32 (s.last.toNat : Int), .int .i64 s.mx]] w fun e w' => ∃ A' c', e = .returned (secV (.slice A' s.l.length c') s) ∧ Below w.heap.size w w' ∧ s.l.length ≤ c' ∧ c' ≤ maxCap ∧ OwnS w.heap.size w' (.slice A' s.l.length c') s.l := by
  refine calls_hide fun R HR => ?_
  have HC := Lib.hid hr
  have HD := Lib.hid hd
  clear hr hd
  have hlen : s.l.length ≤ 9223372036854775807 := Nat.le_trans hc hcc
  go_enter Tryd.func29, Tryd.ntmps29
  go_wp2_with (fail)
  go_loopg [14] s.l.length (fun gk i wr => ∃ (k : Nat) (xs : List Ver) (A' : Option Addr) (c' : Nat), k ≤ s.l.length ∧ s.l.length ≤ k + gk ∧ i = .int .i64 k ∧ Hid (xs = s.l.take k) ∧ Below w.heap.size w wr ∧ w.heap.size + 3 ≤ wr.heap.size ∧
    wr.heap[w.heap.size + 1]? = some (.cells #[.slice none 0 0, .int .u32 0, .int .i64 0] 32 (0, 0)) ∧
    wr.heap[w.heap.size + 1 + 1]? = some (.cells #[.slice A' xs.length c', .int .u32 (s.last.toNat : Int), .int .i64 s.mx] 32 (0, 0)) ∧
    OwnS (w.heap.size + 3) wr (.slice A' xs.length c') xs)
  case atStart =>
    refine ⟨0, [], none, 0, Nat.zero_le _, by omega, rfl, rfl, by repeat (first | with_reducible exact Below.refl _ _ | assumption | refine Below.alloc ?_ (by first | exact Nat.le_refl _ | omega | (simp; done) | (simp; omega)) _ | refine Below.setCell ?_ (by first | exact Nat.le_refl _ | (simp; done) | (simp; omega)) _ | refine Below.drew ?_), by simp, ?_, ?_, OwnL.nil _ _ _ _ _⟩
    · rw [heap_alloc_lt _ _ (by simp)]; exact heap_alloc_at _ _ _ (by simp)
    · exact heap_alloc_at _ _ _ (by simp)
  case round =>
    obtain ⟨k, xs, A', c', hk, hgk, rfl, HXS, hb, hsz, hb1, hb2, hown⟩ := hrel
    have HB := Lib.hid hb
    have HB1 := Lib.hid hb1
    have HB2 := Lib.hid hb2
    have HO := Lib.hid hown
    obtain ⟨hX, hY⟩ := bcell hb
    have o0 : wr.cell? ⟨w.heap.size + 1 + 1, 0, none⟩ = some (.slice A' xs.length c') := (blk_cell hb2 0).trans rfl
    have f0 : wr.frozen? ⟨w.heap.size + 1 + 1, 0, none⟩ = false := blk_frozen hb2 0
    have hs1 : w.heap.size + 1 + 1 < wr.heap.size := by omega
    by_cases hlt : k < s.l.length
    · obtain ⟨x, hxk⟩ : ∃ x, s.l[k]? = some x := ⟨_, List.getElem?_eq_getElem hlt⟩
      obtain ⟨b, o, A1, c1, rfl, hbs, _, q0, q1, q2, q3, hl1, hc1, hrd, hst⟩ := HC.out.ver k x hxk
      have HX := Lib.hid hxk
      have HRD := Lib.hid hrd
      have hxd := HD.out x (List.mem_of_getElem? hxk)
      clear hb hb1 hb2 hown hxk hrd
      have hs2 : w.heap.size + 1 + 1 < wr.heap.size + 1 := by omega
      have hs3 : w.heap.size + 1 + 1 ≠ wr.heap.size := by omega
      have hs4 : wr.heap.size ≠ w.heap.size + 1 + 1 := by omega
      go_wp2_with (first | (go_at_call 30; (refine (cloneB_calls ok x.data _ _ _ (by exact ((HRD.out.belowB HB.out (Nat.le_refl _)).alloc _)) hl1 hc1 (by omega)).mono ?_; rintro e w2 ⟨A2, c2, rfl, hb2, hl2, hc2, hown2⟩; obtain ⟨hX2, hY2⟩ := bcell hb2; have hs5 : wr.heap.size + 1 ≤ w2.heap.size := (by simpa using hb2.size); have HBc := Lib.hid hb2; have HOc := Lib.hid hown2; clear hb2 hown2)) | (at_builtin; (refine wpList_appX verK (w.heap.size + 3) (fun k => w.heap.size + 3 ≤ k) x (.slice A' xs.length c') xs _ _ 30 42 _ 48 rfl _ _ rfl Tryd.underlying30 infoVer rfl rfl _ rfl (by rw [size_set]) (by rw [size_set]; omega) ?own ?elem (by have h1 : xs.length ≤ 1000 := (by rw [HXS.out, List.length_take]; omega); omega) (by omega) ?_; rotate_left 2; intro A3 c3 w3 hown3 hb3 _ hl3 hc3; obtain ⟨hX3, hY3⟩ := bcell hb3; have HO3 := Lib.hid hown3; have HB3 := Lib.hid hb3; clear hown3 hb3)))
      · have hb3 : Below w.heap.size w w3 := (((HB.out.alloc (by omega) _).trans (HBc.out.mono (by simp; omega))).trans (below_set (Below.refl _ _) (by omega) _)).trans (HB3.out.mono (by omega))
        have hlen3 : w.heap.size + 3 ≤ w3.heap.size := by have := HB3.out.size; rw [size_set] at this; omega
        have hw3 : ∀ b, b < w.heap.size + 3 → w3.heap[b]? = wr.heap[b]? := fun b hb => (HB3.out.block b hb).trans ((heap_set_ne _ _ _ (by simp; omega)).trans ((HBc.out.block b (by simp; omega)).trans (heap_alloc_lt _ _ (by omega))))
        go_roundg (gk - 1)
        case measure => omega
        case rel =>
          refine ⟨k + 1, xs ++ [x], A3, c3, by omega, by omega, by go_num, ?_, below_set hb3 (by omega) _, by rw [size_set]; omega, ?_, ?_, ?_⟩
          · show xs ++ [x] = s.l.take (k + 1)
            rw [List.take_add_one, ← HXS.out, HX.out]; rfl
          · rw [heap_set_ne _ _ _ (by simp), hw3 _ (by omega)]; exact HB1.out
          · rw [show (xs ++ [x]).length = xs.length + 1 by simp]; exact heap_setCell_eq ((hw3 _ (by omega)).trans HB2.out) _
          · obtain ⟨cs3, ho3, hr3⟩ := HO3.out
            refine ⟨cs3, ho3.setCell _ (by simp) _, hr3.setCell _ (by simp; omega) _⟩
      · refine HO.out.below (C := wr.heap.size) ?_ (Nat.le_refl _)
        exact below_set (((Below.refl _ _).alloc (Nat.le_refl _) _).trans (HBc.out.mono (by simp))) (Nat.le_refl _) _
      · refine ⟨A2, c2, rfl, hl2, hc2, ?_, hst⟩
        obtain ⟨_, _, e1, _, _, hrd2⟩ := HOc.out.rd
        cases e1
        refine (hrd2.setCell _ (by simp) _).weak (fun q _ hq => ?_)
        have hq' : wr.heap.size + 1 ≤ q := by simpa using hq
        refine ⟨by omega, fun e => ?_⟩
        have := (HO.out.choose_spec.1.row _ e.symm).2
        omega
    · have o1 : wr.cell? ⟨w.heap.size + 1 + 1, 1, none⟩ = some (.int .u32 (s.last.toNat : Int)) := (blk_cell hb2 1).trans rfl
      have o2 : wr.cell? ⟨w.heap.size + 1 + 1, 2, none⟩ = some (.int .i64 s.mx) := (blk_cell hb2 2).trans rfl
      have p0 : wr.cell? ⟨w.heap.size + 1, 0, none⟩ = some (.slice none 0 0) := (blk_cell hb1 0).trans rfl
      have p1 : wr.cell? ⟨w.heap.size + 1, 1, none⟩ = some (.int .u32 0) := (blk_cell hb1 1).trans rfl
      have p2 : wr.cell? ⟨w.heap.size + 1, 2, none⟩ = some (.int .i64 0) := (blk_cell hb1 2).trans rfl
      have r0 := blk_frozen hb1 0
      have r1 := blk_frozen hb1 1
      have r2 := blk_frozen hb1 2
      clear hb hb1 hb2 hown
      go_wp2
      refine bodyPost_ret (v := secV (.slice A' xs.length c') s) (by simp [results, Tryd.results29, go_sem, p0, p1, p2, secV]) rfl ?_
      have hkk : xs = s.l := by rw [HXS.out, List.take_of_length_le (by omega)]
      subst hkk
      refine HR.out _ _ ⟨A', c', rfl, below_set (below_set (below_set HB.out (by omega) _) (by omega) _) (by omega) _, ?_⟩
      obtain ⟨_, _, e1, g1, g2, _⟩ := HO.out.rd
      cases e1
      refine ⟨g1, g2, ?_⟩
      obtain ⟨cs3, ho3, hr3⟩ := HO.out
      refine ⟨cs3, (((ho3.setCell _ (by simp) _).setCell _ (by simp) _).setCell _ (by simp) _).weak (fun q _ hq => by omega), (((hr3.setCell _ (by simp) _).setCell _ (by simp) _).setCell _ (by simp) _).weak (fun q _ hq => ⟨by omega, hq.2⟩)⟩
end Go.Proofs.YtpdjahejcdmopaaDoor
