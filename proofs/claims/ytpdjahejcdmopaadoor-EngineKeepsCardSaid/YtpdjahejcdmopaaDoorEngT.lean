/- engine.set at what is destroyed, and Delete, Undelete, Destroy. -/
import Derived.Test.YtpdjahejcdmopaaDoorEngS
namespace Go.Proofs.YtpdjahejcdmopaaDoor
open Go.RowKit
set_option linter.unusedVariables false
set_option linter.unusedSimpArgs false
set_option maxRecDepth 10000 in
set_option maxHeartbeats 2000000 in
theorem set_dead (ok : Nat → Prop) (s : Sec) (n : UInt32) (A : Option Addr) (c : Nat) (w : World) (hr : Rd verK ok w A s.l) (hc : s.l.length ≤ c) (hcc : c ≤ maxCap) (hm : s.may = true) (i : Nat) (v : Ver) (hf : s.find n.toNat = (i, none)) (hv : s.l[i]? = some v) (b0 : Bool) (s0 : (v.st == 2) = b0) :
    Calls Tryd.prog 35 #[.agg #[.slice A s.l.length c, .int .u32 (s.last.toNat : Int), .int .i64 s.mx], .int .u32 (n.toNat : Int), .int .i64 2] w fun e w' => SecAns w.heap.size (s.setSt n.toNat 2) e w' ∧ Below w.heap.size w w' := by
  refine calls_hide fun R HR => ?_
  have hg : s.setSt n.toNat 2 = (⟨s.l.set i ⟨v.n, [], v.at_, 2⟩, s.last, s.mx⟩, none) := by unfold Sec.setSt; rw [hf]; simp only [hv]; rw [if_neg (fun h => h.2 rfl)]; simp
  cases b0
  all_goals
    have HC := Lib.hid (fun (W : World) (hb : Below w.heap.size w W) => hr.below hb)
    obtain ⟨b, o, A1, c1, rfl, hbs, _, q0, q1, q2, q3, hl1, hc1, hrd, _⟩ := hr.ver i v hv
    have hil : i < s.l.length := lt_of_getElem? hv
    have HG := Lib.hid hg
    have HF := Lib.hid hf
    have HV := Lib.hid hv
    have hh := (Sec.may_iff s).1 hm
    have hl8 : s.l.length ≤ 8 := by have := of_decide_eq_true hh.1; omega
    have hds : ∀ v ∈ s.l, v.data.length ≤ 1000 := by
      intro v hv
      obtain ⟨i, hi⟩ := List.getElem?_of_mem hv
      have := of_decide_eq_true (hh.2 i v hi).1
      omega
    have HDS := Lib.hid hds
    clear hf hv hg hr hrd hds hh hm
    go_enter Tryd.func35, Tryd.ntmps35
    go_wp2_with (first | (go_at_call 32; (refine (find_ok ok s n (some ⟨b, o, none⟩) c _ (HC.out _ (by repeat (first | with_reducible exact Below.refl _ _ | assumption | refine Below.alloc ?_ (by first | exact Nat.le_refl _ | omega | (simp; done) | (simp; omega)) _ | refine Below.setCell ?_ (by first | exact Nat.le_refl _ | (simp; done) | (simp; omega)) _ | refine Below.drew ?_))) hc hcc i HF.out).mono ?_; rintro e w2 ⟨rfl, hb2⟩; obtain ⟨hX2, hY2⟩ := bcell hb2; have hs2 : w.heap.size + 1 + 1 ≤ w2.heap.size := (by simpa using hb2.size); have hs3 : b < w.heap.size + 1 + 1 := (by omega); have hs4 : w.heap.size + 1 < w2.heap.size := (by omega); have HB2 := Lib.hid hb2; clear hb2)) | (go_at_call 29; (refine (copied_calls ok s (some ⟨b, o, none⟩) c _ (HC.out _ (by repeat (first | with_reducible exact Below.refl _ _ | refine below_set ?_ (by first | exact Nat.le_refl _ | omega) _ | refine Below.alloc ?_ (by first | exact Nat.le_refl _ | omega | (simp; done) | (simp; omega)) _ | refine Below.drew ?_ | refine Below.trans ?_ (Below.mono HB2.out (by first | exact Nat.le_refl _ | omega | (simp; done) | (simp; omega))) ))) hc hcc (by omega) HDS.out).mono ?_; rintro e w3 ⟨A3, c3, rfl, hb3, hl3, hc3, hown3⟩; unfold secV; obtain ⟨hX3, hY3⟩ := bcell hb3; have hs3' : w2.heap.size ≤ w3.heap.size := hb3.size; obtain ⟨b3, A4, c4, rfl, hbs3, hbk3, r0, r1, r2, r3, r4, r5⟩ := hown3.ver i v HV.out; have HB3 := Lib.hid hb3; have HO3 := Lib.hid hown3; have hne : b3 ≠ w3.heap.size := (by omega); have hne' : w3.heap.size ≠ b3 := (by omega); have hne2 : b3 ≠ w.heap.size + 1 := (by omega); have hne3 : w.heap.size + 1 ≠ b3 := (by omega); have hlt9 : w.heap.size + 1 < w3.heap.size := (by omega); clear hb3 hown3)))
    refine bodyPost_ret (v := .tuple #[.agg #[.slice (some ⟨b3, 0, none⟩) s.l.length c3, .int .u32 (s.last.toNat : Int), .int .i64 s.mx], .nilIface]) (by simp [results, Tryd.results35, go_sem, hX3, hX2, hs4, hne, hne', hne2, hne3, hlt9]) rfl (HR.out _ _ ⟨?_, ?_⟩)
    rotate_left
    · refine Below.alloc (below_set (below_set (below_set (below_set (below_set ?_ (by omega) _) (by omega) _) (by omega) _) (by omega) _) (by omega) _) (by simp; omega) _
      refine Below.trans ?_ (HB3.out.mono (by omega))
      refine Below.trans ?_ (HB2.out.mono (by simp; omega))
      exact ((Below.refl _ _).alloc (Nat.le_refl _) _).alloc (by simp) _
    rw [HG.out]
    have h0 := HO3.out.set1 rfl (by omega) i 3 v ⟨v.n, v.data, v.at_, 2⟩ HV.out (by decide) (.int .i64 2) (fun okk cs hk => by
      obtain ⟨A9, c9, rfl, k1, k2, k3, k4⟩ := hk
      exact ⟨A9, c9, rfl, k1, k2, k3, by simp [I64]⟩)
    have h1 := h0.set1 (by simp) (by omega) i 1 ⟨v.n, v.data, v.at_, 2⟩ ⟨v.n, [], v.at_, 2⟩ (by simp [hil]) (by decide) (.slice none 0 0) (fun okk cs hk => by
      obtain ⟨A9, c9, rfl, k1, k2, k3, k4⟩ := hk
      exact ⟨none, 0, rfl, Nat.le_refl _, by simp [maxCap], Rd.nil _ _ _ _, by simp [I64]⟩)
    rw [List.set_set] at h1
    obtain ⟨_, _, e1, _, _, h2⟩ := h1.rd
    simp only [Value.slice.injEq] at e1
    obtain ⟨rfl, hn, rfl⟩ := e1
    refine ⟨some ⟨b3, 0, none⟩, c3, by simp only [errV, hn], by simp; omega, hc3, ?_⟩
    exact ((((h2.setCell _ (by simp; omega) _).setCell _ (by simp; omega) _).setCell _ (by simp; omega) _).alloc _).weak (fun k _ hk => by omega)
theorem set_calls (ok : Nat → Prop) (s : Sec) (n : UInt32) (st : Int) (A : Option Addr) (c : Nat) (w : World) (hr : Rd verK ok w A s.l) (hc : s.l.length ≤ c) (hcc : c ≤ maxCap) (hst : I64 st) :
    Calls Tryd.prog 35 #[.agg #[.slice A s.l.length c, .int .u32 (s.last.toNat : Int), .int .i64 s.mx], .int .u32 (n.toNat : Int), .int .i64 st] w fun e w' => SecAns w.heap.size (s.setSt n.toNat st) e w' ∧ Below w.heap.size w w' := by
  rcases s.find_spec n.toNat with ⟨e0, hf⟩ | ⟨i, v, hf, hv, hm⟩
  · exact set_no ok s n st A c w hr hc hcc hst e0 hf
  · by_cases hs : st = 2
    · subst hs
      exact set_dead ok s n A c w hr hc hcc hm i v hf hv _ rfl
    · by_cases h2 : v.st = 2
      · exact set_gone ok s n st A c w hr hc hcc hst i v hf hv h2 hs
      · exact set_live ok s n st A c w hr hc hcc hst hm i v hf hv h2 hs
theorem delv_calls (ok : Nat → Prop) (s : Sec) (n : UInt32) (A : Option Addr) (c : Nat) (w : World) (hr : Rd verK ok w A s.l) (hc : s.l.length ≤ c) (hcc : c ≤ maxCap) :
    Calls Tryd.prog 16 #[.agg #[.slice A s.l.length c, .int .u32 (s.last.toNat : Int), .int .i64 s.mx], .int .u32 (n.toNat : Int)] w fun e w' => SecAns w.heap.size (s.setSt n.toNat 1) e w' ∧ Below w.heap.size w w' := by
  refine calls_hide fun R HR => ?_
  have HC := Lib.hid (fun (W : World) (hb : Below w.heap.size w W) => hr.below hb)
  clear hr
  go_enter Tryd.func16, Tryd.ntmps16
  go_wp2_with (go_at_call 35; (refine (set_calls ok s n 1 A c _ (HC.out _ (by repeat (first | with_reducible exact Below.refl _ _ | assumption | refine Below.alloc ?_ (by first | exact Nat.le_refl _ | omega | (simp; done) | (simp; omega)) _ | refine Below.setCell ?_ (by first | exact Nat.le_refl _ | (simp; done) | (simp; omega)) _ | refine Below.drew ?_))) hc hcc (by simp [I64])).mono ?_; rintro e w2 ⟨⟨A2, c2, rfl, hl2, hc2, hr2⟩, hb2⟩; obtain ⟨hX2, hY2⟩ := bcell hb2; have hs2 : w.heap.size + 1 + 1 ≤ w2.heap.size := (by simpa using hb2.size); have HB2 := Lib.hid hb2; have HR2 := Lib.hid hr2; clear hb2 hr2))
  refine bodyPost_ret (v := .tuple #[.agg #[.slice A2 (s.setSt n.toNat 1).1.l.length c2, .int .u32 ((s.setSt n.toNat 1).1.last.toNat : Int), .int .i64 (s.setSt n.toNat 1).1.mx], errV (s.setSt n.toNat 1).2]) (by simp [results, Tryd.results16, go_sem, hX2]) rfl (HR.out _ _ ⟨?_, by repeat (first | with_reducible exact Below.refl _ _ | refine below_set ?_ (by first | exact Nat.le_refl _ | omega) _ | refine Below.alloc ?_ (by first | exact Nat.le_refl _ | omega | (simp; done) | (simp; omega)) _ | refine Below.drew ?_ | refine Below.trans ?_ (Below.mono HB2.out (by first | exact Nat.le_refl _ | omega | (simp; done) | (simp; omega))) )⟩)
  refine ⟨A2, c2, rfl, hl2, hc2, ?_⟩
  exact (((HR2.out.setCell _ (by simp) _).setCell _ (by simp) _).setCell _ (by simp) _).weak (fun k _ hk => by simp at hk; omega)
theorem undel_calls (ok : Nat → Prop) (s : Sec) (n : UInt32) (A : Option Addr) (c : Nat) (w : World) (hr : Rd verK ok w A s.l) (hc : s.l.length ≤ c) (hcc : c ≤ maxCap) :
    Calls Tryd.prog 18 #[.agg #[.slice A s.l.length c, .int .u32 (s.last.toNat : Int), .int .i64 s.mx], .int .u32 (n.toNat : Int)] w fun e w' => SecAns w.heap.size (s.setSt n.toNat 0) e w' ∧ Below w.heap.size w w' := by
  refine calls_hide fun R HR => ?_
  have HC := Lib.hid (fun (W : World) (hb : Below w.heap.size w W) => hr.below hb)
  clear hr
  go_enter Tryd.func18, Tryd.ntmps18
  go_wp2_with (go_at_call 35; (refine (set_calls ok s n 0 A c _ (HC.out _ (by repeat (first | with_reducible exact Below.refl _ _ | assumption | refine Below.alloc ?_ (by first | exact Nat.le_refl _ | omega | (simp; done) | (simp; omega)) _ | refine Below.setCell ?_ (by first | exact Nat.le_refl _ | (simp; done) | (simp; omega)) _ | refine Below.drew ?_))) hc hcc (by simp [I64])).mono ?_; rintro e w2 ⟨⟨A2, c2, rfl, hl2, hc2, hr2⟩, hb2⟩; obtain ⟨hX2, hY2⟩ := bcell hb2; have hs2 : w.heap.size + 1 + 1 ≤ w2.heap.size := (by simpa using hb2.size); have HB2 := Lib.hid hb2; have HR2 := Lib.hid hr2; clear hb2 hr2))
  refine bodyPost_ret (v := .tuple #[.agg #[.slice A2 (s.setSt n.toNat 0).1.l.length c2, .int .u32 ((s.setSt n.toNat 0).1.last.toNat : Int), .int .i64 (s.setSt n.toNat 0).1.mx], errV (s.setSt n.toNat 0).2]) (by simp [results, Tryd.results18, go_sem, hX2]) rfl (HR.out _ _ ⟨?_, by repeat (first | with_reducible exact Below.refl _ _ | refine below_set ?_ (by first | exact Nat.le_refl _ | omega) _ | refine Below.alloc ?_ (by first | exact Nat.le_refl _ | omega | (simp; done) | (simp; omega)) _ | refine Below.drew ?_ | refine Below.trans ?_ (Below.mono HB2.out (by first | exact Nat.le_refl _ | omega | (simp; done) | (simp; omega))) )⟩)
  refine ⟨A2, c2, rfl, hl2, hc2, ?_⟩
  exact (((HR2.out.setCell _ (by simp) _).setCell _ (by simp) _).setCell _ (by simp) _).weak (fun k _ hk => by simp at hk; omega)
theorem destroy_calls (ok : Nat → Prop) (s : Sec) (n : UInt32) (A : Option Addr) (c : Nat) (w : World) (hr : Rd verK ok w A s.l) (hc : s.l.length ≤ c) (hcc : c ≤ maxCap) :
    Calls Tryd.prog 19 #[.agg #[.slice A s.l.length c, .int .u32 (s.last.toNat : Int), .int .i64 s.mx], .int .u32 (n.toNat : Int)] w fun e w' => SecAns w.heap.size (s.setSt n.toNat 2) e w' ∧ Below w.heap.size w w' := by
  refine calls_hide fun R HR => ?_
  have HC := Lib.hid (fun (W : World) (hb : Below w.heap.size w W) => hr.below hb)
  clear hr
  go_enter Tryd.func19, Tryd.ntmps19
  go_wp2_with (go_at_call 35; (refine (set_calls ok s n 2 A c _ (HC.out _ (by repeat (first | with_reducible exact Below.refl _ _ | assumption | refine Below.alloc ?_ (by first | exact Nat.le_refl _ | omega | (simp; done) | (simp; omega)) _ | refine Below.setCell ?_ (by first | exact Nat.le_refl _ | (simp; done) | (simp; omega)) _ | refine Below.drew ?_))) hc hcc (by simp [I64])).mono ?_; rintro e w2 ⟨⟨A2, c2, rfl, hl2, hc2, hr2⟩, hb2⟩; obtain ⟨hX2, hY2⟩ := bcell hb2; have hs2 : w.heap.size + 1 + 1 ≤ w2.heap.size := (by simpa using hb2.size); have HB2 := Lib.hid hb2; have HR2 := Lib.hid hr2; clear hb2 hr2))
  refine bodyPost_ret (v := .tuple #[.agg #[.slice A2 (s.setSt n.toNat 2).1.l.length c2, .int .u32 ((s.setSt n.toNat 2).1.last.toNat : Int), .int .i64 (s.setSt n.toNat 2).1.mx], errV (s.setSt n.toNat 2).2]) (by simp [results, Tryd.results19, go_sem, hX2]) rfl (HR.out _ _ ⟨?_, by repeat (first | with_reducible exact Below.refl _ _ | refine below_set ?_ (by first | exact Nat.le_refl _ | omega) _ | refine Below.alloc ?_ (by first | exact Nat.le_refl _ | omega | (simp; done) | (simp; omega)) _ | refine Below.drew ?_ | refine Below.trans ?_ (Below.mono HB2.out (by first | exact Nat.le_refl _ | omega | (simp; done) | (simp; omega))) )⟩)
  refine ⟨A2, c2, rfl, hl2, hc2, ?_⟩
  exact (((HR2.out.setCell _ (by simp) _).setCell _ (by simp) _).setCell _ (by simp) _).weak (fun k _ hk => by simp at hk; omega)
end Go.Proofs.YtpdjahejcdmopaaDoor
