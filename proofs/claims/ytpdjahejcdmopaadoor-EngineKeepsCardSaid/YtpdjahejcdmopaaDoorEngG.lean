/- engine.Get. -/
import Derived.Test.YtpdjahejcdmopaaDoorEngP
namespace Go.Proofs.YtpdjahejcdmopaaDoor
open Go.RowKit
set_option linter.unusedVariables false
set_option linter.unusedSimpArgs false
theorem Sec.find_spec (s : Sec) (n : Nat) : (∃ e, s.find n = (0, some e)) ∨ ∃ i v, s.find n = (i, none) ∧ s.l[i]? = some v ∧ s.may = true := by
  unfold Sec.find
  by_cases hm : s.may = true
  · rw [if_pos hm]
    cases hp : placeOf s.l (if n = 0 then s.last.toNat else n) with
    | none => exact .inl ⟨5, rfl⟩
    | some i =>
      unfold placeOf at hp
      obtain ⟨h, _⟩ := List.findIdx?_eq_some_iff_getElem.1 hp
      exact .inr ⟨i, s.l[i], rfl, List.getElem?_eq_getElem h, hm⟩
  · rw [if_neg hm]; exact .inl ⟨1, rfl⟩
theorem find_err (ok : Nat → Prop) (s : Sec) (n : UInt32) (A : Option Addr) (c : Nat) (w : World) (hr : Rd verK ok w A s.l) (hc : s.l.length ≤ c) (hcc : c ≤ maxCap) (e : Int) (hf : s.find n.toNat = (0, some e)) :
    Calls Tryd.prog 32 #[.agg #[.slice A s.l.length c, .int .u32 (s.last.toNat : Int), .int .i64 s.mx], .int .u32 (n.toNat : Int)] w fun r w' => r = .returned (.tuple #[.int .i64 0, .iface 69 (.int .i64 e)]) ∧ Below w.heap.size w w' := by
  have h := find_calls ok s n A c w hr hc hcc
  rw [hf] at h
  exact h
theorem find_ok (ok : Nat → Prop) (s : Sec) (n : UInt32) (A : Option Addr) (c : Nat) (w : World) (hr : Rd verK ok w A s.l) (hc : s.l.length ≤ c) (hcc : c ≤ maxCap) (i : Nat) (hf : s.find n.toNat = (i, none)) :
    Calls Tryd.prog 32 #[.agg #[.slice A s.l.length c, .int .u32 (s.last.toNat : Int), .int .i64 s.mx], .int .u32 (n.toNat : Int)] w fun r w' => r = .returned (.tuple #[.int .i64 (i : Int), .nilIface]) ∧ Below w.heap.size w w' := by
  have h := find_calls ok s n A c w hr hc hcc
  rw [hf] at h
  exact h
def Ver.zero : Ver := ⟨0, [], 0, 0⟩
def Sec.get (s : Sec) (n : Nat) : Ver × Option Int :=
  match s.find n with
  | (_, some e) => (Ver.zero, some e)
  | (i, none) => match s.l[i]? with
    | none => (Ver.zero, none)
    | some v => if v.st = 0 then (v, none) else (Ver.zero, some 21)
/-- What a call answers that answers a version and an error. -/
def VerAns (B : Nat) (p : Ver × Option Int) (e : Ending) (w' : World) : Prop :=
  ∃ A c, e = .returned (.tuple #[.agg #[.int .u32 (p.1.n.toNat : Int), .slice A p.1.data.length c, .int .u64 (p.1.at_.toNat : Int), .int .i64 p.1.st], errV p.2]) ∧ p.1.data.length ≤ c ∧ c ≤ maxCap ∧ Rd u8 (fun k => B ≤ k) w' A p.1.data
theorem VerAns.none (B : Nat) (n : Int) (w' : World) : VerAns B (Ver.zero, some n) (.returned (.tuple #[.agg #[.int .u32 0, .slice none 0 0, .int .u64 0, .int .i64 0], .iface 69 (.int .i64 n)])) w' :=
  ⟨Option.none, 0, rfl, Nat.le_refl _, by simp [maxCap], Rd.nil _ _ _ _⟩
set_option maxRecDepth 10000 in
set_option maxHeartbeats 1000000 in
theorem get_calls (ok : Nat → Prop) (s : Sec) (n : UInt32) (A : Option Addr) (c : Nat) (w : World) (hr : Rd verK ok w A s.l) (hc : s.l.length ≤ c) (hcc : c ≤ maxCap) :
    Calls Tryd.prog 12 #[.agg #[.slice A s.l.length c, .int .u32 (s.last.toNat : Int), .int .i64 s.mx], .int .u32 (n.toNat : Int)] w fun e w' => VerAns w.heap.size (s.get n.toNat) e w' ∧ Below w.heap.size w w' := by
  refine calls_hide fun R HR => ?_
  have HC := Lib.hid (fun (W : World) (hb : Below w.heap.size w W) => hr.below hb)
  rcases s.find_spec n.toNat with ⟨e0, hf⟩ | ⟨i, v, hf, hv, hm⟩
  · have hg : s.get n.toNat = (Ver.zero, some e0) := by unfold Sec.get; rw [hf]
    have HG := Lib.hid hg
    have HF := Lib.hid hf
    clear hf hg hr
    go_enter Tryd.func12, Tryd.ntmps12
    go_wp2_with (go_at_call 32; (refine (find_err ok s n A c _ (HC.out _ (by repeat (first | with_reducible exact Below.refl _ _ | assumption | refine Below.alloc ?_ (by first | exact Nat.le_refl _ | omega | (simp; done) | (simp; omega)) _ | refine Below.setCell ?_ (by first | exact Nat.le_refl _ | (simp; done) | (simp; omega)) _ | refine Below.drew ?_))) hc hcc e0 HF.out).mono ?_; rintro e w2 ⟨rfl, hb2⟩; obtain ⟨hX2, hY2⟩ := bcell hb2; have hs2 : w.heap.size + 1 + 1 ≤ w2.heap.size := (by simpa using hb2.size); have HB2 := Lib.hid hb2; clear hb2))
    refine bodyPost_ret (v := .tuple #[.agg #[.int .u32 0, .slice none 0 0, .int .u64 0, .int .i64 0], .iface 69 (.int .i64 e0)]) (by simp [results, Tryd.results12, go_sem, hX2]) rfl (HR.out _ _ ⟨by rw [HG.out]; exact VerAns.none _ _ _, by repeat (first | with_reducible exact Below.refl _ _ | refine below_set ?_ (by first | exact Nat.le_refl _ | omega) _ | refine Below.alloc ?_ (by first | exact Nat.le_refl _ | omega | (simp; done) | (simp; omega)) _ | refine Below.drew ?_ | refine Below.trans ?_ (Below.mono HB2.out (by first | exact Nat.le_refl _ | omega | (simp; done) | (simp; omega))) )⟩)
  · obtain ⟨b, o, A1, c1, rfl, hbs, _, q0, q1, q2, q3, hl1, hc1, hrd, hst⟩ := hr.ver i v hv
    have hil : i < s.l.length := lt_of_getElem? hv
    have HF := Lib.hid hf
    have HV := Lib.hid hv
    by_cases h0 : v.st = 0
    · have hg : s.get n.toNat = (v, none) := by unfold Sec.get; rw [hf]; simp only [hv]; rw [if_pos h0]
      have HG := Lib.hid hg
      have s0 : (v.st != 0) = false := by simpa using h0
      have hh := (Sec.may_iff s).1 hm
      have hl8 : s.l.length ≤ 8 := by have := of_decide_eq_true hh.1; omega
      have hds : ∀ v ∈ s.l, v.data.length ≤ 1000 := by
        intro v hv
        obtain ⟨i, hi⟩ := List.getElem?_of_mem hv
        have := of_decide_eq_true (hh.2 i v hi).1
        omega
      have HDS := Lib.hid hds
      clear hf hv hg hr h0 hrd hds hh hm
      have hfd : ∀ (W : World) (A' : Option Addr) (n' c' : Nat) (l m : Int), (Instr.field 32 (.agg #[.slice A' n' c', .int .u32 l, .int .i64 m]) 0).run Tryd.prog W = .ok (.slice A' n' c') W := fun _ _ _ _ _ _ => by kernel_rfl
      go_enter Tryd.func12, Tryd.ntmps12
      go_wp2_with (first | (go_at_call 32; (refine (find_ok ok s n (some ⟨b, o, none⟩) c _ (HC.out _ (by repeat (first | with_reducible exact Below.refl _ _ | assumption | refine Below.alloc ?_ (by first | exact Nat.le_refl _ | omega | (simp; done) | (simp; omega)) _ | refine Below.setCell ?_ (by first | exact Nat.le_refl _ | (simp; done) | (simp; omega)) _ | refine Below.drew ?_))) hc hcc i HF.out).mono ?_; rintro e w2 ⟨rfl, hb2⟩; obtain ⟨hX2, hY2⟩ := bcell hb2; have hs2 : w.heap.size + 1 + 1 ≤ w2.heap.size := (by simpa using hb2.size); have hs3 : b < w.heap.size + 1 + 1 := (by omega); have hs4 : w.heap.size + 1 < w2.heap.size := (by omega); have HB2 := Lib.hid hb2; clear hb2)) | (go_at_call 29; (refine (copied_calls ok s (some ⟨b, o, none⟩) c _ (HC.out _ (by repeat (first | with_reducible exact Below.refl _ _ | refine below_set ?_ (by first | exact Nat.le_refl _ | omega) _ | refine Below.alloc ?_ (by first | exact Nat.le_refl _ | omega | (simp; done) | (simp; omega)) _ | refine Below.drew ?_ | refine Below.trans ?_ (Below.mono HB2.out (by first | exact Nat.le_refl _ | omega | (simp; done) | (simp; omega))) ))) hc hcc (by omega) HDS.out).mono ?_; rintro e w3 ⟨A3, c3, rfl, hb3, hl3, hc3, hown3⟩; unfold secV; obtain ⟨hX3, hY3⟩ := bcell hb3; have hs3' : w2.heap.size ≤ w3.heap.size := hb3.size; obtain ⟨_, _, e1, _, _, hrd3⟩ := hown3.rd; simp only [Value.slice.injEq] at e1; obtain ⟨rfl, _, rfl⟩ := e1; obtain ⟨b3, o3, A4, c4, rfl, hbs3, hbk3, r0, r1, r2, r3, hl4, hc4, hrd4, _⟩ := hrd3.ver i v HV.out; have HB3 := Lib.hid hb3; have HR4 := Lib.hid hrd4; have hbk3' : w2.heap.size ≤ b3 := (by omega); clear hb3 hown3 hrd3 hrd4 hbk3)))
      refine bodyPost_ret (v := .tuple #[.agg #[.int .u32 (v.n.toNat : Int), .slice A4 v.data.length c4, .int .u64 (v.at_.toNat : Int), .int .i64 v.st], .nilIface]) (by simp [results, Tryd.results12, go_sem, hX3, hX2, hs4]) rfl (HR.out _ _ ⟨?_, by repeat (first | with_reducible exact Below.refl _ _ | refine below_set ?_ (by first | exact Nat.le_refl _ | omega) _ | refine Below.alloc ?_ (by first | exact Nat.le_refl _ | omega | (simp; done) | (simp; omega)) _ | refine Below.drew ?_ | refine Below.trans ?_ (Below.mono HB2.out (by first | exact Nat.le_refl _ | omega | (simp; done) | (simp; omega))) | refine Below.trans ?_ (Below.mono HB3.out (by first | exact Nat.le_refl _ | omega | (simp; done) | (simp; omega))) )⟩)
      rw [HG.out]
      refine ⟨A4, c4, rfl, hl4, hc4, ?_⟩
      exact ((((HR4.out.setCell _ (by simp; omega) _).setCell _ (by simp; omega) _).setCell _ (by simp; omega) _).setCell _ (by simp; omega) _).weak (fun k _ hk => by omega)
    · have hg : s.get n.toNat = (Ver.zero, some 21) := by unfold Sec.get; rw [hf]; simp only [hv]; rw [if_neg h0]
      have HG := Lib.hid hg
      have s0 : (v.st != 0) = true := by simpa using h0
      clear hf hv hg hr h0 hrd hm
      go_enter Tryd.func12, Tryd.ntmps12
      go_wp2_with (go_at_call 32; (refine (find_ok ok s n (some ⟨b, o, none⟩) c _ (HC.out _ (by repeat (first | with_reducible exact Below.refl _ _ | assumption | refine Below.alloc ?_ (by first | exact Nat.le_refl _ | omega | (simp; done) | (simp; omega)) _ | refine Below.setCell ?_ (by first | exact Nat.le_refl _ | (simp; done) | (simp; omega)) _ | refine Below.drew ?_))) hc hcc i HF.out).mono ?_; rintro e w2 ⟨rfl, hb2⟩; obtain ⟨hX2, hY2⟩ := bcell hb2; have hs2 : w.heap.size + 1 + 1 ≤ w2.heap.size := (by simpa using hb2.size); have hs3 : b < w.heap.size + 1 + 1 := (by omega); have hs4 : w.heap.size + 1 < w2.heap.size := (by omega); have HB2 := Lib.hid hb2; clear hb2))
      refine bodyPost_ret (v := .tuple #[.agg #[.int .u32 0, .slice none 0 0, .int .u64 0, .int .i64 0], .iface 69 (.int .i64 21)]) (by simp [results, Tryd.results12, go_sem, hX2]) rfl (HR.out _ _ ⟨by rw [HG.out]; exact VerAns.none _ _ _, by repeat (first | with_reducible exact Below.refl _ _ | refine below_set ?_ (by first | exact Nat.le_refl _ | omega) _ | refine Below.alloc ?_ (by first | exact Nat.le_refl _ | omega | (simp; done) | (simp; omega)) _ | refine Below.drew ?_ | refine Below.trans ?_ (Below.mono HB2.out (by first | exact Nat.le_refl _ | omega | (simp; done) | (simp; omega))) )⟩)
end Go.Proofs.YtpdjahejcdmopaaDoor
