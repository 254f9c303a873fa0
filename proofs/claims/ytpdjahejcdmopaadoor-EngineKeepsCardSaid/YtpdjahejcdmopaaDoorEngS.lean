/- engine.set, and Delete, Undelete, Destroy. -/
import Derived.Test.YtpdjahejcdmopaaDoorEngG
namespace Go.Proofs.YtpdjahejcdmopaaDoor
open Go.RowKit
set_option linter.unusedVariables false
set_option linter.unusedSimpArgs false
theorem OwnX.set1 {α : Type} {d : Rep α} {B : Nat} {oke : Nat → Prop} {w : World} {e b n c : Nat} {xs : List α} (h : OwnX d B oke w e (.slice (some ⟨b, 0, none⟩) n c) xs) (hn : xs.length = n) (hc : 0 < c) (i off : Nat) (x x' : α) (hx : xs[i]? = some x) (ho : off < d.sz) (u : Value)
    (hK : ∀ ok cs, d.K ok w x cs → d.K ok w x' (cs.set off u)) : OwnX d B oke (w.setCell ⟨b, i * d.sz + off, none⟩ u) e (.slice (some ⟨b, 0, none⟩) n c) (xs.set i x') := by
  subst hn
  obtain ⟨cs, ho', hr⟩ := h
  have hi := lt_of_getElem? hx
  have hl : cs.length = xs.length * d.sz := hr.1
  have hlt : i * d.sz + off < cs.length := by
    rw [hl]
    have h1 : i * d.sz + d.sz ≤ xs.length * d.sz := by rw [← Nat.succ_mul]; exact Nat.mul_le_mul_right _ hi
    omega
  refine ⟨cs.set (i * d.sz + off) u, ?_, ?_⟩
  · rw [List.length_set]; exact ho'.set _ hlt u
  · refine Reps.setCell (Reps.set hr i off hi ho x' u (hK _ _ (hr.2 i x hx))) _ (fun h => h.2 ?_) u
    obtain ⟨q, rfl⟩ : ∃ q, c = q + 1 := ⟨c - 1, by omega⟩
    rfl
theorem OwnX.ver {B : Nat} {oke : Nat → Prop} {w : World} {A : Option Addr} {c : Nat} {l : List Ver} (h : OwnX verK B oke w 42 (.slice A l.length c) l) (i : Nat) (x : Ver) (hx : l[i]? = some x) :
    ∃ b A1 c1, A = some ⟨b, 0, none⟩ ∧ b < w.heap.size ∧ B ≤ b ∧ w.cell? ⟨b, i * 4, none⟩ = some (.int .u32 (x.n.toNat : Int)) ∧ w.cell? ⟨b, i * 4 + 1, none⟩ = some (.slice A1 x.data.length c1) ∧
      w.cell? ⟨b, i * 4 + 2, none⟩ = some (.int .u64 (x.at_.toNat : Int)) ∧ w.cell? ⟨b, i * 4 + 3, none⟩ = some (.int .i64 x.st) ∧ w.frozen? ⟨b, i * 4 + 1, none⟩ = false ∧ w.frozen? ⟨b, i * 4 + 3, none⟩ = false := by
  obtain ⟨cs, ho, hr⟩ := h
  obtain ⟨A1, c1, hcs, _⟩ := hr.2 i x hx
  have e : ∀ j u, j < 4 → ((cs.drop (i * verK.sz)).take verK.sz)[j]? = some u → cs[i * 4 + j]? = some u := by
    intro j u hj h
    rw [List.getElem?_take, List.getElem?_drop] at h
    split at h
    · exact h
    · cases h
  obtain ⟨b, rfl, hb, g0, _, hrow⟩ := ho.cell (i * 4) _ (e 0 _ (by decide) (by rw [hcs]; rfl))
  obtain ⟨b1, e1, _, g1, f1, _⟩ := ho.cell (i * 4 + 1) _ (e 1 _ (by decide) (by rw [hcs]; rfl))
  cases e1
  obtain ⟨b1, e1, _, g2, f2, _⟩ := ho.cell (i * 4 + 2) _ (e 2 _ (by decide) (by rw [hcs]; rfl))
  cases e1
  obtain ⟨b1, e1, _, g3, f3, _⟩ := ho.cell (i * 4 + 3) _ (e 3 _ (by decide) (by rw [hcs]; rfl))
  cases e1
  exact ⟨b, A1, c1, rfl, cell_lt g0, hb, g0, g1, g2, g3, f1, f3⟩
def Sec.setSt (s : Sec) (n : Nat) (st : Int) : Sec × Option Int :=
  match s.find n with
  | (_, some e) => (Sec.zero, some e)
  | (i, none) => match s.l[i]? with
    | none => (Sec.zero, none)
    | some v => if v.st = 2 ∧ st ≠ 2 then (Sec.zero, some 21) else (⟨s.l.set i (if st = 2 then ⟨v.n, [], v.at_, 2⟩ else ⟨v.n, v.data, v.at_, st⟩), s.last, s.mx⟩, none)
set_option maxRecDepth 10000 in
set_option maxHeartbeats 1000000 in
theorem set_no (ok : Nat → Prop) (s : Sec) (n : UInt32) (st : Int) (A : Option Addr) (c : Nat) (w : World) (hr : Rd verK ok w A s.l) (hc : s.l.length ≤ c) (hcc : c ≤ maxCap) (hst : I64 st) (e0 : Int) (hf : s.find n.toNat = (0, some e0)) :
    Calls Tryd.prog 35 #[.agg #[.slice A s.l.length c, .int .u32 (s.last.toNat : Int), .int .i64 s.mx], .int .u32 (n.toNat : Int), .int .i64 st] w fun e w' => SecAns w.heap.size (s.setSt n.toNat st) e w' ∧ Below w.heap.size w w' := by
  refine calls_hide fun R HR => ?_
  have HC := Lib.hid (fun (W : World) (hb : Below w.heap.size w W) => hr.below hb)
  have hg : s.setSt n.toNat st = (Sec.zero, some e0) := by unfold Sec.setSt; rw [hf]
  have HG := Lib.hid hg
  have HF := Lib.hid hf
  clear hf hg hr
  go_enter Tryd.func35, Tryd.ntmps35
  go_wp2_with (go_at_call 32; (refine (find_err ok s n A c _ (HC.out _ (by repeat (first | with_reducible exact Below.refl _ _ | assumption | refine Below.alloc ?_ (by first | exact Nat.le_refl _ | omega | (simp; done) | (simp; omega)) _ | refine Below.setCell ?_ (by first | exact Nat.le_refl _ | (simp; done) | (simp; omega)) _ | refine Below.drew ?_))) hc hcc e0 HF.out).mono ?_; rintro e w2 ⟨rfl, hb2⟩; obtain ⟨hX2, hY2⟩ := bcell hb2; have hs2 : w.heap.size + 1 + 1 ≤ w2.heap.size := (by simpa using hb2.size); have HB2 := Lib.hid hb2; clear hb2))
  refine bodyPost_ret (v := .tuple #[.agg #[.slice none 0 0, .int .u32 0, .int .i64 0], .iface 69 (.int .i64 e0)]) (by simp [results, Tryd.results35, go_sem, hX2]) rfl (HR.out _ _ ⟨by rw [HG.out]; exact SecAns.none _ _ _, by repeat (first | with_reducible exact Below.refl _ _ | refine below_set ?_ (by first | exact Nat.le_refl _ | omega) _ | refine Below.alloc ?_ (by first | exact Nat.le_refl _ | omega | (simp; done) | (simp; omega)) _ | refine Below.drew ?_ | refine Below.trans ?_ (Below.mono HB2.out (by first | exact Nat.le_refl _ | omega | (simp; done) | (simp; omega))) )⟩)
set_option maxRecDepth 10000 in
set_option maxHeartbeats 1000000 in
theorem set_gone (ok : Nat → Prop) (s : Sec) (n : UInt32) (st : Int) (A : Option Addr) (c : Nat) (w : World) (hr : Rd verK ok w A s.l) (hc : s.l.length ≤ c) (hcc : c ≤ maxCap) (hst : I64 st) (i : Nat) (v : Ver) (hf : s.find n.toNat = (i, none)) (hv : s.l[i]? = some v) (h2 : v.st = 2) (hs : st ≠ 2) :
    Calls Tryd.prog 35 #[.agg #[.slice A s.l.length c, .int .u32 (s.last.toNat : Int), .int .i64 s.mx], .int .u32 (n.toNat : Int), .int .i64 st] w fun e w' => SecAns w.heap.size (s.setSt n.toNat st) e w' ∧ Below w.heap.size w w' := by
  refine calls_hide fun R HR => ?_
  have HC := Lib.hid (fun (W : World) (hb : Below w.heap.size w W) => hr.below hb)
  obtain ⟨b, o, A1, c1, rfl, hbs, _, q0, q1, q2, q3, hl1, hc1, hrd, _⟩ := hr.ver i v hv
  have hil : i < s.l.length := lt_of_getElem? hv
  have hg : s.setSt n.toNat st = (Sec.zero, some 21) := by unfold Sec.setSt; rw [hf]; simp only [hv]; rw [if_pos ⟨h2, hs⟩]
  have HG := Lib.hid hg
  have HF := Lib.hid hf
  have HV := Lib.hid hv
  have s0 : (v.st == 2) = true := by simpa using h2
  have s1 : (st != 2) = true := by simpa using hs
  clear hf hv hg hr h2 hs hrd
  go_enter Tryd.func35, Tryd.ntmps35
  go_wp2_with (go_at_call 32; (refine (find_ok ok s n (some ⟨b, o, none⟩) c _ (HC.out _ (by repeat (first | with_reducible exact Below.refl _ _ | assumption | refine Below.alloc ?_ (by first | exact Nat.le_refl _ | omega | (simp; done) | (simp; omega)) _ | refine Below.setCell ?_ (by first | exact Nat.le_refl _ | (simp; done) | (simp; omega)) _ | refine Below.drew ?_))) hc hcc i HF.out).mono ?_; rintro e w2 ⟨rfl, hb2⟩; obtain ⟨hX2, hY2⟩ := bcell hb2; have hs2 : w.heap.size + 1 + 1 ≤ w2.heap.size := (by simpa using hb2.size); have hs3 : b < w.heap.size + 1 + 1 := (by omega); have hs4 : w.heap.size + 1 < w2.heap.size := (by omega); have HB2 := Lib.hid hb2; clear hb2))
  refine bodyPost_ret (v := .tuple #[.agg #[.slice none 0 0, .int .u32 0, .int .i64 0], .iface 69 (.int .i64 21)]) (by simp [results, Tryd.results35, go_sem, hX2]) rfl (HR.out _ _ ⟨by rw [HG.out]; exact SecAns.none _ _ _, by repeat (first | with_reducible exact Below.refl _ _ | refine below_set ?_ (by first | exact Nat.le_refl _ | omega) _ | refine Below.alloc ?_ (by first | exact Nat.le_refl _ | omega | (simp; done) | (simp; omega)) _ | refine Below.drew ?_ | refine Below.trans ?_ (Below.mono HB2.out (by first | exact Nat.le_refl _ | omega | (simp; done) | (simp; omega))) )⟩)
set_option maxRecDepth 10000 in
set_option maxHeartbeats 1000000 in
theorem set_live (ok : Nat → Prop) (s : Sec) (n : UInt32) (st : Int) (A : Option Addr) (c : Nat) (w : World) (hr : Rd verK ok w A s.l) (hc : s.l.length ≤ c) (hcc : c ≤ maxCap) (hst : I64 st) (hm : s.may = true) (i : Nat) (v : Ver) (hf : s.find n.toNat = (i, none)) (hv : s.l[i]? = some v) (h2 : v.st ≠ 2) (hs : st ≠ 2) :
    Calls Tryd.prog 35 #[.agg #[.slice A s.l.length c, .int .u32 (s.last.toNat : Int), .int .i64 s.mx], .int .u32 (n.toNat : Int), .int .i64 st] w fun e w' => SecAns w.heap.size (s.setSt n.toNat st) e w' ∧ Below w.heap.size w w' := by
  refine calls_hide fun R HR => ?_
  have hg : s.setSt n.toNat st = (⟨s.l.set i ⟨v.n, v.data, v.at_, st⟩, s.last, s.mx⟩, none) := by unfold Sec.setSt; rw [hf]; simp only [hv]; rw [if_neg (fun h => h2 h.1), if_neg hs]
  have s0 : (v.st == 2) = false := by simpa using h2
  have s1 : (st == 2) = false := by simpa using hs
  clear hs h2
  have HC := Lib.hid (fun (W : World) (hb : Below w.heap.size w W) => hr.below hb)
  obtain ⟨b, o, A1, c1, rfl, hbs, _, q0, q1, q2, q3, hl1, hc1, hrd, _⟩ := hr.ver i v hv
  have hil : i < s.l.length := lt_of_getElem? hv
  have HG := Lib.hid hg
  have HF := Lib.hid hf
  have HV := Lib.hid hv
  have hh := (Sec.may_iff s).1 hm
  have hl8 : s.l.length ≤ 8 := by have := of_decide_eq_true hh.1; omega
  have hds : ∀ v ∈ s.l, v.data.length ≤ 1000 := by
    intro v hv
    obtain ⟨i, hi⟩ := List.getElem?_of_mem hv
    have := of_decide_eq_true (hh.2 i v hi).1
    omega
  have HDS := Lib.hid hds
  clear hf hv hg hr hrd hds hh hm
  go_enter Tryd.func35, Tryd.ntmps35
  go_wp2_with (first | (go_at_call 32; (refine (find_ok ok s n (some ⟨b, o, none⟩) c _ (HC.out _ (by repeat (first | with_reducible exact Below.refl _ _ | assumption | refine Below.alloc ?_ (by first | exact Nat.le_refl _ | omega | (simp; done) | (simp; omega)) _ | refine Below.setCell ?_ (by first | exact Nat.le_refl _ | (simp; done) | (simp; omega)) _ | refine Below.drew ?_))) hc hcc i HF.out).mono ?_; rintro e w2 ⟨rfl, hb2⟩; obtain ⟨hX2, hY2⟩ := bcell hb2; have hs2 : w.heap.size + 1 + 1 ≤ w2.heap.size := (by simpa using hb2.size); have hs3 : b < w.heap.size + 1 + 1 := (by omega); have hs4 : w.heap.size + 1 < w2.heap.size := (by omega); have HB2 := Lib.hid hb2; clear hb2)) | (go_at_call 29; (refine (copied_calls ok s (some ⟨b, o, none⟩) c _ (HC.out _ (by repeat (first | with_reducible exact Below.refl _ _ | refine below_set ?_ (by first | exact Nat.le_refl _ | omega) _ | refine Below.alloc ?_ (by first | exact Nat.le_refl _ | omega | (simp; done) | (simp; omega)) _ | refine Below.drew ?_ | refine Below.trans ?_ (Below.mono HB2.out (by first | exact Nat.le_refl _ | omega | (simp; done) | (simp; omega))) ))) hc hcc (by omega) HDS.out).mono ?_; rintro e w3 ⟨A3, c3, rfl, hb3, hl3, hc3, hown3⟩; unfold secV; obtain ⟨hX3, hY3⟩ := bcell hb3; have hs3' : w2.heap.size ≤ w3.heap.size := hb3.size; obtain ⟨b3, A4, c4, rfl, hbs3, hbk3, r0, r1, r2, r3, r4, r5⟩ := hown3.ver i v HV.out; have HB3 := Lib.hid hb3; have HO3 := Lib.hid hown3; have hne : b3 ≠ w3.heap.size := (by omega); have hne' : w3.heap.size ≠ b3 := (by omega); have hne2 : b3 ≠ w.heap.size + 1 := (by omega); have hne3 : w.heap.size + 1 ≠ b3 := (by omega); have hlt9 : w.heap.size + 1 < w3.heap.size := (by omega); clear hb3 hown3)))
  refine bodyPost_ret (v := .tuple #[.agg #[.slice (some ⟨b3, 0, none⟩) s.l.length c3, .int .u32 (s.last.toNat : Int), .int .i64 s.mx], .nilIface]) (by simp [results, Tryd.results35, go_sem, hX3, hX2, hs4, hne, hne', hne2, hne3, hlt9]) rfl (HR.out _ _ ⟨?_, by repeat (first | with_reducible exact Below.refl _ _ | refine below_set ?_ (by first | exact Nat.le_refl _ | omega) _ | refine Below.alloc ?_ (by first | exact Nat.le_refl _ | omega | (simp; done) | (simp; omega)) _ | refine Below.drew ?_ | refine Below.trans ?_ (Below.mono HB2.out (by first | exact Nat.le_refl _ | omega | (simp; done) | (simp; omega))) | refine Below.trans ?_ (Below.mono HB3.out (by first | exact Nat.le_refl _ | omega | (simp; done) | (simp; omega))) )⟩)
  rw [HG.out]
  have h1 := HO3.out.set1 rfl (by omega) i 3 v ⟨v.n, v.data, v.at_, st⟩ HV.out (by decide) (.int .i64 st) (fun okk cs hk => by
    obtain ⟨A9, c9, rfl, k1, k2, k3, k4⟩ := hk
    exact ⟨A9, c9, rfl, k1, k2, k3, hst⟩)
  obtain ⟨_, _, e1, _, _, h2⟩ := h1.rd
  simp only [Value.slice.injEq] at e1
  obtain ⟨rfl, hn, rfl⟩ := e1
  refine ⟨some ⟨b3, 0, none⟩, c3, by simp only [errV, hn], by simp; omega, hc3, ?_⟩
  exact ((((h2.setCell _ (by simp; omega) _).setCell _ (by simp; omega) _).setCell _ (by simp; omega) _).alloc _).weak (fun k _ hk => by omega)
end Go.Proofs.YtpdjahejcdmopaaDoor
