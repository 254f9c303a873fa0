/- Secrets, versions and asks that come in. -/
import Derived.Test.YtpdjahejcdmopaaDoorRowB
import Derived.Test.YtpdjahejcdmopaaDoorEng
namespace Go.Proofs.YtpdjahejcdmopaaDoor
open Go.ChangeShapes Go.WideShapes Go.RowKit
set_option linter.unusedVariables false
theorem opens_bytes : Opens Tryd.prog 26 u8.slice (fun xs => xs.length * 1 ≤ 140737488351232 ∧ ∀ x ∈ xs, True) :=
  Opens.slice Tryd.underlying26 (by kernel_rfl) (by kernel_rfl) (Opens.u8 Tryd.underlying5)
theorem opens_ver : Opens Tryd.prog 49 verK (fun _ => True) := by
  intro H enc w n cs x h
  obtain ⟨c0, c1, c2, c3, rfl⟩ := list4 (trod_len Tryd.underlying49 h 4 (by kernel_rfl))
  obtain ⟨m0, y0, h0, _⟩ := trod_field Tryd.underlying49 h 0 23 0 1 rfl (by kernel_rfl)
  obtain ⟨m1, y1, h1, _⟩ := trod_field Tryd.underlying49 h 1 26 1 1 rfl (by kernel_rfl)
  obtain ⟨m2, y2, h2, _⟩ := trod_field Tryd.underlying49 h 2 27 2 1 rfl (by kernel_rfl)
  obtain ⟨m3, y3, h3, _⟩ := trod_field Tryd.underlying49 h 3 3 3 1 rfl (by kernel_rfl)
  obtain ⟨a0, ⟨k0, _⟩, _⟩ := Opens.u32 Tryd.underlying23 enc w m0 _ _ h0
  obtain ⟨a1, ⟨A, c, k1, q1, q2, q3⟩, _⟩ := opens_bytes enc w m1 _ _ h1
  obtain ⟨a2, ⟨k2, _⟩, _⟩ := Opens.u64 Tryd.underlying27 enc w m2 _ _ h2
  obtain ⟨a3, ⟨k3, i3⟩, _⟩ := Opens.i64 Tryd.underlying3 enc w m3 _ _ h3
  refine ⟨⟨a0, a1, a2, a3⟩, ⟨A, c, ?_, q1, q2, q3, i3⟩, fun _ => trivial⟩
  have e0 : c0 = u32V a0 := (List.cons.inj k0).1
  have e1 : c1 = .slice A a1.length c := (List.cons.inj k1).1
  have e2 : c2 = u64V a2 := (List.cons.inj k2).1
  have e3 : c3 = .int .i64 a3 := (List.cons.inj k3).1
  rw [e0, e1, e2, e3]
  rfl
theorem opens_vers : Opens Tryd.prog 22 verK.slice (fun xs => xs.length * 48 ≤ 140737488351232 ∧ ∀ x ∈ xs, True) :=
  Opens.slice Tryd.underlying22 (by kernel_rfl) (by kernel_rfl) opens_ver
def secK : Rep Sec where
  sz := 3
  K := fun ok w s cs => ∃ A c, cs = [.slice A s.l.length c, .int .u32 (s.last.toNat : Int), .int .i64 s.mx] ∧ s.l.length ≤ c ∧ c ≤ maxCap ∧ Rd verK ok w A s.l ∧ I64 s.mx
  pos := by omega
  len := by rintro _ _ _ _ ⟨_, _, rfl, _⟩; rfl
  one := by
    rintro _ _ _ _ ⟨_, _, rfl, _⟩ u hu
    simp at hu
    rcases hu with rfl | rfl | rfl <;> rfl
  move := by
    rintro ok w w' x cs hm ⟨A, c, h, hl, hc, hr, hi⟩
    exact ⟨A, c, h, hl, hc, hr.move hm, hi⟩
  weak := by
    rintro ok ok' w x cs hm ⟨A, c, h, hl, hc, hr, hi⟩
    exact ⟨A, c, h, hl, hc, hr.weak hm, hi⟩
theorem opens_sec : Opens Tryd.prog 25 secK (fun s => s.l.length * 48 ≤ 140737488351232) := by
  intro H enc w n cs x h
  obtain ⟨c0, c1, c2, rfl⟩ := list3 (trod_len Tryd.underlying25 h 3 (by kernel_rfl))
  obtain ⟨m0, y0, h0, g0⟩ := trod_field Tryd.underlying25 h 0 22 0 1 rfl (by kernel_rfl)
  obtain ⟨m1, y1, h1, _⟩ := trod_field Tryd.underlying25 h 1 23 1 1 rfl (by kernel_rfl)
  obtain ⟨m2, y2, h2, _⟩ := trod_field Tryd.underlying25 h 2 3 2 1 rfl (by kernel_rfl)
  obtain ⟨a0, ⟨A, c, k0, q1, q2, q3⟩, f0⟩ := opens_vers enc w m0 _ _ h0
  obtain ⟨a1, ⟨k1, _⟩, _⟩ := Opens.u32 Tryd.underlying23 enc w m1 _ _ h1
  obtain ⟨a2, ⟨k2, i2⟩, _⟩ := Opens.i64 Tryd.underlying3 enc w m2 _ _ h2
  refine ⟨⟨a0, a1, a2⟩, ⟨A, c, ?_, q1, q2, q3, i2⟩, fun hw => (f0 fun k hk => hw k (g0 k hk)).1⟩
  have e0 : c0 = .slice A a0.length c := (List.cons.inj k0).1
  have e1 : c1 = u32V a1 := (List.cons.inj k1).1
  have e2 : c2 = .int .i64 a2 := (List.cons.inj k2).1
  rw [e0, e1, e2]
  rfl
structure Ask where
  data : List UInt8
  cas : Int
  n : UInt32
  now : UInt64
def askK : Rep Ask where
  sz := 4
  K := fun ok w s cs => ∃ A c, cs = [.slice A s.data.length c, .int .i64 s.cas, .int .u32 (s.n.toNat : Int), .int .u64 (s.now.toNat : Int)] ∧ s.data.length ≤ c ∧ c ≤ maxCap ∧ Rd u8 ok w A s.data ∧ I64 s.cas
  pos := by omega
  len := by rintro _ _ _ _ ⟨_, _, rfl, _⟩; rfl
  one := by
    rintro _ _ _ _ ⟨_, _, rfl, _⟩ u hu
    simp at hu
    rcases hu with rfl | rfl | rfl | rfl <;> rfl
  move := by
    rintro ok w w' x cs hm ⟨A, c, h, hl, hc, hr, hi⟩
    exact ⟨A, c, h, hl, hc, hr.move hm, hi⟩
  weak := by
    rintro ok ok' w x cs hm ⟨A, c, h, hl, hc, hr, hi⟩
    exact ⟨A, c, h, hl, hc, hr.weak hm, hi⟩
theorem opens_ask : Opens Tryd.prog 29 askK (fun s => s.data.length ≤ 140737488351232) := by
  intro H enc w n cs x h
  obtain ⟨c0, c1, c2, c3, rfl⟩ := list4 (trod_len Tryd.underlying29 h 4 (by kernel_rfl))
  obtain ⟨m0, y0, h0, g0⟩ := trod_field Tryd.underlying29 h 0 26 0 1 rfl (by kernel_rfl)
  obtain ⟨m1, y1, h1, _⟩ := trod_field Tryd.underlying29 h 1 3 1 1 rfl (by kernel_rfl)
  obtain ⟨m2, y2, h2, _⟩ := trod_field Tryd.underlying29 h 2 23 2 1 rfl (by kernel_rfl)
  obtain ⟨m3, y3, h3, _⟩ := trod_field Tryd.underlying29 h 3 27 3 1 rfl (by kernel_rfl)
  obtain ⟨a0, ⟨A, c, k0, q1, q2, q3⟩, f0⟩ := opens_bytes enc w m0 _ _ h0
  obtain ⟨a1, ⟨k1, i1⟩, _⟩ := Opens.i64 Tryd.underlying3 enc w m1 _ _ h1
  obtain ⟨a2, ⟨k2, _⟩, _⟩ := Opens.u32 Tryd.underlying23 enc w m2 _ _ h2
  obtain ⟨a3, ⟨k3, _⟩, _⟩ := Opens.u64 Tryd.underlying27 enc w m3 _ _ h3
  refine ⟨⟨a0, a1, a2, a3⟩, ⟨A, c, ?_, q1, q2, q3, i1⟩, fun hw => (by have := (f0 fun k hk => hw k (g0 k hk)).1; show a0.length ≤ _; omega)⟩
  have e0 : c0 = .slice A a0.length c := (List.cons.inj k0).1
  have e1 : c1 = .int .i64 a1 := (List.cons.inj k1).1
  have e2 : c2 = u32V a2 := (List.cons.inj k2).1
  have e3 : c3 = u64V a3 := (List.cons.inj k3).1
  rw [e0, e1, e2, e3]
  rfl
end Go.Proofs.YtpdjahejcdmopaaDoor
