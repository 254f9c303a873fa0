/- Plain laws of secrets: what is put is the newest, and is got. -/
import Derived.Test.YtpdjahejcdmopaaDoorEngT
import Derived.Test.YtpdjahejcdmopaaDoorEngN
namespace Go.Proofs.YtpdjahejcdmopaaDoor
open Go.RowKit
set_option linter.unusedVariables false
set_option linter.unusedSimpArgs false
def Sec.plus (s : Sec) (data : List UInt8) (now : UInt64) : Sec :=
  ⟨if s.mx < s.l.length + 1 then (s.l ++ [(⟨s.last + 1, data, now, 0⟩ : Ver)]).tail else s.l ++ [(⟨s.last + 1, data, now, 0⟩ : Ver)], s.last + 1, s.mx⟩
theorem Sec.put_plus {s : Sec} {data : List UInt8} {cas : Int} {now : UInt64} (hm : s.may = true) (hd : data.length ≤ 100) (hc : cas < 0 ∨ cas = s.last.toNat) (hl : s.last.toNat < 4294967295) : s.put data cas now = (s.plus data now, none) := by
  unfold Sec.put
  rw [if_pos ⟨hm, hd⟩, if_neg (by omega), if_neg (by omega)]
  rfl
theorem Sec.may_facts {s : Sec} (h : s.may = true) : 1 ≤ s.mx ∧ s.mx ≤ 8 ∧ (s.l.length : Int) ≤ s.mx ∧ s.l.length ≤ s.last.toNat ∧ (s.last.toNat = 0 ↔ s.l.length = 0) :=
  of_decide_eq_true ((Sec.may_iff s).1 h).1
theorem last1 {s : Sec} (hl : s.last.toNat < 4294967295) : (s.last + 1).toNat = s.last.toNat + 1 := by
  rw [UInt32.toNat_add]; simp; omega
theorem Sec.plus_may {s : Sec} {data : List UInt8} {now : UInt64} (hm : s.may = true) (hd : data.length ≤ 100) (hl : s.last.toNat < 4294967295) : (s.plus data now).may = true := by
  obtain ⟨h1, h2, h3, h4, h5⟩ := Sec.may_facts hm
  have hv := ((Sec.may_iff s).1 hm).2
  have hl1 := last1 hl
  have hnew : (⟨s.last + 1, data, now, 0⟩ : Ver).may = true := by simp [Ver.may, hd]
  rw [Sec.may_iff]
  unfold Sec.plus
  by_cases hgt : s.mx < s.l.length + 1
  · rw [if_pos hgt]
    refine ⟨by unfold Sec.head; rw [decide_eq_true_eq]; simp only [hl1, List.length_tail, List.length_append, List.length_singleton]; omega, fun i v hi => ?_⟩
    rw [List.getElem?_tail, List.getElem?_append] at hi
    split at hi
    · obtain ⟨q1, q2⟩ := hv _ _ hi
      refine ⟨q1, ?_⟩
      rw [q2]
      simp only [Sec.num, hl1, List.length_tail, List.length_append, List.length_singleton]
      omega
    · have h0 : i + 1 - s.l.length = 0 := by
        rcases Nat.eq_zero_or_pos (i + 1 - s.l.length) with h | h
        · exact h
        · rw [List.getElem?_eq_none (by simp; omega)] at hi; cases hi
      rw [h0] at hi
      obtain rfl := Option.some.inj hi
      refine ⟨hnew, ?_⟩
      simp only [Sec.num, hl1, List.length_tail, List.length_append, List.length_singleton]
      have := lt_of_getElem? hi
      omega
  · rw [if_neg hgt]
    refine ⟨by unfold Sec.head; simp [hl1]; omega, fun i v hi => ?_⟩
    rw [List.getElem?_append] at hi
    split at hi
    · obtain ⟨q1, q2⟩ := hv _ _ hi
      refine ⟨q1, ?_⟩
      rw [q2]
      simp only [Sec.num, hl1, List.length_append, List.length_singleton]
      omega
    · have h0 : i - s.l.length = 0 := by
        rcases Nat.eq_zero_or_pos (i - s.l.length) with h | h
        · exact h
        · rw [List.getElem?_eq_none (by simp; omega)] at hi; cases hi
      rw [h0] at hi
      obtain rfl := Option.some.inj hi
      refine ⟨hnew, ?_⟩
      simp only [Sec.num, hl1, List.length_append, List.length_singleton]
      omega
/-- Where a number stands. -/
theorem placeOf_may {s : Sec} (hm : s.may = true) (k : Nat) : placeOf s.l k = if s.last.toNat - s.l.length < k ∧ k ≤ s.last.toNat then some (k - (s.last.toNat - s.l.length) - 1) else none := by
  obtain ⟨h1, h2, h3, h4, h5⟩ := Sec.may_facts hm
  have hv := ((Sec.may_iff s).1 hm).2
  unfold placeOf
  split
  · rename_i hk
    have hlt : k - (s.last.toNat - s.l.length) - 1 < s.l.length := by omega
    rw [List.findIdx?_eq_some_iff_getElem]
    refine ⟨hlt, ?_, fun j hj => ?_⟩
    · have := (hv _ _ (List.getElem?_eq_getElem hlt)).2
      rw [this]; simp [Sec.num]; omega
    · have := (hv _ _ (List.getElem?_eq_getElem (show j < s.l.length by omega))).2
      rw [this]; simp [Sec.num]; omega
  · rename_i hk
    rw [List.findIdx?_eq_none_iff]
    intro v hvm
    obtain ⟨i, hi⟩ := List.getElem?_of_mem hvm
    have := (hv _ _ hi).2
    have hil := lt_of_getElem? hi
    rw [this]; simp [Sec.num]; omega
theorem Sec.plus_last {s : Sec} (hm : s.may = true) (data : List UInt8) (now : UInt64) : (s.plus data now).l[(s.plus data now).l.length - 1]? = some ⟨s.last + 1, data, now, 0⟩ := by
  obtain ⟨h1, h2, h3, h4, h5⟩ := Sec.may_facts hm
  unfold Sec.plus
  simp only
  split
  · rename_i hgt
    have hp : 1 ≤ s.l.length := by omega
    rw [List.getElem?_tail, List.length_tail, List.length_append, List.length_singleton, List.getElem?_append_right (by omega), show s.l.length + 1 - 1 - 1 + 1 - s.l.length = 0 by omega]
    rfl
  · rw [List.length_append, List.length_singleton, List.getElem?_append_right (by omega), show s.l.length + 1 - 1 - s.l.length = 0 by omega]
    rfl
/-- The newest is got. -/
theorem Sec.get_newest {s : Sec} (hm : s.may = true) {data : List UInt8} (hd : data.length ≤ 100) (now : UInt64) (hl : s.last.toNat < 4294967295) : (s.plus data now).get 0 = (⟨s.last + 1, data, now, 0⟩, none) := by
  have hm' := Sec.plus_may (now := now) hm hd hl
  obtain ⟨h1, h2, h3, h4, h5⟩ := Sec.may_facts hm'
  have hl1 := last1 hl
  have hls : (s.plus data now).last.toNat = s.last.toNat + 1 := hl1
  have hpl := Sec.plus_last hm data now
  have hlt := lt_of_getElem? hpl
  have hf : (s.plus data now).find 0 = ((s.plus data now).l.length - 1, none) := by
    unfold Sec.find
    rw [if_pos hm', if_pos rfl, placeOf_may hm', if_pos (by omega)]
    simp only [Prod.mk.injEq, and_true]
    omega
  unfold Sec.get
  rw [hf]
  simp only [hpl]
  rfl
/-- Two writers. -/
theorem Sec.cas_two {s : Sec} (hm : s.may = true) {x y : List UInt8} (hx : x.length ≤ 100) (hy : y.length ≤ 100) (hl : s.last.toNat ≤ 2147483648) :
    s.put x (s.last.toNat : Int) 1 = (s.plus x 1, none) ∧ (s.plus x 1).put y (s.last.toNat : Int) 1 = (Sec.zero, some 20) ∧ (s.plus x 1).put y (-1) 1 = ((s.plus x 1).plus y 1, none) ∧
    ((s.plus x 1).plus y 1).get (0 : UInt32).toNat = (⟨s.last + 1 + 1, y, 1, 0⟩, none) ∧ ((s.last + 1 + 1).toNat : Int) = (s.last.toNat : Int) + 2 := by
  have hl1 : (s.last + 1).toNat = s.last.toNat + 1 := last1 (by omega)
  have hm1 := Sec.plus_may (now := 1) hm hx (by omega)
  have hl2 : (s.plus x 1).last.toNat = s.last.toNat + 1 := hl1
  refine ⟨Sec.put_plus hm hx (.inr rfl) (by omega), ?_, Sec.put_plus hm1 hy (.inl (by omega)) (by omega), Sec.get_newest hm1 hy 1 (by omega), ?_⟩
  · unfold Sec.put
    rw [if_pos ⟨hm1, hy⟩, if_pos (by omega)]
  · rw [UInt32.toNat_add, hl1]; simp; omega
end Go.Proofs.YtpdjahejcdmopaaDoor
