/- Plain laws for EngineKeeps: what a secret holds behind puts, deletes, undeletes and destroys. -/
import Derived.Test.YtpdjahejcdmopaaDoorCasP
namespace Go.Proofs.YtpdjahejcdmopaaDoor
open Go.RowKit
set_option linter.unusedVariables false
set_option linter.unusedSimpArgs false
def inW (n len k : Nat) : Bool := decide (1 ≤ k ∧ k ≤ len ∧ len < k + n)
structure Kp (n : Nat) (s : Sec) (data : List (List UInt8)) (st : List Int) : Prop where
  may : s.may = true
  mx : s.mx = n
  last : s.last.toNat = data.length
  len : s.l.length = min n data.length
  stl : st.length = 64
  fresh : ∀ (j : Nat) (x : Int), data.length ≤ j → st[j]? = some x → x = 0
  st3 : ∀ (j : Nat) (x : Int), st[j]? = some x → x = 0 ∨ x = 1 ∨ x = 2
  ver : ∀ (i : Nat) (v : Ver), s.l[i]? = some v → st[s.num i - 1]? = some v.st ∧ (v.st ≠ 2 → data[s.num i - 1]? = some v.data)
theorem Kp.new (n : Nat) (h1 : 1 ≤ n) (h2 : n ≤ 8) : Sec.new n = (⟨[], 0, n⟩, none) ∧ Kp n ⟨[], 0, n⟩ [] (List.replicate 64 0) := by
  refine ⟨by unfold Sec.new; rw [if_pos (by omega)], ?_, rfl, rfl, by simp, by simp, fun j x _ h => ?_, fun j x h => ?_, fun i v h => by simp at h⟩
  · rw [may_new]; simp; omega
  · rw [List.getElem?_replicate] at h
    split at h
    · exact (Option.some.inj h).symm
    · cases h
  · rw [List.getElem?_replicate] at h
    split at h
    · exact .inl (Option.some.inj h).symm
    · cases h
section
variable {n : Nat} {s : Sec} {data : List (List UInt8)} {st : List Int}
theorem Kp.n1 (h : Kp n s data st) : 1 ≤ n ∧ n ≤ 8 := by
  obtain ⟨h1, h2, _⟩ := Sec.may_facts h.may
  rw [h.mx] at h1 h2
  omega
theorem Kp.put (h : Kp n s data st) {d : List UInt8} (hd : d.length ≤ 100) (hl : data.length < 64) (now : UInt64) : s.put d (data.length : Int) now = (s.plus d now, none) ∧ Kp n (s.plus d now) (data ++ [d]) st := by
  have hlast := h.last
  have hn := h.n1
  have hm' := Sec.plus_may (now := now) h.may hd (by omega)
  have hl1 : (s.last + 1).toNat = s.last.toNat + 1 := last1 (by omega)
  have hpl : (s.plus d now).l.length = min n (data.length + 1) := by
    have := h.len
    have hmx := h.mx
    unfold Sec.plus
    simp only
    split <;> (simp only [List.length_tail, List.length_append, List.length_singleton]; omega)
  refine ⟨Sec.put_plus h.may hd (.inr (by omega)) (by omega), hm', h.mx, ?_, by simpa using hpl, h.stl, fun j x hj hx => h.fresh j x (by simp at hj; omega) hx, h.st3, fun i v hi => ?_⟩
  · show (s.last + 1).toNat = _
    rw [hl1, hlast]; simp
  · have hnum := (((Sec.may_iff _).1 hm').2 i v hi).2
    have hil := lt_of_getElem? hi
    have hnn : (s.plus d now).num i = data.length + 1 - (s.plus d now).l.length + i + 1 := by
      unfold Sec.num
      rw [show (s.plus d now).last.toNat = data.length + 1 by show (s.last + 1).toNat = _; omega]
    by_cases hlastv : i = (s.plus d now).l.length - 1
    · have hp := Sec.plus_last h.may d now
      rw [← hlastv, hi] at hp
      obtain rfl := Option.some.inj hp
      have e : (s.plus d now).num i - 1 = data.length := by omega
      rw [e]
      refine ⟨?_, fun _ => by rw [List.getElem?_append_right (Nat.le_refl _), Nat.sub_self]; rfl⟩
      obtain ⟨x, hx⟩ : ∃ x, st[data.length]? = some x := ⟨_, List.getElem?_eq_getElem (by rw [h.stl]; exact hl)⟩
      rw [hx, h.fresh _ x (Nat.le_refl _) hx]
    · -- an elder version
      have hold : ∃ i', s.l[i']? = some v ∧ s.num i' = (s.plus d now).num i := by
        have hsl := h.len
        have hmx := h.mx
        unfold Sec.plus at hi
        simp only at hi
        split at hi
        · rename_i hgt
          rw [List.getElem?_tail, List.getElem?_append_left (by omega)] at hi
          refine ⟨i + 1, hi, ?_⟩
          rw [hnn]
          unfold Sec.num
          omega
        · rename_i hgt
          rw [List.getElem?_append_left (by omega)] at hi
          refine ⟨i, hi, ?_⟩
          rw [hnn]
          unfold Sec.num
          omega
      obtain ⟨i', h1, h2⟩ := hold
      obtain ⟨h3, h4⟩ := h.ver i' v h1
      rw [h2] at h3 h4
      refine ⟨h3, fun hne => ?_⟩
      have := h4 hne
      rw [List.getElem?_append_left (lt_of_getElem? this)]
      exact this
theorem Kp.place (h : Kp n s data st) {k : Nat} (hk : 1 ≤ k) : s.find k = if inW n data.length k = true then (k - (data.length - s.l.length) - 1, none) else (0, some 5) := by
  have hl := h.last
  have hlen := h.len
  have hn := h.n1
  unfold Sec.find
  rw [if_pos h.may, if_neg (by omega), placeOf_may h.may, hl]
  by_cases hin : inW n data.length k = true
  · have := of_decide_eq_true hin
    rw [if_pos hin, if_pos (by omega)]
  · have : ¬ (1 ≤ k ∧ k ≤ data.length ∧ data.length < k + n) := fun e => hin (decide_eq_true e)
    rw [if_neg hin, if_neg (by omega)]
theorem Kp.at (h : Kp n s data st) {k : Nat} (hin : inW n data.length k = true) : ∃ i v, s.find k = (i, none) ∧ s.l[i]? = some v ∧ s.num i = k ∧ v.n.toNat = k ∧ st[k - 1]? = some v.st ∧ (v.st ≠ 2 → data[k - 1]? = some v.data) := by
  have hp := of_decide_eq_true hin
  have hlen := h.len
  have hn := h.n1
  have hi : k - (data.length - s.l.length) - 1 < s.l.length := by omega
  obtain ⟨v, hv⟩ : ∃ v, s.l[k - (data.length - s.l.length) - 1]? = some v := ⟨_, List.getElem?_eq_getElem hi⟩
  have hnum : s.num (k - (data.length - s.l.length) - 1) = k := by
    unfold Sec.num
    rw [h.last]; omega
  have hvn := (((Sec.may_iff _).1 h.may).2 _ v hv).2
  obtain ⟨h1, h2⟩ := h.ver _ v hv
  rw [hnum] at h1 h2
  exact ⟨_, v, by rw [h.place hp.1, if_pos hin], hv, hnum, by rw [hvn, hnum], h1, h2⟩
theorem Kp.get_no (h : Kp n s data st) {k : Nat} (hk : 1 ≤ k) (x : Int) (hx : st[k - 1]? = some x) (hno : ¬ (inW n data.length k = true ∧ x = 0)) : ∃ e, s.get k = (Ver.zero, some e) := by
  by_cases hin : inW n data.length k = true
  · obtain ⟨i, v, h1, h2, h3, _, h4, h5⟩ := h.at hin
    have hst : v.st = x := Option.some.inj (h4.symm.trans hx)
    refine ⟨21, ?_⟩
    unfold Sec.get
    rw [h1]
    simp only [h2]
    rw [if_neg (fun e => hno ⟨hin, by omega⟩)]
  · refine ⟨5, ?_⟩
    unfold Sec.get
    rw [h.place hk, if_neg hin]
theorem Kp.get_yes (h : Kp n s data st) {k : Nat} (hin : inW n data.length k = true) (hx : st[k - 1]? = some 0) : ∃ v, s.get k = (v, none) ∧ data[k - 1]? = some v.data ∧ v.n.toNat = k := by
  obtain ⟨i, v, h1, h2, h3, hvn, h4, h5⟩ := h.at hin
  have hst : v.st = 0 := Option.some.inj (h4.symm.trans hx)
  refine ⟨v, ?_, h5 (by omega), hvn⟩
  unfold Sec.get
  rw [h1]
  simp only [h2]
  rw [if_pos hst]
theorem Kp.set_out (h : Kp n s data st) {k : Nat} (hk : 1 ≤ k) (hno : inW n data.length k = false) (t : Int) : s.setSt k t = (Sec.zero, some 5) := by
  unfold Sec.setSt
  rw [h.place hk, if_neg (by simp [hno])]
theorem Kp.set_gone (h : Kp n s data st) {k : Nat} (hin : inW n data.length k = true) (hx : st[k - 1]? = some 2) {t : Int} (ht : t ≠ 2) : s.setSt k t = (Sec.zero, some 21) := by
  obtain ⟨i, v, h1, h2, h3, _, h4, h5⟩ := h.at hin
  have hst : v.st = 2 := Option.some.inj (h4.symm.trans hx)
  unfold Sec.setSt
  rw [h1]
  simp only [h2]
  rw [if_pos ⟨hst, ht⟩]
theorem Kp.set_ok (h : Kp n s data st) {k : Nat} (hin : inW n data.length k = true) {x : Int} (hx : st[k - 1]? = some x) {t : Int} (ht : t = 0 ∨ t = 1 ∨ t = 2) (hxt : x ≠ 2 ∨ t = 2) : ∃ s', s.setSt k t = (s', none) ∧ Kp n s' data (st.set (k - 1) t) := by
  obtain ⟨i, v, h1, h2, h3, hvn, h4, h5⟩ := h.at hin
  have hst : v.st = x := Option.some.inj (h4.symm.trans hx)
  have hp := of_decide_eq_true hin
  have hil := lt_of_getElem? h2
  refine ⟨⟨s.l.set i (if t = 2 then ⟨v.n, [], v.at_, 2⟩ else ⟨v.n, v.data, v.at_, t⟩), s.last, s.mx⟩, ?_, ?_, h.mx, h.last, by simpa using h.len, by simpa using h.stl, fun j y hj hy => ?_, fun j y hy => ?_, fun j u hu => ?_⟩
  · unfold Sec.setSt
    rw [h1]
    simp only [h2]
    rw [if_neg (by omega)]
  · obtain ⟨q1, q2⟩ := (Sec.may_iff s).1 h.may
    rw [Sec.may_iff]
    refine ⟨by simpa [Sec.head] using q1, fun j u hu => ?_⟩
    rw [List.getElem?_set] at hu
    split at hu
    · rename_i hij
      subst hij
      obtain rfl := Option.some.inj hu
      obtain ⟨r1, r2⟩ := q2 i v h2
      refine ⟨?_, ?_⟩
      · split
        · simp [Ver.may]
        · rename_i hne
          have r1' := of_decide_eq_true r1
          simp only [Ver.may, decide_eq_true_eq]
          omega
      · have : (if t = 2 then (⟨v.n, [], v.at_, 2⟩ : Ver) else ⟨v.n, v.data, v.at_, t⟩).n = v.n := by split <;> rfl
        rw [this, r2]
        simp [Sec.num]
    · obtain ⟨r1, r2⟩ := q2 j u hu
      exact ⟨r1, by rw [r2]; simp [Sec.num]⟩
  · rw [List.getElem?_set] at hy
    split at hy
    · omega
    · exact h.fresh j y hj hy
  · rw [List.getElem?_set] at hy
    split at hy
    · split at hy
      · obtain rfl := Option.some.inj hy
        exact ht
      · cases hy
    · exact h.st3 j y hy
  · have hnumj : (⟨s.l.set i (if t = 2 then ⟨v.n, [], v.at_, 2⟩ else ⟨v.n, v.data, v.at_, t⟩), s.last, s.mx⟩ : Sec).num j = s.num j := by simp [Sec.num]
    rw [hnumj]
    rw [List.getElem?_set] at hu
    split at hu
    · rename_i hij
      subst hij
      obtain rfl := Option.some.inj hu
      rw [h3, List.getElem?_set, if_pos rfl, if_pos (lt_of_getElem? hx)]
      refine ⟨by split <;> simp_all, fun hne => ?_⟩
      split at hne
      · exact absurd rfl hne
      · rename_i ht2
        rw [if_neg ht2]
        exact h5 (by omega)
    · rename_i hij
      obtain ⟨r1, r2⟩ := h.ver j u hu
      have hjl := lt_of_getElem? hu
      have hne : k - 1 ≠ s.num j - 1 := by
        have hlast := h.last
        have hlen := h.len
        unfold Sec.num at h3 ⊢
        omega
      rw [List.getElem?_set, if_neg hne]
      exact ⟨r1, r2⟩
end
end Go.Proofs.YtpdjahejcdmopaaDoor
