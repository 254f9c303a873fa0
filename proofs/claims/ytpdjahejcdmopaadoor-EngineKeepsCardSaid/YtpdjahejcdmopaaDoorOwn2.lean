/- Own rows, further: append in place (slices.Delete), clear, cuts; steps of regions that draw. -/
import Derived.Test.YtpdjahejcdmopaaDoorBase
import Derived.Deep.RegionLaw
import Derived.Deep.RegionHeld3
namespace Go.Proofs.YtpdjahejcdmopaaDoor
open Go.RowKit
set_option linter.unusedVariables false

theorem step_of_wp {P : Program} {ops : Array Oper} {o : Oper} {a : Act} {w : World} {K : Act → World → Prop} {Q : Exit → Act → World → Prop} {E : Prop} (hgd : o.guard = none) (h : o.wp P a w K Q) :
    if Region.wanted o (yielded ops a.tmps) = true then Oper.wp P o a w K Q else E := by
  rw [if_pos (by simp [Region.wanted, hgd])]; exact h

theorem Reps.drop {α : Type} {d : Rep α} {ok : Nat → Prop} {w : World} {xs : List α} {cs : List Value} (h : Reps d ok w xs cs) (m : Nat) : Reps d ok w (xs.drop m) (cs.drop (m * d.sz)) := by
  refine ⟨by rw [List.length_drop, List.length_drop, h.1, Nat.sub_mul], fun j x hx => ?_⟩
  rw [List.getElem?_drop] at hx
  have := h.2 (m + j) x hx
  rw [List.drop_drop, ← Nat.add_mul]
  exact this
theorem Reps.take {α : Type} {d : Rep α} {ok : Nat → Prop} {w : World} {xs : List α} {cs : List Value} (h : Reps d ok w xs cs) (m : Nat) : Reps d ok w (xs.take m) (cs.take (m * d.sz)) := by
  refine ⟨?_, fun j x hx => ?_⟩
  · rw [List.length_take, List.length_take, h.1]
    rcases Nat.le_total m xs.length with h1 | h1
    · rw [Nat.min_eq_left h1, Nat.min_eq_left (Nat.mul_le_mul_right _ h1)]
    · rw [Nat.min_eq_right h1, Nat.min_eq_right (Nat.mul_le_mul_right _ h1)]
  · rw [List.getElem?_take] at hx
    split at hx
    · rename_i hj
      have h1 := h.2 j x hx
      have h2 : j * d.sz + d.sz ≤ m * d.sz := by rw [← Nat.succ_mul]; exact Nat.mul_le_mul_right _ hj
      rw [List.drop_take, List.take_take, Nat.min_eq_left (by omega)]
      exact h1
    · cases hx
/-- s[m:] without a case on the capacity. -/
theorem cut_run {P : Program} (t e : TypeId) (kl : IntKind) {i : TypeInfo} (sz : Nat) (ht : P.underlying t = some (.slice e)) (hi : P.info? e = some i) (hsz : i.size = sz) (A : Option Addr) (n c m : Nat) (hm : m ≤ n) (W : World) :
    (Instr.slice t (.slice A n c) (some (.int kl (m : Int))) none none).run P W = .ok (.slice (cutA A c m sz) (n - m) (c - m)) W := by
  have hel : P.elem t = e := by simp [Program.elem, ht]
  have hu : P.underlying t = some (.slice (P.elem t)) := by rw [hel]; exact ht
  rw [run_slice_l W t A n c hu kl (m : Int) (Int.natCast_nonneg _) (by omega), hel]
  simp [sizeOf, typeInfo, hi, hsz, sliced, Result.andThen, cutA]

/-- The cells that an own row has from an element on. -/
theorem Own.src {ok : Nat → Prop} {w : World} {e sz g n c : Nat} {xs : List Value} (hsz : 0 < sz) (h : Own ok w e sz (.slice (some ⟨g, 0, none⟩) n c) n xs) (h1 : ∀ u ∈ xs, u.oneCell' = true) (m : Nat) (hm : m ≤ n) (c' : Nat) :
    (xs.drop (m * sz)).length = (n - m) * sz ∧ ∃ ad, cutA (some ⟨g, 0, none⟩) c m sz = some ad ∧ ∀ j u, (xs.drop (m * sz))[j]? = some u → w.cell? (ad.add j) = some u := by
  obtain ⟨_, _, h5, h6, h7⟩ := h.form
  cases h5
  refine ⟨by rw [List.length_drop, h.1, Nat.sub_mul], ?_⟩
  unfold cutA
  split
  · rename_i hcm
    subst hcm
    have : n = c := by omega
    subst this
    exact ⟨_, rfl, fun j u hu => by rw [List.getElem?_drop, List.getElem?_eq_none (by rw [h.1]; omega)] at hu; cases hu⟩
  · refine ⟨_, rfl, fun j u hu => ?_⟩
    rw [List.getElem?_drop] at hu
    obtain ⟨b, hb, _, hc, _⟩ := h.cell _ u hu
    injection hb with hb
    injection hb with hb
    subst hb
    have e : ((⟨g, 0, none⟩ : Addr).add (m * sz)).add j = ⟨g, m * sz + j, none⟩ := by
      unfold Addr.add
      by_cases h1 : m * sz = 0 <;> by_cases h2 : j = 0 <;> simp [h1, h2]
    rw [e]; exact hc

section
variable {P : Program}
/-- append(s[:i], s[j:]...) in place, s an own row. -/
theorem run_close (t ty e : TypeId) (inf : TypeInfo) (sz : Nat) (hsz : 0 < sz) (ht : P.underlying t = some (.slice e)) (hi : P.info? e = some inf) (hs : inf.size = sz) (ok : Nat → Prop) (w : World) (g n c i j : Nat) (xs : List Value)
    (h : Own ok w e sz (.slice (some ⟨g, 0, none⟩) n c) n xs) (h1 : ∀ u ∈ xs, u.oneCell' = true) (hij : i ≤ j) (hj : j ≤ n) (hn : 0 < n) (x : Value) (hx : x = .slice (cutA (some ⟨g, 0, none⟩) c j sz) (n - j) (c - j)) :
    ∃ w' cur, (Builtin.append_ #[t, t] ty #[.slice (some ⟨g, 0, none⟩) i c, x]).run P w = .ok (.slice (some ⟨g, 0, none⟩) (i + (n - j)) c) w' ∧ ok g ∧ 0 < c ∧ c ≤ maxLen ∧ n ≤ c ∧ w'.heap[g]? = some (.cells cur e (0, 0)) ∧ w.grownBy w' (some g) ∧ w'.heap.size = w.heap.size ∧
      cur.size = c * sz ∧ cur.toList.take ((i + (n - j)) * sz) = xs.take (i * sz) ++ xs.drop (j * sz) := by
  subst hx
  obtain ⟨q1, ad, q2, q3⟩ := h.src hsz h1 j hj (c - j)
  rcases h.2 with ⟨rfl, _⟩ | ⟨g', cap, cur, hv, hc0, hg, hh, r1, r2, r3, r4⟩
  · omega
  · injection hv with hA _ hc
    injection hA with hA
    injection hA with hA _ _
    subst hA; subst hc; subst hs
    have hnl : (xs.drop (j * inf.size)).length = (n - j) * inf.size := q1
    have hin : i * inf.size ≤ n * inf.size := Nat.mul_le_mul_right _ (by omega)
    have hjn : (n - j) * inf.size ≤ n * inf.size := Nat.mul_le_mul_right _ (by omega)
    have hij2 : i * inf.size + (n - j) * inf.size = (i + (n - j)) * inf.size := by rw [Nat.add_mul]
    have hle : (i + (n - j)) * inf.size ≤ c * inf.size := Nat.mul_le_mul_right _ (by omega)
    have hr := run_append_room (P := P) w t ty e inf ht hi g i c cur hh ad (n - j) (c - j) (xs.drop (j * inf.size)) hnl q3 (fun u hu => h1 u (List.mem_of_mem_drop hu)) (by omega) (by rw [hnl, r3]; omega)
    rw [q2]
    have hxl : (xs.take (i * inf.size)) = cur.toList.take (i * inf.size) := by rw [← r4, List.take_take, Nat.min_eq_left hin]
    refine ⟨_, _, hr, hg, hc0, r2, r1, setRow_heap w g cur _ e _ hh, ⟨rfl, rfl, rfl, by simp, fun k hk hk' => setRow_other w g k _ (fun e => hk' (by rw [e]))⟩, by simp, ?_, ?_⟩
    · simp only [List.size_toArray, List.length_append, List.length_take, List.length_drop, Array.length_toList] at *
      omega
    · rw [hxl, ← hij2, ← hnl]
      have e1 : (cur.toList.take (i * inf.size)).length = i * inf.size := by rw [List.length_take, Array.length_toList, r3]; omega
      have e2 : i * inf.size + (xs.drop (j * inf.size)).length = (cur.toList.take (i * inf.size) ++ xs.drop (j * inf.size)).length := by rw [List.length_append, e1]
      rw [e2]
      exact List.take_left
/-- clear of the cells behind. -/
theorem run_clear_row (t ty e : TypeId) (inf : TypeInfo) (z : Value) (sz : Nat) (ht : P.underlying t = some (.slice e)) (hi : P.info? e = some inf) (hz : inf.zero = some z) (hzs : z.cells.size = sz) (h1 : ∀ u ∈ z.cells.toList, u.oneCell' = true)
    (w : World) (g o n c : Nat) (cur : Array Value) (hh : w.heap[g]? = some (.cells cur e (0, 0))) (hfit : o + n * sz ≤ cur.size) :
    ∃ w' cur', (Builtin.clear_ #[t] ty #[.slice (some ⟨g, o, none⟩) n c]).run P w = .ok (.tuple #[]) w' ∧ w'.heap[g]? = some (.cells cur' e (0, 0)) ∧ w.grownBy w' (some g) ∧ w'.heap.size = w.heap.size ∧ cur'.size = cur.size ∧ cur'.toList.take o = cur.toList.take o := by
  by_cases hn : n = 0
  · subst hn
    exact ⟨w, cur, by simp [Builtin.clear_, run_underlying ht], hh, World.grownBy.refl w _, rfl, rfl, rfl⟩
  · have hst := run_storeCells_at P g o e (Builtin.zeroCells z.cells n).toList 0 cur w hh (by simp [size_zeroCells, hzs]; omega) (by
      intro u hu
      rw [Array.mem_toList_iff] at hu
      simp only [Builtin.zeroCells, Array.mem_map, Array.mem_range] at hu
      obtain ⟨k, hk, rfl⟩ := hu
      have hp : 0 < z.cells.size := by
        rcases Nat.eq_zero_or_pos z.cells.size with h0 | h0
        · rw [h0] at hk; omega
        · exact h0
      rw [getElem!_pos z.cells (k % z.cells.size) (Nat.mod_lt _ hp)]
      exact h1 _ (by simp))
    simp only [Nat.add_zero] at hst
    obtain ⟨cs, hcs⟩ : ∃ cs, cs = (cur.toList.take o ++ (Builtin.zeroCells z.cells n).toList ++ cur.toList.drop (o + (Builtin.zeroCells z.cells n).toList.length)).toArray := ⟨_, rfl⟩
    rw [← hcs] at hst
    refine ⟨w.setRow g cs, cs, ?_, setRow_heap w g cur _ e _ hh, ⟨rfl, rfl, rfl, by simp, fun k hk hk' => setRow_other w g k _ (fun e => hk' (by rw [e]))⟩, by simp, ?_, ?_⟩
    · have hn' : ∃ m, n = m + 1 := ⟨n - 1, by omega⟩
      obtain ⟨m, rfl⟩ := hn'
      simp [Builtin.clear_, run_underlying ht, zeroValue, typeInfo, hi, hz, hst]
    · rw [hcs]; simp [size_zeroCells, hzs]; omega
    · rw [hcs]
      have e1 : (cur.toList.take o).length = o := by rw [List.length_take, Array.length_toList]; omega
      simp only [List.append_assoc]
      rw [List.take_append_of_le_length (by omega), List.take_take, Nat.min_self]
/-- append(s[:i], s[j:]...) in place, a step of a region that draws. -/
theorem step_close {ops : Array Oper} {o : Oper} {a : Act} {K : Act → World → Prop} {Q : Exit → Act → World → Prop} {E : Prop} (w : World) (hgd : o.guard = none) (s x : Operand) (t : TypeId)
    (ho : o.op = .call { callee := .builtin .append, args := #[s, x], argTypes := #[t, t] })
    (e : TypeId) (inf : TypeInfo) (sz : Nat) (hsz : 0 < sz) (ht : P.underlying t = some (.slice e)) (hi : P.info? e = some inf) (hs' : inf.size = sz) (ok : Nat → Prop) (g n c i j : Nat) (xs : List Value)
    (hs : a.eval s = .slice (some ⟨g, 0, none⟩) i c) (hx : a.eval x = .slice (cutA (some ⟨g, 0, none⟩) c j sz) (n - j) (c - j))
    (hown : Own ok w e sz (.slice (some ⟨g, 0, none⟩) n c) n xs) (h1 : ∀ u ∈ xs, u.oneCell' = true) (hij : i ≤ j) (hj : j ≤ n) (hn : 0 < n)
    (h : ∀ w' cur, w'.heap[g]? = some (.cells cur e (0, 0)) → w.grownBy w' (some g) → w'.heap.size = w.heap.size → cur.size = c * sz → cur.toList.take ((i + (n - j)) * sz) = xs.take (i * sz) ++ xs.drop (j * sz) → K (a.put o.dst (.slice (some ⟨g, 0, none⟩) (i + (n - j)) c)) w') :
    if Region.wanted o (yielded ops a.tmps) = true then Oper.wp P o a w K Q else E := by
  obtain ⟨w', cur, hr, _, _, _, _, h2, h3, h4, h5, h6⟩ := run_close (P := P) t o.type e inf sz hsz ht hi hs' ok w g n c i j xs hown h1 hij hj hn _ rfl
  refine step_of_wp hgd ?_
  unfold Oper.wp execOp
  simp only [ho, resolve, invoke, builtin, Sem.run_bind, Sem.run_pure, Result.andThen_ok, List.map_toArray, List.map_cons, List.map_nil, hs, hx, hr]
  exact h w' cur h2 h3 h4 h5 h6
theorem wpList_clear {ops : Array Oper} {rest : List Oper} {o : Oper} {a : Act} {Q : Exit → Act → World → Prop} (w : World) (hgd : o.guard = none) (s : Operand) (t : TypeId)
    (ho : o.op = .call { callee := .builtin .clear, args := #[s], argTypes := #[t] }) (hdst : o.dst = none)
    (e : TypeId) (inf : TypeInfo) (z : Value) (sz : Nat) (ht : P.underlying t = some (.slice e)) (hi : P.info? e = some inf) (hz : inf.zero = some z) (hzs : z.cells.size = sz) (h1 : ∀ u ∈ z.cells.toList, u.oneCell' = true)
    (g off n c : Nat) (cur : Array Value) (hs : a.eval s = .slice (some ⟨g, off, none⟩) n c) (hh : w.heap[g]? = some (.cells cur e (0, 0))) (hfit : off + n * sz ≤ cur.size)
    (h : ∀ w' cur', w'.heap[g]? = some (.cells cur' e (0, 0)) → w.grownBy w' (some g) → w'.heap.size = w.heap.size → cur'.size = cur.size → cur'.toList.take off = cur.toList.take off → wpList P ops Q rest a w') : wpList P ops Q (o :: rest) a w := by
  obtain ⟨w', cur', hr, h2, h3, h4, h5, h6⟩ := run_clear_row (P := P) t o.type e inf z sz ht hi hz hzs h1 w g off n c cur hh hfit
  refine wpList_plain hgd fun K hK => ?_
  unfold Oper.wp execOp
  simp only [ho, resolve, invoke, builtin, Sem.run_bind, Sem.run_pure, Result.andThen_ok, List.map_toArray, List.map_cons, List.map_nil, hs, hr]
  have hp : a.put o.dst (.tuple #[]) = a := by rw [hdst]; rfl
  exact hK _ _ (by rw [hp]; exact h w' cur' h2 h3 h4 h5 h6)
end
end Go.Proofs.YtpdjahejcdmopaaDoor
