/- What comes in: a value that can be read as data is of its kind (Rep), and no longer than the reach. -/
import Derived.Test.YtpdjahejcdmopaaDoorBase
import Derived.Test.YtpdjahejcdmopaaDoorNum
import Derived.ChangeArms
import Derived.OpenShut
import Derived.SizedLaws
import Derived.ChangeSame
import Derived.Deep.MidRow
namespace Go.Proofs.YtpdjahejcdmopaaDoor
open Go.RowKit Go.ChangeShapes Go.WideShapes
set_option linter.unusedVariables false
section
variable {P : Program}
def Opens (P : Program) (t : TypeId) {α : Type} (d : Rep α) (F : α → Prop) : Prop :=
  ∀ {H : Type} (enc : TypeId × Value → H) (w : World) (n : Nat) (cs : List Value) (x : DataW H × List MemPlace), DataW.trod enc P w 0 (fun _ => true) true n t cs = some x →
    ∃ a, d.K (fun _ => True) w a cs ∧ ((∀ n ∈ x.1.weights P t, n ≤ 140737488351232) → F a)
theorem wf_range {k : IntKind} {n : Int} (h : (Lit.int k n).wf = true) : k.min ≤ n ∧ n ≤ k.max := by
  simpa [Lit.wf] using h
theorem min_u8 : IntKind.u8.min = 0 := by decide
theorem max_u8 : IntKind.u8.max = 255 := by decide
theorem min_u32 : IntKind.u32.min = 0 := by decide
theorem max_u32 : IntKind.u32.max = 4294967295 := by decide
theorem min_u64 : IntKind.u64.min = 0 := by decide
theorem max_u64 : IntKind.u64.max = 18446744073709551615 := by decide
theorem min_u16 : IntKind.u16.min = 0 := by decide
theorem max_u16 : IntKind.u16.max = 65535 := by decide
theorem min_i64 : IntKind.i64.min = -9223372036854775808 := by decide
theorem max_i64 : IntKind.i64.max = 9223372036854775807 := by decide
theorem of_u8 {m : Int} (hw : (Lit.int .u8 m).wf = true) : ∃ a : UInt8, m = (a.toNat : Int) := by
  have hr := wf_range hw
  rw [min_u8, max_u8] at hr
  refine ⟨UInt8.ofNat m.toNat, ?_⟩
  rw [UInt8.toNat_ofNat', Nat.mod_eq_of_lt (by omega)]
  omega
theorem of_u32 {m : Int} (hw : (Lit.int .u32 m).wf = true) : ∃ a : UInt32, m = (a.toNat : Int) := by
  have hr := wf_range hw
  rw [min_u32, max_u32] at hr
  refine ⟨UInt32.ofNat m.toNat, ?_⟩
  rw [UInt32.toNat_ofNat', Nat.mod_eq_of_lt (by omega)]
  omega
theorem of_u64 {m : Int} (hw : (Lit.int .u64 m).wf = true) : ∃ a : UInt64, m = (a.toNat : Int) := by
  have hr := wf_range hw
  rw [min_u64, max_u64] at hr
  refine ⟨UInt64.ofNat m.toNat, ?_⟩
  rw [UInt64.toNat_ofNat', Nat.mod_eq_of_lt (by omega)]
  omega
theorem of_i64 {m : Int} (hw : (Lit.int .i64 m).wf = true) : I64 m := by
  have hr := wf_range hw
  rw [min_i64, max_i64] at hr
  exact hr
theorem Opens.u8 {t : TypeId} (ht : P.underlying t = some (.int .u8)) : Opens P t u8 (fun _ => True) := by
  intro H enc w n cs x h
  obtain ⟨m, rfl, rfl, hw⟩ := DataW.trod_int ht h
  obtain ⟨a, rfl⟩ := of_u8 hw
  exact ⟨a, ⟨rfl, trivial⟩, fun _ => trivial⟩
theorem Opens.u32 {t : TypeId} (ht : P.underlying t = some (.int .u32)) : Opens P t u32 (fun _ => True) := by
  intro H enc w n cs x h
  obtain ⟨m, rfl, rfl, hw⟩ := DataW.trod_int ht h
  obtain ⟨a, rfl⟩ := of_u32 hw
  exact ⟨a, ⟨rfl, trivial⟩, fun _ => trivial⟩
theorem Opens.u64 {t : TypeId} (ht : P.underlying t = some (.int .u64)) : Opens P t u64 (fun _ => True) := by
  intro H enc w n cs x h
  obtain ⟨m, rfl, rfl, hw⟩ := DataW.trod_int ht h
  obtain ⟨a, rfl⟩ := of_u64 hw
  exact ⟨a, ⟨rfl, trivial⟩, fun _ => trivial⟩
theorem Opens.i64 {t : TypeId} (ht : P.underlying t = some (.int .i64)) : Opens P t i64 (fun _ => True) := by
  intro H enc w n cs x h
  obtain ⟨m, rfl, rfl, hw⟩ := DataW.trod_int ht h
  exact ⟨m, ⟨rfl, of_i64 hw⟩, fun _ => trivial⟩
theorem Opens.bool {t : TypeId} (ht : P.underlying t = some .bool) : Opens P t boolK (fun _ => True) := by
  intro H enc w n cs x h
  obtain ⟨m, rfl, rfl⟩ := DataW.trod_bool ht h
  exact ⟨m, ⟨rfl, trivial⟩, fun _ => trivial⟩
theorem list_of {α : Type} {R : Nat → α → Prop} : ∀ (n : Nat), (∀ i, i < n → ∃ x, R i x) → ∃ xs : List α, xs.length = n ∧ ∀ i x, xs[i]? = some x → R i x
  | 0, _ => ⟨[], rfl, fun i x h => (by cases h)⟩
  | n + 1, h => by
    obtain ⟨xs, hl, hx⟩ := list_of n fun i hi => h i (by omega)
    obtain ⟨y, hy⟩ := h n (by omega)
    refine ⟨xs ++ [y], by simp [hl], fun i x hi => ?_⟩
    rw [List.getElem?_append] at hi
    split at hi
    · exact hx i x hi
    · rename_i hlt
      have h0 : i = n := by
        have := lt_of_getElem? hi
        simp at this
        omega
      subst h0
      rw [hl, Nat.sub_self] at hi
      obtain rfl := Option.some.inj hi
      exact hy
theorem cells_at {w : World} {a : Addr} {n : Nat} {cs : List Value} (h : w.cells? 0 a n = some cs) : cs.length = n ∧ ∀ i u, cs[i]? = some u → w.cell? (a.add i) = some u := by
  unfold World.cells? at h
  rw [if_pos (Nat.zero_le _)] at h
  have hl := mapM_some_length h
  simp at hl
  refine ⟨hl, fun i u hu => ?_⟩
  have hi := lt_of_getElem? hu
  rw [mapM_some_get h i i (List.getElem?_range (by omega))]
  exact hu
theorem weightsAll_mem {H : Type} {P : Program} {e : TypeId} {d : DataW H} : ∀ {ds : List (DataW H)}, d ∈ ds → ∀ n ∈ d.weights P e, n ∈ DataW.weightsAll P e ds
  | [], h, _, _ => by simp at h
  | y :: ys, h, n, hn => by
    rw [DataW.weightsAll, List.mem_append]
    rcases List.mem_cons.1 h with rfl | h
    · exact .inl hn
    · exact .inr (weightsAll_mem h n hn)
theorem Opens.slice {t e : TypeId} {α : Type} {d : Rep α} {F : α → Prop} {B : Nat} (ht : P.underlying t = some (.slice e)) (hsz : P.cellsOf e = d.sz) (hB : P.bytesOf e = B) (he : Opens P e d F) :
    Opens P t d.slice (fun xs => xs.length * B ≤ 140737488351232 ∧ ∀ x ∈ xs, F x) := by
  intro H enc w n cs x h
  rcases DataW.trod_slice ht h with ⟨rfl, rfl⟩ | ⟨a, len, cap, elems, rest, m, rfl, rfl, rfl, hb, hl, hc, hel, hget, _, _⟩
  · exact ⟨[], ⟨none, 0, rfl, Nat.le_refl _, by simp [maxCap], Rd.nil _ _ _ _⟩, fun _ => ⟨by simp, by simp⟩⟩
  · have hz := d.pos
    obtain ⟨xs, hxl, hxs⟩ := list_of (R := fun i (x : α) => ∃ cs y, elems[i]? = some y ∧ w.cells? 0 (a.add (i * d.sz)) d.sz = some cs ∧ d.K (fun _ => True) w x cs ∧ ((∀ n ∈ y.1.weights P e, n ≤ 140737488351232) → F x)) len (by
      intro i hi
      have h1 := hget i hi
      obtain ⟨y, hy⟩ : ∃ y, elems[i]? = some y := ⟨_, List.getElem?_eq_getElem (by omega)⟩
      rw [hy] at h1
      obtain ⟨cs, h2, h3⟩ := Option.bind_eq_some_iff.1 h1
      obtain ⟨x, h4, h5⟩ := he enc w m cs y h3
      rw [hsz] at h2
      exact ⟨x, cs, y, hy, h2, h4, h5⟩)
    refine ⟨xs, ⟨some a, cap, by rw [hxl], by omega, hc, fun j x hx => ?_⟩, fun hw => ⟨?_, fun x hx => ?_⟩⟩
    · obtain ⟨cs, y, _, h2, h3, _⟩ := hxs j x hx
      obtain ⟨hcl, hcu⟩ := cells_at h2
      have hspot : a.spot = none ∨ a.add (j * d.sz) ≠ a := by
        by_cases h0 : j * d.sz = 0
        · left
          have h1 := hcu 0 _ (List.getElem?_eq_getElem (show 0 < cs.length by omega))
          rw [h0] at h1
          have e : (a.add 0).add 0 = a := by simp [Addr.add]
          rw [e] at h1
          unfold World.cell? at h1
          split at h1
          · split at h1
            · cases h1
            · rename_i hs; simpa using hs
          · cases h1
        · right
          intro e
          have := congrArg Addr.off e
          simp [Addr.add, h0] at this
          try omega
      have hsp : a.spot = none := by
        rcases Nat.eq_zero_or_pos j with h0 | h0
        · subst h0
          rcases hspot with h | h
          · exact h
          · exact absurd (by simp [Addr.add]) h
        · obtain ⟨x0, hx0⟩ : ∃ x0, xs[0]? = some x0 := ⟨_, List.getElem?_eq_getElem (by have := lt_of_getElem? hx; omega)⟩
          obtain ⟨cs0, y0, _, g2, _, _⟩ := hxs 0 x0 hx0
          obtain ⟨gl, gu⟩ := cells_at g2
          have h1 := gu 0 _ (List.getElem?_eq_getElem (show 0 < cs0.length by omega))
          have e : (a.add (0 * d.sz)).add 0 = a := by simp [Addr.add]
          rw [e] at h1
          unfold World.cell? at h1
          split at h1
          · split at h1
            · cases h1
            · rename_i hs; simpa using hs
          · cases h1
      obtain ⟨b, o, sp⟩ := a
      simp only at hsp
      subst hsp
      refine ⟨b, o, cs, rfl, trivial, h3, fun i u hu => ?_⟩
      have h1 := hcu i u hu
      have e1 : ((⟨b, o, none⟩ : Addr).add (j * d.sz)).add i = ⟨b, o + j * d.sz + i, none⟩ := by
        rw [Addr.add_mid, Addr.add_mid]
      rw [e1] at h1
      exact h1
    · have := hw _ (by rw [DataW.weights, ht]; exact List.mem_cons_self)
      rw [hB, List.length_map, List.length_map, hel] at this
      rw [hxl]
      exact Nat.le_trans (Nat.mul_le_mul_right _ (by omega)) this
    · obtain ⟨j, hj⟩ := List.getElem?_of_mem hx
      obtain ⟨cs, y, h1, _, _, h4⟩ := hxs j x hj
      refine h4 fun n hn => hw n ?_
      rw [DataW.weights, ht]
      refine List.mem_cons_of_mem _ (List.mem_append_left _ (weightsAll_mem (d := y.1) ?_ n hn))
      exact List.mem_map_of_mem (List.mem_of_getElem? h1)
/-- A struct's parts. -/
theorem trod_parts {H : Type} {enc : TypeId × Value → H} {w : World} {n : Nat} {t : TypeId} {fs : Array Field} {cs : List Value} {x : DataW H × List MemPlace} (ht : P.underlying t = some (.struct fs)) (h : DataW.trod enc P w 0 (fun _ => true) true n t cs = some x) :
    cs.length = P.cellsOf t ∧ ∀ (i : Nat) (f : Field), fs[i]? = some f → ∃ m y, DataW.trod enc P w 0 (fun _ => true) true m f.type ((cs.drop f.offset).take (P.cellsOf f.type)) = some y ∧ ∀ k ∈ y.1.weights P f.type, k ∈ x.1.weights P t := by
  obtain ⟨xs, m, rfl, rfl, hl, hxl, hget⟩ := DataW.trod_struct ht h
  refine ⟨hl, fun i f hf => ?_⟩
  have hi : i < fs.size := by
    rcases Nat.lt_or_ge i fs.size with h' | h'
    · exact h'
    · rw [Array.getElem?_eq_none h'] at hf; cases hf
  obtain ⟨y, hy⟩ : ∃ y, xs[i]? = some y := ⟨_, List.getElem?_eq_getElem (by omega)⟩
  refine ⟨m, y, (hget i f hf).trans hy, fun k hk => ?_⟩
  rw [DataW.weights, ht]
  refine DataW.weights_mem_each (j := i) (t := f.type) (d := y.1) ?_ ?_ k hk
  · rw [List.getElem?_map, Array.getElem?_toList, hf]; rfl
  · rw [List.getElem?_map, hy]; rfl
theorem trod_field {H : Type} {enc : TypeId × Value → H} {w : World} {n : Nat} {t : TypeId} {fs : Array Field} {cs : List Value} {x : DataW H × List MemPlace} (ht : P.underlying t = some (.struct fs)) (h : DataW.trod enc P w 0 (fun _ => true) true n t cs = some x)
    (i : Nat) (ty : TypeId) (off sz : Nat) (hf : (fs[i]?).map (fun f => (f.type, f.offset)) = some (ty, off)) (hs : P.cellsOf ty = sz) : ∃ m y, DataW.trod enc P w 0 (fun _ => true) true m ty ((cs.drop off).take sz) = some y ∧ ∀ k ∈ y.1.weights P ty, k ∈ x.1.weights P t := by
  obtain ⟨f, h1, h2⟩ := Option.map_eq_some_iff.1 hf
  simp only [Prod.mk.injEq] at h2
  obtain ⟨rfl, rfl⟩ := h2
  subst hs
  exact (trod_parts ht h).2 i f h1
theorem trod_len {H : Type} {enc : TypeId × Value → H} {w : World} {n : Nat} {t : TypeId} {fs : Array Field} {cs : List Value} {x : DataW H × List MemPlace} (ht : P.underlying t = some (.struct fs)) (h : DataW.trod enc P w 0 (fun _ => true) true n t cs = some x) (k : Nat) (hk : P.cellsOf t = k) : cs.length = k := hk ▸ (trod_parts ht h).1
theorem list2 {cs : List Value} (h : cs.length = 2) : ∃ a b, cs = [a, b] := by
  match cs, h with
  | [a, b], _ => exact ⟨a, b, rfl⟩
theorem list3 {cs : List Value} (h : cs.length = 3) : ∃ a b c, cs = [a, b, c] := by
  match cs, h with
  | [a, b, c], _ => exact ⟨a, b, c, rfl⟩
theorem list4 {cs : List Value} (h : cs.length = 4) : ∃ a b c d, cs = [a, b, c, d] := by
  match cs, h with
  | [a, b, c, d], _ => exact ⟨a, b, c, d, rfl⟩
theorem Opens.array {t e : TypeId} {α : Type} {d : Rep α} {F : α → Prop} {N : Nat} (ht : P.underlying t = some (.array N e)) (hsz : P.cellsOf e = d.sz) (hc : P.cellsOf t = N * d.sz) (he : Opens P e d F) {H : Type} {enc : TypeId × Value → H} {w : World} {n : Nat} {cs : List Value} {x : DataW H × List MemPlace}
    (h : DataW.trod enc P w 0 (fun _ => true) true n t cs = some x) : ∃ xs : List α, xs.length = N ∧ Reps d (fun _ => True) w xs cs ∧ ((∀ n ∈ x.1.weights P t, n ≤ 140737488351232) → ∀ x ∈ xs, F x) := by
  obtain ⟨ys, m, rfl, rfl, hl, hyl, hget⟩ := DataW.trod_array ht h
  obtain ⟨xs, hxl, hxs⟩ := list_of (R := fun i (x : α) => ∃ y, ys[i]? = some y ∧ d.K (fun _ => True) w x ((cs.drop (i * d.sz)).take d.sz) ∧ ((∀ n ∈ y.1.weights P e, n ≤ 140737488351232) → F x)) N (by
    intro i hi
    have h1 := hget i hi
    obtain ⟨y, hy⟩ : ∃ y, ys[i]? = some y := ⟨_, List.getElem?_eq_getElem (by omega)⟩
    rw [hy, hsz] at h1
    obtain ⟨x, h4, h5⟩ := he enc w m _ y h1
    exact ⟨x, y, hy, h4, h5⟩)
  refine ⟨xs, hxl, ⟨by rw [hl, hc, hxl], fun j x hx => ?_⟩, fun hw x hx => ?_⟩
  · obtain ⟨y, _, h2, _⟩ := hxs j x hx
    exact h2
  · obtain ⟨j, hj⟩ := List.getElem?_of_mem hx
    obtain ⟨y, h1, _, h4⟩ := hxs j x hj
    refine h4 fun n hn => hw n ?_
    rw [DataW.weights, ht]
    exact weightsAll_mem (List.mem_map_of_mem (List.mem_of_getElem? h1)) n hn
end
end Go.Proofs.YtpdjahejcdmopaaDoor
