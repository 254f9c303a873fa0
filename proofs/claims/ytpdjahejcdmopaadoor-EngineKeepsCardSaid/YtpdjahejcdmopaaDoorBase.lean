/- Words used by all walks of this seat: how Go values read as data (bytes, slices, structs), slices of the call's own, append at these. -/
import Derived.Test.YtpdjahejcdmopaaDoorProg
import Derived.WalkKit
import Derived.BigQuiet
import Derived.Deep.QuietTactic
import Derived.Deep.RegionWith
import Derived.Lib.Hide
import Derived.Lib.SliceRun
import Derived.Deep.LoopGhost
import Derived.Deep.DeepCutAuto
import Derived.Maps.AppendAt
namespace Go.Proofs.YtpdjahejcdmopaaDoor
open Go.RowKit

/-! ### worlds -/
theorem bcell {B : Nat} {W w1 : World} (hb : Below B W w1) : (∀ b o, b < B → w1.cell? ⟨b, o, none⟩ = W.cell? ⟨b, o, none⟩) ∧ (∀ b o, b < B → w1.frozen? ⟨b, o, none⟩ = W.frozen? ⟨b, o, none⟩) :=
  ⟨fun b o h => hb.cell (p := ⟨b, o, none⟩) h, fun b o h => hb.frozen (p := ⟨b, o, none⟩) h⟩
theorem blk_cell {w : World} {b : Nat} {cs : Array Value} {e : TypeId} {fr : Nat × Nat} (h : w.heap[b]? = some (.cells cs e fr)) (o : Nat) : w.cell? ⟨b, o, none⟩ = cs[o]? := by
  simp [World.cell?, h]
theorem blk_frozen {w : World} {b : Nat} {cs : Array Value} {e : TypeId} (h : w.heap[b]? = some (.cells cs e (0, 0))) (o : Nat) : w.frozen? ⟨b, o, none⟩ = false := by
  simp [World.frozen?, h]
theorem cell_lt {w : World} {b o : Nat} {v : Value} (h : w.cell? ⟨b, o, none⟩ = some v) : b < w.heap.size := by
  rcases Nat.lt_or_ge b w.heap.size with h' | h'
  · exact h'
  · simp [World.cell?, Array.getElem?_eq_none h'] at h
theorem heap_lt {w : World} {b : Nat} {o : Obj} (h : w.heap[b]? = some o) : b < w.heap.size := by
  rcases Nat.lt_or_ge b w.heap.size with h' | h'
  · exact h'
  · simp [Array.getElem?_eq_none h'] at h
theorem cell_of_heap {w w' : World} {b o : Nat} (h : w'.heap[b]? = w.heap[b]?) : w'.cell? ⟨b, o, none⟩ = w.cell? ⟨b, o, none⟩ := by
  simp [World.cell?, h]
theorem below_drew {B : Nat} {a w : World} (h : Below B a w) : Below B a w.drew := h.drew

/-- The post kept from the walk's simp: the walk ends at 'R' ..'; then 'refine HR.out _ _ ?_'. -/
theorem calls_hide {P : Program} {f : FuncId} {args : Array Value} {w : World} {R : Ending → World → Prop} (h : ∀ R' : Ending → World → Prop, Hid (∀ e w', R e w' → R' e w') → Calls P f args w R') : Calls P f args w R :=
  h R (show ∀ e w', R e w' → R e w' from fun _ _ h => h)

theorem nz_same {a b : Nat} (h : a = 0 ↔ b = 0) : (!((a : Int) == 0) == ((b : Int) == 0)) = false := by
  by_cases q : a = 0
  · have q' := h.1 q
    subst q; subst q'; rfl
  · have q' : ¬ b = 0 := fun e => q (h.2 e)
    have e1 : ((a : Int) == 0) = false := by simp [q]
    have e2 : ((b : Int) == 0) = false := by simp [q']
    rw [e1, e2]; rfl
theorem nz_other {a b : Nat} (h : ¬ (a = 0 ↔ b = 0)) : (!((a : Int) == 0) == ((b : Int) == 0)) = true := by
  by_cases q : a = 0
  · have q' : ¬ b = 0 := fun e => h ⟨fun _ => e, fun _ => q⟩
    have e1 : ((a : Int) == 0) = true := by simp [q]
    have e2 : ((b : Int) == 0) = false := by simp [q']
    rw [e1, e2]; rfl
  · have q' : b = 0 := by
      rcases Nat.eq_zero_or_pos b with e | e
      · exact e
      · exact absurd ⟨fun x => absurd x q, fun x => by omega⟩ h
    have e1 : ((a : Int) == 0) = false := by simp [q]
    have e2 : ((b : Int) == 0) = true := by simp [q']
    rw [e1, e2]; rfl

theorem bgrown {W w1 : World} {r : Option Nat} (hg : W.grownBy w1 r) : (∀ b o, b < W.heap.size → some b ≠ r → w1.cell? ⟨b, o, none⟩ = W.cell? ⟨b, o, none⟩) ∧ (∀ b o, b < W.heap.size → some b ≠ r → w1.frozen? ⟨b, o, none⟩ = W.frozen? ⟨b, o, none⟩) :=
  ⟨fun b o h h' => World.cell?_of_block (w := W) (hg.block b h h'), fun b o h h' => World.frozen?_of_block (w := W) (hg.block b h h')⟩
theorem heap_setCell_eq {w : World} {b o : Nat} {cs : Array Value} {e : TypeId} {fr : Nat × Nat} (h : w.heap[b]? = some (.cells cs e fr)) (v : Value) : (w.setCell ⟨b, o, none⟩ v).heap[b]? = some (.cells (cs.setIfInBounds o v) e fr) := by
  simp [World.setCell, Array.getElem?_modify, h]
theorem size_set (w : World) (a : Addr) (v : Value) : (w.setCell a v).heap.size = w.heap.size := by simp [World.setCell]
theorem below_set {B b o : Nat} {a w : World} (h : Below B a w) (hb : B ≤ b) (u : Value) : Below B a (w.setCell ⟨b, o, none⟩ u) := h.setCell (p := ⟨b, o, none⟩) hb u
theorem below_alloc {B : Nat} {a w : World} (h : Below B a w) (hB : B ≤ a.heap.size) (o : Obj) : Below B a (w.alloc o) := h.alloc (Nat.le_trans hB h.size) o
theorem below_grown {B : Nat} {a w w' : World} {row : Option Nat} (h : Below B a w) (hg : w.grownBy w' row) (hB : B ≤ a.heap.size) (hr : ∀ k, row = some k → B ≤ k) : Below B a w' := h.grown hg (Nat.le_trans hB h.size) hr

/-! ### kinds of data -/
structure Rep (α : Type) where
  sz : Nat
  K : (Nat → Prop) → World → α → List Value → Prop
  pos : 0 < sz
  len : ∀ {ok w x cs}, K ok w x cs → cs.length = sz
  one : ∀ {ok w x cs}, K ok w x cs → ∀ u ∈ cs, u.oneCell' = true
  move : ∀ {ok : Nat → Prop} {w w' : World} {x cs}, (∀ k, k < w.heap.size → ok k → w'.heap[k]? = w.heap[k]?) → K ok w x cs → K ok w' x cs
  weak : ∀ {ok ok' : Nat → Prop} {w : World} {x cs}, (∀ k, k < w.heap.size → ok k → ok' k) → K ok w x cs → K ok' w x cs

/-- The elements that a slice's address leads to. -/
def Rd {α : Type} (d : Rep α) (ok : Nat → Prop) (w : World) (A : Option Addr) (xs : List α) : Prop :=
  ∀ j x, xs[j]? = some x → ∃ b o cs, A = some ⟨b, o, none⟩ ∧ ok b ∧ d.K ok w x cs ∧ ∀ i u, cs[i]? = some u → w.cell? ⟨b, o + j * d.sz + i, none⟩ = some u

theorem Rd.nil {α : Type} (d : Rep α) (ok : Nat → Prop) (w : World) (A : Option Addr) : Rd d ok w A [] := fun j x h => by simp at h
theorem Rd.move {α : Type} {d : Rep α} {ok : Nat → Prop} {w w' : World} {A : Option Addr} {xs : List α} (hm : ∀ k, k < w.heap.size → ok k → w'.heap[k]? = w.heap[k]?) (h : Rd d ok w A xs) : Rd d ok w' A xs := by
  intro j x hx
  obtain ⟨b, o, cs, hA, hb, hK, hc⟩ := h j x hx
  have hp : 0 < cs.length := by rw [d.len hK]; exact d.pos
  have hlt : b < w.heap.size := cell_lt (hc 0 cs[0] (List.getElem?_eq_getElem hp))
  exact ⟨b, o, cs, hA, hb, d.move hm hK, fun i u hu => (cell_of_heap (hm b hlt hb)).trans (hc i u hu)⟩
theorem Rd.weak {α : Type} {d : Rep α} {ok ok' : Nat → Prop} {w : World} {A : Option Addr} {xs : List α} (hm : ∀ k, k < w.heap.size → ok k → ok' k) (h : Rd d ok w A xs) : Rd d ok' w A xs := by
  intro j x hx
  obtain ⟨b, o, cs, hA, hb, hK, hc⟩ := h j x hx
  have hp : 0 < cs.length := by rw [d.len hK]; exact d.pos
  have hlt : b < w.heap.size := cell_lt (hc 0 cs[0] (List.getElem?_eq_getElem hp))
  exact ⟨b, o, cs, hA, hm b hlt hb, d.weak hm hK, hc⟩
theorem Rd.below {α : Type} {d : Rep α} {ok : Nat → Prop} {w w' : World} {A : Option Addr} {xs : List α} (h : Rd d ok w A xs) (hb : Below w.heap.size w w') : Rd d ok w' A xs :=
  h.move fun k hk _ => hb.block k hk
theorem Rd.take {α : Type} {d : Rep α} {ok : Nat → Prop} {w : World} {A : Option Addr} {xs : List α} (h : Rd d ok w A xs) (n : Nat) : Rd d ok w A (xs.take n) := by
  intro j x hx
  refine h j x ?_
  rw [List.getElem?_take] at hx
  split at hx
  · exact hx
  · cases hx
/-- The address that 's[i:]' has. -/
def cutA (A : Option Addr) (c i sz : Nat) : Option Addr := if c = i then A else A.map (·.add (i * sz))
theorem Rd.drop {α : Type} {d : Rep α} {ok : Nat → Prop} {w : World} {A : Option Addr} {xs : List α} (h : Rd d ok w A xs) (i c : Nat) (hc : xs.length ≤ c) : Rd d ok w (cutA A c i d.sz) (xs.drop i) := by
  intro j x hx
  rw [List.getElem?_drop] at hx
  obtain ⟨b, o, cs, hA, hb, hK, hcell⟩ := h (i + j) x hx
  have hlt : i + j < xs.length := by
    rcases Nat.lt_or_ge (i + j) xs.length with h' | h'
    · exact h'
    · rw [List.getElem?_eq_none h'] at hx; cases hx
  subst hA
  refine ⟨b, o + i * d.sz, cs, ?_, hb, hK, fun k u hu => ?_⟩
  · rw [cutA, if_neg (by omega)]
    simp only [Option.map, Addr.add]
    split
    · rename_i h0; rw [h0]; simp
    · rfl
  · have := hcell k u hu
    rw [Nat.add_mul] at this
    rw [show o + i * d.sz + j * d.sz + k = o + (i * d.sz + j * d.sz) + k by omega]
    exact this

/-! ### the kinds -/
def Rep.scalar {α : Type} (enc : α → Value) (R : α → Prop) (h1 : ∀ x, (enc x).oneCell' = true) : Rep α where
  sz := 1
  K := fun _ _ x cs => cs = [enc x] ∧ R x
  pos := by omega
  len := by rintro _ _ _ _ ⟨rfl, _⟩; rfl
  one := by rintro _ _ x _ ⟨rfl, _⟩ u hu; simp at hu; subst hu; exact h1 x
  move := by rintro _ _ _ _ _ _ h; exact h
  weak := by rintro _ _ _ _ _ _ h; exact h
def u8V (b : UInt8) : Value := .int .u8 (b.toNat : Int)
def u32V (b : UInt32) : Value := .int .u32 (b.toNat : Int)
def u64V (b : UInt64) : Value := .int .u64 (b.toNat : Int)
def I64 (n : Int) : Prop := -9223372036854775808 ≤ n ∧ n ≤ 9223372036854775807
def u8 : Rep UInt8 := .scalar u8V (fun _ => True) (fun _ => rfl)
def u32 : Rep UInt32 := .scalar u32V (fun _ => True) (fun _ => rfl)
def u64 : Rep UInt64 := .scalar u64V (fun _ => True) (fun _ => rfl)
def i64 : Rep Int := .scalar (Value.int .i64) I64 (fun _ => rfl)
def boolK : Rep Bool := .scalar Value.bool (fun _ => True) (fun _ => rfl)
def maxCap : Nat := 9223372036854775807
/-- A slice, as one cell. -/
def Rep.slice {α : Type} (d : Rep α) : Rep (List α) where
  sz := 1
  K := fun ok w xs cs => ∃ A c, cs = [.slice A xs.length c] ∧ xs.length ≤ c ∧ c ≤ maxCap ∧ Rd d ok w A xs
  pos := by omega
  len := by rintro _ _ _ _ ⟨_, _, rfl, _⟩; rfl
  one := by rintro _ _ _ _ ⟨_, _, rfl, _⟩ u hu; simp at hu; subst hu; rfl
  move := by
    rintro ok w w' xs cs hm ⟨A, c, h, hl, hc, hr⟩
    exact ⟨A, c, h, hl, hc, hr.move hm⟩
  weak := by
    rintro ok ok' w xs cs hm ⟨A, c, h, hl, hc, hr⟩
    exact ⟨A, c, h, hl, hc, hr.weak hm⟩
/-- Two behind each other. -/
def Rep.pair {α β : Type} (a : Rep α) (b : Rep β) : Rep (α × β) where
  sz := a.sz + b.sz
  K := fun ok w x cs => ∃ c1 c2, cs = c1 ++ c2 ∧ a.K ok w x.1 c1 ∧ b.K ok w x.2 c2
  pos := by have := a.pos; omega
  len := by rintro _ _ _ _ ⟨c1, c2, rfl, h1, h2⟩; rw [List.length_append, a.len h1, b.len h2]
  one := by
    rintro _ _ _ _ ⟨c1, c2, rfl, h1, h2⟩ u hu
    rcases List.mem_append.1 hu with h | h
    · exact a.one h1 u h
    · exact b.one h2 u h
  move := by rintro _ _ _ _ _ hm ⟨c1, c2, rfl, h1, h2⟩; exact ⟨c1, c2, rfl, a.move hm h1, b.move hm h2⟩
  weak := by rintro _ _ _ _ _ hm ⟨c1, c2, rfl, h1, h2⟩; exact ⟨c1, c2, rfl, a.weak hm h1, b.weak hm h2⟩
/-- The same under another type. -/
def Rep.iso {α β : Type} (d : Rep α) (f : β → α) : Rep β where
  sz := d.sz
  K := fun ok w x cs => d.K ok w (f x) cs
  pos := d.pos
  len := fun h => d.len h
  one := fun h => d.one h
  move := fun hm h => d.move hm h
  weak := fun hm h => d.weak hm h

/-! ### cells of a row of elements -/
def Reps {α : Type} (d : Rep α) (ok : Nat → Prop) (w : World) (xs : List α) (cs : List Value) : Prop :=
  cs.length = xs.length * d.sz ∧ ∀ j x, xs[j]? = some x → d.K ok w x ((cs.drop (j * d.sz)).take d.sz)
theorem Reps.nil {α : Type} (d : Rep α) (ok : Nat → Prop) (w : World) : Reps d ok w [] [] := ⟨by simp, fun j p h => by simp at h⟩
theorem Reps.append {α : Type} {d : Rep α} {ok : Nat → Prop} {w : World} {xs ys : List α} {cs ds : List Value} (h : Reps d ok w xs cs) (h' : Reps d ok w ys ds) : Reps d ok w (xs ++ ys) (cs ++ ds) := by
  refine ⟨by rw [List.length_append, h.1, h'.1, List.length_append, Nat.add_mul], fun j x hx => ?_⟩
  rcases Nat.lt_or_ge j xs.length with hj | hj
  · rw [List.getElem?_append_left hj] at hx
    have h1 : j * d.sz + d.sz ≤ cs.length := by rw [h.1, ← Nat.succ_mul]; exact Nat.mul_le_mul_right _ hj
    have h2 := h.2 j x hx
    rw [List.drop_append_of_le_length (by omega), List.take_append_of_le_length (by rw [List.length_drop]; omega)]
    exact h2
  · rw [List.getElem?_append_right hj] at hx
    have h2 := h'.2 _ x hx
    have e : j * d.sz = cs.length + (j - xs.length) * d.sz := by rw [h.1, ← Nat.add_mul]; congr 1; omega
    rw [e, List.drop_length_add_append]
    exact h2
theorem Reps.single {α : Type} {d : Rep α} {ok : Nat → Prop} {w : World} {x : α} {cs : List Value} (h : d.K ok w x cs) : Reps d ok w [x] cs := by
  refine ⟨by simp [d.len h], fun j p hp => ?_⟩
  rcases j with _ | j
  · have hp' : x = p := by simpa using hp
    subst hp'
    rw [Nat.zero_mul, List.drop_zero, ← d.len h, List.take_length]
    exact h
  · simp at hp
theorem Reps.move {α : Type} {d : Rep α} {ok : Nat → Prop} {w w' : World} {xs : List α} {cs : List Value} (hm : ∀ k, k < w.heap.size → ok k → w'.heap[k]? = w.heap[k]?) (h : Reps d ok w xs cs) : Reps d ok w' xs cs :=
  ⟨h.1, fun j x hx => d.move hm (h.2 j x hx)⟩
theorem Reps.weak {α : Type} {d : Rep α} {ok ok' : Nat → Prop} {w : World} {xs : List α} {cs : List Value} (hm : ∀ k, k < w.heap.size → ok k → ok' k) (h : Reps d ok w xs cs) : Reps d ok' w xs cs :=
  ⟨h.1, fun j x hx => d.weak hm (h.2 j x hx)⟩
theorem Reps.one {α : Type} {d : Rep α} {ok : Nat → Prop} {w : World} {xs : List α} {cs : List Value} (h : Reps d ok w xs cs) : ∀ u ∈ cs, u.oneCell' = true := by
  intro u hu
  obtain ⟨i, hi, rfl⟩ := List.mem_iff_getElem.1 hu
  have hp := d.pos
  have hj : i / d.sz < xs.length := by rw [Nat.div_lt_iff_lt_mul hp, ← h.1]; exact hi
  have hK := h.2 (i / d.sz) _ (List.getElem?_eq_getElem hj)
  refine d.one hK _ ?_
  rw [List.mem_iff_getElem]
  have hm : i / d.sz * d.sz + i % d.sz = i := by rw [Nat.mul_comm]; exact Nat.div_add_mod i d.sz
  have hlt := Nat.mod_lt i hp
  refine ⟨i % d.sz, by rw [List.length_take, List.length_drop]; omega, ?_⟩
  rw [List.getElem_take, List.getElem_drop]
  congr 1

/-! ### slices of the call's own -/
/-- v is a slice of n elements (sz cells each, of type e) whose cells are xs, in a block of the call's own (of ok); or an empty one without room. -/
def Own (ok : Nat → Prop) (w : World) (e sz : Nat) (v : Value) (n : Nat) (xs : List Value) : Prop :=
  xs.length = n * sz ∧ ((n = 0 ∧ ∃ A, v = .slice A 0 0) ∨
    ∃ g cap cur, v = .slice (some ⟨g, 0, none⟩) n cap ∧ 0 < cap ∧ ok g ∧ w.heap[g]? = some (.cells cur e (0, 0)) ∧ n ≤ cap ∧ cap ≤ maxLen ∧ cur.size = cap * sz ∧ cur.toList.take (n * sz) = xs)
/-- The block that may be written through v. -/
def rowOf : Value → Option Nat
  | .slice (some a) _ (_ + 1) => some a.block
  | _ => none
theorem Own.nil (ok : Nat → Prop) (w : World) (e sz : Nat) : Own ok w e sz (.slice none 0 0) 0 [] := ⟨by simp, .inl ⟨rfl, none, rfl⟩⟩
theorem Own.weak {ok ok' : Nat → Prop} {w : World} {e sz : Nat} {v : Value} {n : Nat} {xs : List Value} (hm : ∀ k, k < w.heap.size → ok k → ok' k) (h : Own ok w e sz v n xs) : Own ok' w e sz v n xs := by
  obtain ⟨h1, h2⟩ := h
  refine ⟨h1, ?_⟩
  rcases h2 with h2 | ⟨g, cap, cur, hv, hc0, hg, hh, r⟩
  · exact .inl h2
  · exact .inr ⟨g, cap, cur, hv, hc0, hm g (heap_lt hh) hg, hh, r⟩
theorem Own.move {ok : Nat → Prop} {w w' : World} {e sz : Nat} {v : Value} {n : Nat} {xs : List Value} (hm : ∀ k, rowOf v = some k → w'.heap[k]? = w.heap[k]?) (h : Own ok w e sz v n xs) : Own ok w' e sz v n xs := by
  obtain ⟨h1, h2⟩ := h
  refine ⟨h1, ?_⟩
  rcases h2 with h2 | ⟨g, cap, cur, rfl, hc0, hg, hh, r⟩
  · exact .inl h2
  · refine .inr ⟨g, cap, cur, rfl, hc0, hg, (hm g ?_).trans hh, r⟩
    obtain ⟨c, rfl⟩ : ∃ c, cap = c + 1 := ⟨cap - 1, by omega⟩
    rfl
theorem Own.row {ok : Nat → Prop} {w : World} {e sz : Nat} {v : Value} {n : Nat} {xs : List Value} (h : Own ok w e sz v n xs) (k : Nat) (hk : rowOf v = some k) : ok k ∧ k < w.heap.size := by
  rcases h.2 with ⟨_, A, rfl⟩ | ⟨g, cap, cur, rfl, hc0, hg, hh, r⟩
  · cases A <;> simp [rowOf] at hk
  · obtain ⟨c, rfl⟩ : ∃ c, cap = c + 1 := ⟨cap - 1, by omega⟩
    simp [rowOf] at hk
    subst hk
    exact ⟨hg, heap_lt hh⟩
theorem Own.form {ok : Nat → Prop} {w : World} {e sz : Nat} {v : Value} {n : Nat} {xs : List Value} (h : Own ok w e sz v n xs) : ∃ A c, v = .slice A n c ∧ n ≤ c ∧ c ≤ maxCap := by
  rcases h.2 with ⟨rfl, A, rfl⟩ | ⟨g, cap, cur, rfl, _, _, _, h1, h2, _⟩
  · exact ⟨A, 0, rfl, Nat.le_refl _, by simp [maxCap]⟩
  · exact ⟨_, cap, rfl, h1, by simpa [maxLen, maxCap] using h2⟩
theorem Own.cell {ok : Nat → Prop} {w : World} {e sz : Nat} {A : Option Addr} {n c : Nat} {xs : List Value} (h : Own ok w e sz (.slice A n c) n xs) (j : Nat) (u : Value) (hu : xs[j]? = some u) :
    ∃ b, A = some ⟨b, 0, none⟩ ∧ ok b ∧ w.cell? ⟨b, j, none⟩ = some u ∧ w.frozen? ⟨b, j, none⟩ = false ∧ rowOf (.slice A n c) = some b := by
  rcases h.2 with ⟨rfl, A', hv⟩ | ⟨g, cap, cur, hv, hc0, hg, hh, h1, h2, h3, h4⟩
  · have := h.1
    simp at this
    subst this
    simp at hu
  · injection hv with hA hn hc
    subst hA; subst hc
    obtain ⟨c', rfl⟩ : ∃ c', c = c' + 1 := ⟨c - 1, by omega⟩
    refine ⟨g, rfl, hg, ?_, blk_frozen hh j, rfl⟩
    rw [blk_cell hh]
    rw [← h4, List.getElem?_take] at hu
    split at hu
    · simpa using hu
    · cases hu
/-- Of a row of the call's own: what its elements read as. -/
def OwnL {α : Type} (d : Rep α) (okr oke : Nat → Prop) (w : World) (e : Nat) (v : Value) (xs : List α) : Prop :=
  ∃ cs, Own okr w e d.sz v xs.length cs ∧ Reps d oke w xs cs
theorem OwnL.nil {α : Type} (d : Rep α) (okr oke : Nat → Prop) (w : World) (e : Nat) : OwnL d okr oke w e (.slice none 0 0) [] := ⟨[], Own.nil _ _ _ _, Reps.nil _ _ _⟩
theorem OwnL.rd {α : Type} {d : Rep α} {okr oke : Nat → Prop} {w : World} {e : Nat} {v : Value} {xs : List α} (h : OwnL d okr oke w e v xs) :
    ∃ A c, v = .slice A xs.length c ∧ xs.length ≤ c ∧ c ≤ maxCap ∧ Rd d (fun k => okr k ∨ oke k) w A xs := by
  obtain ⟨cs, ho, hr⟩ := h
  obtain ⟨A, c, rfl, h1, h2⟩ := ho.form
  refine ⟨A, c, rfl, h1, h2, fun j x hx => ?_⟩
  have hK := hr.2 j x hx
  have hl : j < xs.length := by
    rcases Nat.lt_or_ge j xs.length with h' | h'
    · exact h'
    · rw [List.getElem?_eq_none h'] at hx; cases hx
  have hle : j * d.sz + d.sz ≤ cs.length := by rw [hr.1, ← Nat.succ_mul]; exact Nat.mul_le_mul_right _ hl
  have hp := d.pos
  obtain ⟨b, hA, hb, _, _, _⟩ := ho.cell (j * d.sz) (cs[j * d.sz]'(by omega)) (List.getElem?_eq_getElem _)
  subst hA
  refine ⟨b, 0, _, rfl, .inl hb, d.weak (fun k _ h => .inr h) hK, fun i u hu => ?_⟩
  have hi : i < d.sz := by
    rcases Nat.lt_or_ge i d.sz with h' | h'
    · exact h'
    · rw [List.getElem?_eq_none (by rw [List.length_take]; omega)] at hu; cases hu
  rw [List.getElem?_take, if_pos hi, List.getElem?_drop] at hu
  obtain ⟨b', hA', _, hc, _, _⟩ := ho.cell _ u hu
  injection hA' with hA'
  injection hA' with hA'
  subst hA'
  rw [Nat.zero_add]
  exact hc
theorem OwnL.move {α : Type} {d : Rep α} {okr oke : Nat → Prop} {w w' : World} {e : Nat} {v : Value} {xs : List α} (h1 : ∀ k, rowOf v = some k → w'.heap[k]? = w.heap[k]?) (h2 : ∀ k, k < w.heap.size → oke k → w'.heap[k]? = w.heap[k]?)
    (h : OwnL d okr oke w e v xs) : OwnL d okr oke w' e v xs := by
  obtain ⟨cs, ho, hr⟩ := h
  exact ⟨cs, ho.move h1, hr.move h2⟩

/-! ### append -/
/-- What is appended: m elements whose cells are news. -/
def Src (w : World) (sz : Nat) (x : Value) (m : Nat) (news : List Value) : Prop :=
  news.length = m * sz ∧ (∀ u ∈ news, u.oneCell' = true) ∧ ∃ A c, x = .slice A m c ∧ ∀ j u, news[j]? = some u → ∃ b o, A = some ⟨b, o, none⟩ ∧ w.cell? ⟨b, o + j, none⟩ = some u
theorem Rd.src {α : Type} {d : Rep α} {ok : Nat → Prop} {w : World} {A : Option Addr} {xs : List α} (h : Rd d ok w A xs) (c : Nat) : ∃ cs, Src w d.sz (.slice A xs.length c) xs.length cs ∧ Reps d ok w xs cs := by
  have key : ∀ ys : List α, ys.length ≤ xs.length → (∀ (j : Nat) (x : α), ys[j]? = some x → xs[j]? = some x) → ∃ cs : List Value, Reps d ok w ys cs ∧ ∀ (j : Nat) (u : Value), cs[j]? = some u → ∃ b o, A = some ⟨b, o, none⟩ ∧ w.cell? ⟨b, o + j, none⟩ = some u := by
    intro ys
    induction hn : ys.length generalizing ys with
    | zero => intro _ _; obtain rfl := List.eq_nil_of_length_eq_zero hn; exact ⟨[], Reps.nil _ _ _, fun j u hu => by simp at hu⟩
    | succ n ih =>
      intro hle hsub
      obtain ⟨zs, z, rfl⟩ : ∃ zs z, ys = zs ++ [z] := by
        refine ⟨ys.dropLast, ys.getLast (by intro h0; simp [h0] at hn), ?_⟩
        rw [List.dropLast_concat_getLast]
      have hzl : zs.length = n := by simpa using hn
      obtain ⟨cs, hr, hc⟩ := ih zs hzl (by omega) (fun j x hx => hsub j x (by
        rw [List.getElem?_append_left (by
          rcases Nat.lt_or_ge j zs.length with h' | h'
          · exact h'
          · rw [List.getElem?_eq_none h'] at hx; cases hx)]
        exact hx))
      obtain ⟨b, o, c1, hA, _, hK, hcell⟩ := h n z (hsub n z (by rw [List.getElem?_append_right (by omega), hzl]; simp))
      refine ⟨cs ++ c1, hr.append (Reps.single hK), fun j u hu => ?_⟩
      rcases Nat.lt_or_ge j cs.length with hj | hj
      · rw [List.getElem?_append_left hj] at hu; exact hc j u hu
      · rw [List.getElem?_append_right hj] at hu
        have h1 := hcell _ u hu
        have h2 : cs.length = n * d.sz := by rw [hr.1, hzl]
        exact ⟨b, o, hA, by rw [show o + j = o + n * d.sz + (j - cs.length) by omega]; exact h1⟩
  obtain ⟨cs, hr, hc⟩ := key xs (Nat.le_refl _) (fun _ _ h => h)
  exact ⟨cs, ⟨hr.1, hr.one, A, c, rfl, hc⟩, hr⟩

section
variable {P : Program} (w : World)
theorem run_app (t ty e : TypeId) (i : TypeInfo) (z : Value) (size bytes : Nat) (ht : P.underlying t = some (.slice e)) (hi : P.info? e = some i) (hz : i.zero = some z)
    (hsize : i.size = size) (hby : i.bytes = bytes) (hzs : z.cells.size = size) (hsz : 0 < size) (ok : Nat → Prop)
    (v : Value) (n : Nat) (xs : List Value) (hown : Own ok w e size v n xs) (x : Value) (m : Nat) (news : List Value) (hx : Src w size x m news)
    (h63 : n + m ≤ maxLen) (hbytes : (n + m) * bytes ≤ 140737488355328) :
    ∃ v' w', (Builtin.append_ #[t, t] ty #[v, x]).run P w = .ok v' w' ∧ Own (fun k => ok k ∨ k = w.heap.size) w' e size v' (n + m) (xs ++ news) ∧ w.grownBy w' (rowOf v) ∧
      (rowOf v' = rowOf v ∨ rowOf v' = some w.heap.size) := by
  obtain ⟨hnl, hn1, A, c, rfl, hnc⟩ := hx
  subst hsize
  subst hby
  by_cases hm : m = 0
  · subst hm
    obtain rfl : news = [] := List.eq_nil_of_length_eq_zero (by simpa using hnl)
    have hf : (Builtin.firstCells i.size 0 (.slice A 0 c)).run P w = .ok #[] w := by
      cases A <;> simp [Builtin.firstCells, loadCells, loadCellsFrom]
    obtain ⟨A', c', hv, hle, hcc⟩ := hown.form
    refine ⟨v, w, ?_, ?_, World.grownBy.refl w _, .inl rfl⟩
    · subst hv
      cases A' <;> simp [Builtin.append_, run_underlying ht, sizeOf, typeInfo, hi, Builtin.lenOf, hle, hf, storeCells]
    · simpa using hown.weak (fun k _ h => .inl h)
  · obtain ⟨ad, rfl⟩ : ∃ ad, A = some ad := by
      have hp : 0 < news.length := by rw [hnl]; exact Nat.mul_pos (by omega) hsz
      obtain ⟨b, o, hA, _⟩ := hnc 0 news[0] (List.getElem?_eq_getElem hp)
      exact ⟨_, hA⟩
    have hnews : ∀ j u, news[j]? = some u → w.cell? (ad.add j) = some u := by
      intro j u hu
      obtain ⟨b, o, hA, hc⟩ := hnc j u hu
      injection hA with hA
      subst hA
      unfold Addr.add
      split
      · rename_i h0; subst h0; exact hc
      · exact hc
    rcases hown.2 with ⟨rfl, A', rfl⟩ | ⟨g, cap, cur, rfl, hc0, hg, hh, hnc', hcm, hcs, htake⟩
    · obtain rfl : xs = [] := List.eq_nil_of_length_eq_zero (by simpa using hown.1)
      have h63' : m ≤ 9223372036854775807 := by simp only [maxLen] at h63; omega
      have hge := grownCap_ge w m 0 e
      have hcm : grownCap w m 0 e ≤ maxLen := grownCap_le_maxLen w m 0 e (by omega)
      have fin : Own (fun k => ok k ∨ k = w.heap.size) (w.drew.alloc (.cells (news.toArray ++ Builtin.zeroCells z.cells (grownCap w m 0 e - m)) e)) e i.size (.slice (some ⟨w.heap.size, 0, none⟩) m (grownCap w m 0 e)) (0 + m) ([] ++ news) := by
        simp only [Nat.zero_add, List.nil_append]
        refine ⟨hnl, .inr ⟨w.heap.size, _, _, rfl, by omega, .inr rfl, heap_alloc_new w.drew _, hge, hcm, ?_, ?_⟩⟩
        · simp only [Array.size_append, List.size_toArray, size_zeroCells, hzs, hnl, ← Nat.add_mul]
          congr 1
          omega
        · simp only [Array.toList_append]
          rw [← hnl]
          exact List.take_left
      have grow : ∀ r, w.grownBy (w.drew.alloc (.cells (news.toArray ++ Builtin.zeroCells z.cells (grownCap w m 0 e - m)) e)) r := fun r => ⟨rfl, rfl, rfl, by simp, fun k hk _ => heap_alloc_old w.drew _ hk⟩
      have row : rowOf (.slice (some ⟨w.heap.size, 0, none⟩) m (grownCap w m 0 e)) = some w.heap.size := by
        obtain ⟨q, hq⟩ : ∃ q, grownCap w m 0 e = q + 1 := ⟨grownCap w m 0 e - 1, by omega⟩
        rw [hq]; rfl
      cases A' with
      | none =>
        have hr := run_append_nil (P := P) w t ty e i z ht hi hz ad m c news hnl hnews (by omega) (by omega) (by have hb := hbytes; simp only [Nat.zero_add] at hb; omega)
        exact ⟨_, _, hr, fin, grow _, .inr row⟩
      | some a' =>
        have hr := run_append_grow (P := P) w t ty e i z ht hi hz a' 0 0 [] (by simp) (by simp) ad m c news hnl hnews (by omega) (by omega) (growslice_fits (by omega) hbytes)
        simp only [Nat.zero_add, Array.empty_append] at hr
        exact ⟨_, _, hr, fin, grow _, .inr row⟩
    · have hof : w.ownsRow 0 e i.size (.slice (some ⟨g, 0, none⟩) n cap) n xs := ⟨hown.1, .inr ⟨g, cap, cur, rfl, Nat.zero_le _, hh, hnc', hcm, hcs, htake⟩⟩
      have hrow : rowOf (.slice (some ⟨g, 0, none⟩) n cap) = some g := by
        obtain ⟨q, rfl⟩ : ∃ q, cap = q + 1 := ⟨cap - 1, by omega⟩
        rfl
      obtain ⟨v', w', hr, h2, h3, _, h5⟩ := run_append_own_at (P := P) w 0 t ty e i z i.size i.bytes ht hi hz rfl rfl hzs hsz _ n xs hof ad m c news hnl hnews hn1 h63 hbytes (Nat.zero_le _)
      refine ⟨v', w', hr, ?_, by rw [hrow]; exact h3, ?_⟩
      · obtain ⟨q1, q2⟩ := h2
        refine ⟨q1, ?_⟩
        rcases q2 with ⟨_, q2⟩ | ⟨g', cap', cur', rfl, _, r1, r2, r3, r4, r5⟩
        · omega
        · refine .inr ⟨g', cap', cur', rfl, by omega, ?_, r1, r2, r3, r4, r5⟩
          simp only [Value.ownBlock, Option.some.injEq] at h5
          rcases h5 with rfl | rfl
          · exact .inl hg
          · exact .inr rfl
      · rw [hrow]
        rcases h2.2 with ⟨_, q2⟩ | ⟨g', cap', cur', rfl, _, r1, r2, r3, r4, r5⟩
        · omega
        · simp only [Value.ownBlock, Option.some.injEq] at h5
          obtain ⟨q, rfl⟩ : ∃ q, cap' = q + 1 := ⟨cap' - 1, by omega⟩
          rcases h5 with rfl | rfl
          · exact .inl rfl
          · exact .inr rfl
theorem wpList_app {ops : Array Oper} {rest : List Oper} {o : Oper} {a : Act} {Q : Exit → Act → World → Prop} (hgd : o.guard = none) (s x : Operand) (t : TypeId)
    (ho : o.op = .call { callee := .builtin .append, args := #[s, x], argTypes := #[t, t] })
    (e : TypeId) (i : TypeInfo) (z : Value) (size bytes : Nat) (ht : P.underlying t = some (.slice e)) (hi : P.info? e = some i) (hz : i.zero = some z)
    (hsize : i.size = size) (hby : i.bytes = bytes) (hzs : z.cells.size = size) (hsz : 0 < size) (ok : Nat → Prop)
    (v : Value) (n : Nat) (xs : List Value) (hs : a.eval s = v) (hown : Own ok w e size v n xs) (xv : Value) (m : Nat) (news : List Value) (hx : a.eval x = xv) (hsrc : Src w size xv m news)
    (h63 : n + m ≤ maxLen) (hbytes : (n + m) * bytes ≤ 140737488355328)
    (h : ∀ v' w', Own (fun k => ok k ∨ k = w.heap.size) w' e size v' (n + m) (xs ++ news) → w.grownBy w' (rowOf v) → (rowOf v' = rowOf v ∨ rowOf v' = some w.heap.size) → wpList P ops Q rest (a.put o.dst v') w') : wpList P ops Q (o :: rest) a w := by
  obtain ⟨v', w', hr, h2, h3, h4⟩ := run_app (P := P) w t o.type e i z size bytes ht hi hz hsize hby hzs hsz ok v n xs hown xv m news hsrc h63 hbytes
  refine wpList_plain hgd fun K hK => ?_
  unfold Oper.wp execOp
  simp only [ho, resolve, invoke, builtin, Sem.run_bind, Sem.run_pure, Result.andThen_ok, List.map_toArray, List.map_cons, List.map_nil, hs, hx, hr]
  exact hK _ _ (h v' w' h2 h3 h4)
end

/-! ### carrying over stores and new blocks -/
theorem heap_alloc_lt (w : World) (o : Obj) {k : Nat} (h : k < w.heap.size) : (w.alloc o).heap[k]? = w.heap[k]? := Below.heap_alloc w o k h
theorem heap_set_ne (w : World) (a : Addr) (u : Value) {k : Nat} (h : k ≠ a.block) : (w.setCell a u).heap[k]? = w.heap[k]? := Below.heap_setCell w a u k h
theorem Own.alloc {ok : Nat → Prop} {w : World} {e sz : Nat} {v : Value} {n : Nat} {xs : List Value} (h : Own ok w e sz v n xs) (o : Obj) : Own ok (w.alloc o) e sz v n xs :=
  h.move fun k hk => heap_alloc_lt w o (h.row k hk).2
theorem Own.drew {ok : Nat → Prop} {w : World} {e sz : Nat} {v : Value} {n : Nat} {xs : List Value} (h : Own ok w e sz v n xs) : Own ok w.drew e sz v n xs :=
  h.move (w' := w.drew) fun _ _ => rfl
theorem Own.setCell {ok : Nat → Prop} {w : World} {e sz : Nat} {v : Value} {n : Nat} {xs : List Value} (h : Own ok w e sz v n xs) (a : Addr) (ha : ¬ ok a.block) (u : Value) : Own ok (w.setCell a u) e sz v n xs :=
  h.move fun k hk => heap_set_ne w a u (fun e => ha (e ▸ (h.row k hk).1))
theorem Own.below {ok : Nat → Prop} {w w' : World} {B : Nat} {e sz : Nat} {v : Value} {n : Nat} {xs : List Value} (h : Own ok w e sz v n xs) (hb : Below B w w') (hB : w.heap.size ≤ B) : Own ok w' e sz v n xs :=
  h.move fun k hk => hb.block k (Nat.lt_of_lt_of_le (h.row k hk).2 hB)
theorem Reps.alloc {α : Type} {d : Rep α} {ok : Nat → Prop} {w : World} {xs : List α} {cs : List Value} (h : Reps d ok w xs cs) (o : Obj) : Reps d ok (w.alloc o) xs cs := h.move fun _ hk _ => heap_alloc_lt w o hk
theorem Reps.drew {α : Type} {d : Rep α} {ok : Nat → Prop} {w : World} {xs : List α} {cs : List Value} (h : Reps d ok w xs cs) : Reps d ok w.drew xs cs := Reps.move (w := w) (w' := w.drew) (fun _ _ _ => rfl) h
theorem Reps.setCell {α : Type} {d : Rep α} {ok : Nat → Prop} {w : World} {xs : List α} {cs : List Value} (h : Reps d ok w xs cs) (a : Addr) (ha : ¬ ok a.block) (u : Value) : Reps d ok (w.setCell a u) xs cs :=
  h.move fun _ _ hk => heap_set_ne w a u (fun e => ha (e ▸ hk))
theorem Reps.below {α : Type} {d : Rep α} {ok : Nat → Prop} {w w' : World} {B : Nat} {xs : List α} {cs : List Value} (h : Reps d ok w xs cs) (hb : Below B w w') (hB : w.heap.size ≤ B) : Reps d ok w' xs cs :=
  h.move fun k hk _ => hb.block k (Nat.lt_of_lt_of_le hk hB)
theorem Rd.alloc {α : Type} {d : Rep α} {ok : Nat → Prop} {w : World} {A : Option Addr} {xs : List α} (h : Rd d ok w A xs) (o : Obj) : Rd d ok (w.alloc o) A xs := h.move fun _ hk _ => heap_alloc_lt w o hk
theorem Rd.drew {α : Type} {d : Rep α} {ok : Nat → Prop} {w : World} {A : Option Addr} {xs : List α} (h : Rd d ok w A xs) : Rd d ok w.drew A xs := Rd.move (w := w) (w' := w.drew) (fun _ _ _ => rfl) h
theorem Rd.setCell {α : Type} {d : Rep α} {ok : Nat → Prop} {w : World} {A : Option Addr} {xs : List α} (h : Rd d ok w A xs) (a : Addr) (ha : ¬ ok a.block) (u : Value) : Rd d ok (w.setCell a u) A xs :=
  h.move fun _ _ hk => heap_set_ne w a u (fun e => ha (e ▸ hk))
theorem Rd.belowB {α : Type} {d : Rep α} {ok : Nat → Prop} {w w' : World} {B : Nat} {A : Option Addr} {xs : List α} (h : Rd d ok w A xs) (hb : Below B w w') (hB : w.heap.size ≤ B) : Rd d ok w' A xs :=
  h.move fun k hk _ => hb.block k (Nat.lt_of_lt_of_le hk hB)
/-- What was just laid, as what is appended. -/
theorem Src.new (W : World) (cs : Array Value) (e sz m : Nat) (hs : cs.size = m * sz) (h1 : ∀ u ∈ cs.toList, u.oneCell' = true) : Src (W.alloc (.cells cs e)) sz (.slice (some ⟨W.heap.size, 0, none⟩) m m) m cs.toList := by
  refine ⟨by simpa using hs, h1, _, _, rfl, fun j u hu => ⟨_, _, rfl, ?_⟩⟩
  rw [Nat.zero_add, blk_cell (heap_alloc_new W _)]
  simpa using hu
section
variable {P : Program}
/-- append of what was just laid (the goal's world is 'W.alloc ..'). ok: whatever is new is let in. -/
theorem wpList_app_new (W : World) {ops : Array Oper} {rest : List Oper} {o : Oper} {a : Act} {Q : Exit → Act → World → Prop} (hgd : o.guard = none) (s x : Operand) (t : TypeId)
    (ho : o.op = .call { callee := .builtin .append, args := #[s, x], argTypes := #[t, t] })
    (e : TypeId) (z : Value) (size bytes : Nat) (ht : P.underlying t = some (.slice e)) (hinfo : (P.info? e).map (fun i => (i.zero, i.size, i.bytes)) = some (some z, size, bytes)) (hzs : z.cells.size = size) (hsz : 0 < size) (ok : Nat → Prop)
    (hok : ∀ k, W.heap.size ≤ k → ok k) (cs : Array Value) (m : Nat) (hcs : cs.size = m * size) (h1 : ∀ u ∈ cs.toList, u.oneCell' = true)
    (v : Value) (n : Nat) (xs : List Value) (hs : a.eval s = v) (hown : Own ok W e size v n xs) (g : Nat) (hx : a.eval x = .slice (some ⟨g, 0, none⟩) m m) (hgW : W.heap.size = g)
    (hbytes : (n + m) * bytes ≤ 140737488355328) (hb0 : 0 < bytes)
    (h : ∀ v' w', Own ok w' e size v' (n + m) (xs ++ cs.toList) → W.grownBy w' (rowOf v) → (rowOf v' = rowOf v ∨ rowOf v' = some (W.heap.size + 1)) → wpList P ops Q rest (a.put o.dst v') w') : wpList P ops Q (o :: rest) a (W.alloc (.cells cs e)) := by
  obtain ⟨i, hi, hzz⟩ := Option.map_eq_some_iff.1 hinfo
  simp only [Prod.mk.injEq] at hzz
  obtain ⟨hz0, hz1, hz2⟩ := hzz
  have hle : n + m ≤ 140737488355328 := Nat.le_trans (Nat.le_mul_of_pos_right _ hb0) hbytes
  subst hgW
  refine wpList_app (P := P) (W.alloc (.cells cs e)) hgd s x t ho e i z size bytes ht hi hz0 hz1 hz2 hzs hsz ok v n xs hs (hown.alloc _) _ m cs.toList hx (Src.new W cs e size m hcs h1) (by simp only [maxLen]; omega) hbytes ?_
  intro v' w' h2 h3 h4
  refine h v' w' (h2.weak fun k _ hk => ?_) (World.grownBy.trans (World.grownBy_alloc W _ _) h3) (by simpa using h4)
  rcases hk with hk | rfl
  · exact hk
  · exact hok _ (by simp)
/-- append of a slice that is read. -/
theorem wpList_app_rd {α : Type} (d : Rep α) (W : World) {ops : Array Oper} {rest : List Oper} {o : Oper} {a : Act} {Q : Exit → Act → World → Prop} (hgd : o.guard = none) (s x : Operand) (t : TypeId)
    (ho : o.op = .call { callee := .builtin .append, args := #[s, x], argTypes := #[t, t] })
    (e : TypeId) (z : Value) (bytes : Nat) (ht : P.underlying t = some (.slice e)) (hinfo : (P.info? e).map (fun i => (i.zero, i.size, i.bytes)) = some (some z, d.sz, bytes)) (hzs : z.cells.size = d.sz) (okr oks : Nat → Prop)
    (hok : ∀ k, W.heap.size ≤ k → okr k)
    (v : Value) (n : Nat) (xs : List Value) (hs : a.eval s = v) (hown : Own okr W e d.sz v n xs) (A : Option Addr) (c : Nat) (ys : List α) (hx : a.eval x = .slice A ys.length c) (hrd : Rd d oks W A ys)
    (hbytes : (n + ys.length) * bytes ≤ 140737488355328) (hb0 : 0 < bytes)
    (h : ∀ v' w' cs, Own okr w' e d.sz v' (n + ys.length) (xs ++ cs) → Reps d oks W ys cs → W.grownBy w' (rowOf v) → (rowOf v' = rowOf v ∨ rowOf v' = some W.heap.size) → wpList P ops Q rest (a.put o.dst v') w') : wpList P ops Q (o :: rest) a W := by
  obtain ⟨i, hi, hzz⟩ := Option.map_eq_some_iff.1 hinfo
  simp only [Prod.mk.injEq] at hzz
  obtain ⟨hz0, hz1, hz2⟩ := hzz
  have hle : n + ys.length ≤ 140737488355328 := Nat.le_trans (Nat.le_mul_of_pos_right _ hb0) hbytes
  obtain ⟨cs, hsrc, hreps⟩ := hrd.src c
  refine wpList_app (P := P) W hgd s x t ho e i z d.sz bytes ht hi hz0 hz1 hz2 hzs d.pos okr v n xs hs hown _ ys.length cs hx hsrc (by simp only [maxLen]; omega) hbytes ?_
  intro v' w' h2 h3 h4
  refine h v' w' cs (h2.weak fun k _ hk => ?_) hreps h3 h4
  rcases hk with hk | rfl
  · exact hk
  · exact hok _ (Nat.le_refl _)
end

theorem Rd.nilA {α : Type} {d : Rep α} {ok : Nat → Prop} {w : World} {xs : List α} (h : Rd d ok w none xs) : xs = [] := by
  cases xs with
  | nil => rfl
  | cons x r =>
    obtain ⟨b, o, cs, hA, _⟩ := h 0 x rfl
    cases hA
/-! ### bytes -/
def bV (l : List UInt8) : List Value := l.map fun b => .int .u8 (b.toNat : Int)
theorem u8_reps {ok : Nat → Prop} {w : World} {xs : List UInt8} {cs : List Value} (h : Reps u8 ok w xs cs) : cs = bV xs := by
  obtain ⟨h1, h2⟩ := h
  have hl : cs.length = xs.length := by rw [h1]; exact Nat.mul_one _
  apply List.ext_getElem
  · simp [bV, hl]
  · intro i hi1 hi2
    have hx : i < xs.length := by omega
    have := h2 i xs[i] (List.getElem?_eq_getElem hx)
    obtain ⟨h3, _⟩ := this
    have h4 : (List.take 1 (List.drop i cs))[0]? = some (u8V xs[i]) := by
      have e : i * u8.sz = i := Nat.mul_one _
      rw [e] at h3
      have e2 : u8.sz = 1 := rfl
      rw [e2] at h3
      rw [h3]; rfl
    rw [List.getElem?_take, if_pos (by omega), List.getElem?_drop, Nat.add_zero, List.getElem?_eq_getElem hi1] at h4
    injection h4 with h4
    rw [h4]
    simp [bV, u8V]
theorem reps_u8 (ok : Nat → Prop) (w : World) (xs : List UInt8) : Reps u8 ok w xs (bV xs) := by
  refine ⟨by simp [bV]; exact (Nat.mul_one _).symm, fun j x hx => ⟨?_, trivial⟩⟩
  have e : j * u8.sz = j := Nat.mul_one _
  have e2 : u8.sz = 1 := rfl
  have hj : j < xs.length := by
    rcases Nat.lt_or_ge j xs.length with h' | h'
    · exact h'
    · rw [List.getElem?_eq_none h'] at hx; cases hx
  rw [e, e2]
  apply List.ext_getElem?
  intro i
  rcases i with _ | i
  · simp [bV, List.getElem?_drop, hx, u8V]
  · simp [List.getElem?_take]
theorem bV_append (a b : List UInt8) : bV (a ++ b) = bV a ++ bV b := by simp [bV]
theorem bV_length (a : List UInt8) : (bV a).length = a.length := by simp [bV]
/-- One byte of a slice that is read. -/
theorem Rd.byte {ok : Nat → Prop} {w : World} {A : Option Addr} {xs : List UInt8} (h : Rd u8 ok w A xs) (j : Nat) (x : UInt8) (hx : xs[j]? = some x) : ∃ b o, A = some ⟨b, o, none⟩ ∧ b < w.heap.size ∧ ok b ∧ w.cell? ⟨b, o + j, none⟩ = some (.int .u8 (x.toNat : Int)) := by
  obtain ⟨b, o, cs, hA, hb, ⟨rfl, _⟩, hc⟩ := h j x hx
  have := hc 0 _ rfl
  have e : o + j * u8.sz + 0 = o + j := by simp [show u8.sz = 1 from rfl]
  rw [e] at this
  exact ⟨b, o, hA, cell_lt this, hb, this⟩
theorem Rd.of_bytes {ok : Nat → Prop} {w : World} {b o : Nat} {xs : List UInt8} (hok : ok b) (h : ∀ (j : Nat) x, xs[j]? = some x → w.cell? ⟨b, o + j, none⟩ = some (.int .u8 (x.toNat : Int))) : Rd u8 ok w (some ⟨b, o, none⟩) xs := by
  intro j x hx
  refine ⟨b, o, [u8V x], rfl, hok, ⟨rfl, trivial⟩, fun i u hu => ?_⟩
  rcases i with _ | i
  · have e : o + j * u8.sz + 0 = o + j := by simp [show u8.sz = 1 from rfl]
    rw [e, h j x hx]
    simpa [u8V] using hu
  · simp at hu
/-- A byte slice of the call's own. -/
def OwnB (ok : Nat → Prop) (w : World) (v : Value) (xs : List UInt8) : Prop := Own ok w 5 1 v xs.length (bV xs)
theorem OwnB.rd {ok : Nat → Prop} {w : World} {v : Value} {xs : List UInt8} (h : OwnB ok w v xs) : ∃ A c, v = .slice A xs.length c ∧ xs.length ≤ c ∧ c ≤ maxCap ∧ Rd u8 ok w A xs := by
  have h' : OwnL u8 ok ok w 5 v xs := ⟨bV xs, h, reps_u8 _ _ _⟩
  obtain ⟨A, c, h1, h2, h3, h4⟩ := h'.rd
  exact ⟨A, c, h1, h2, h3, h4.weak fun k _ hk => hk.elim id id⟩
theorem infoU8 : (Tryd.prog.info? 5).map (fun i => (i.zero, i.size, i.bytes)) = some (some (.int .u8 0), 1, 1) := by kernel_rfl
section
variable {ops : Array Oper} {rest : List Oper} {o : Oper} {a : Act} {Q : Exit → Act → World → Prop}
/-- append of bytes that are read. -/
theorem wpList_appB (v : Value) (xs : List UInt8) (A : Option Addr) (c : Nat) (ys : List UInt8) (okr oks : Nat → Prop) (W : World) (t : TypeId) (hgd : o.guard = none) (s x : Operand)
    (ho : o.op = .call { callee := .builtin .append, args := #[s, x], argTypes := #[t, t] }) (ht : Tryd.prog.underlying t = some (.slice 5))
    (hs : a.eval s = v) (hx : a.eval x = .slice A ys.length c) (hok : ∀ k, W.heap.size ≤ k → okr k) (hown : OwnB okr W v xs) (hrd : Rd u8 oks W A ys)
    (hbytes : xs.length + ys.length ≤ 140737488355328)
    (h : ∀ v' w', OwnB okr w' v' (xs ++ ys) → W.grownBy w' (rowOf v) → (rowOf v' = rowOf v ∨ rowOf v' = some W.heap.size) → wpList Tryd.prog ops Q rest (a.put o.dst v') w') : wpList Tryd.prog ops Q (o :: rest) a W := by
  refine wpList_app_rd u8 W hgd s x t ho 5 _ 1 ht infoU8 rfl okr oks hok v xs.length (bV xs) hs hown A c ys hx hrd (by omega) (by omega) ?_
  intro v' w' cs h1 h2 h3 h4
  have e := u8_reps h2
  subst e
  refine h v' w' ?_ h3 h4
  rw [OwnB, List.length_append, bV_append]
  exact h1
/-- append of bytes that were just laid. -/
theorem wpList_appB_new (v : Value) (xs ys : List UInt8) (okr : Nat → Prop) (W : World) (cs : Array Value) (t : TypeId) (hgd : o.guard = none) (s x : Operand)
    (ho : o.op = .call { callee := .builtin .append, args := #[s, x], argTypes := #[t, t] }) (ht : Tryd.prog.underlying t = some (.slice 5))
    (hs : a.eval s = v) (g : Nat) (hx : a.eval x = .slice (some ⟨g, 0, none⟩) ys.length ys.length) (hgW : W.heap.size = g) (hcs : cs.toList = bV ys) (hok : ∀ k, W.heap.size ≤ k → okr k) (hown : OwnB okr W v xs)
    (hbytes : xs.length + ys.length ≤ 140737488355328)
    (h : ∀ v' w', OwnB okr w' v' (xs ++ ys) → W.grownBy w' (rowOf v) → (rowOf v' = rowOf v ∨ rowOf v' = some (W.heap.size + 1)) → wpList Tryd.prog ops Q rest (a.put o.dst v') w') : wpList Tryd.prog ops Q (o :: rest) a (W.alloc (.cells cs 5)) := by
  refine wpList_app_new W hgd s x t ho 5 (.int .u8 0) 1 1 ht infoU8 rfl (by omega) okr hok cs ys.length (by rw [Nat.mul_one, ← Array.length_toList, hcs, bV_length]) (by rw [hcs]; intro u hu; simp only [bV, List.mem_map] at hu; obtain ⟨b, _, rfl⟩ := hu; rfl) v xs.length (bV xs) hs hown g hx hgW (by omega) (by omega) ?_
  intro v' w' h1 h2 h3
  refine h v' w' ?_ h2 h3
  rw [OwnB, List.length_append, bV_append, ← hcs]
  exact h1
end
/-! ### a row of elements of the call's own, in blocks from B on; what its elements lead to lies elsewhere -/
def OwnX {α : Type} (d : Rep α) (B : Nat) (oke : Nat → Prop) (w : World) (e : Nat) (v : Value) (xs : List α) : Prop := OwnL d (fun k => B ≤ k) (fun k => oke k ∧ some k ≠ rowOf v) w e v xs
theorem OwnX.nil {α : Type} (d : Rep α) (B : Nat) (oke : Nat → Prop) (w : World) (e : Nat) : OwnX d B oke w e (.slice none 0 0) [] := OwnL.nil _ _ _ _ _
theorem OwnX.below {α : Type} {d : Rep α} {B C : Nat} {oke : Nat → Prop} {w w' : World} {e : Nat} {v : Value} {xs : List α} (h : OwnX d B oke w e v xs) (hb : Below C w w') (hC : w.heap.size ≤ C) : OwnX d B oke w' e v xs := by
  obtain ⟨cs, ho, hr⟩ := h
  exact ⟨cs, ho.below hb hC, hr.below hb hC⟩
theorem OwnX.rd {α : Type} {d : Rep α} {B : Nat} {oke : Nat → Prop} {w : World} {e : Nat} {v : Value} {xs : List α} (h : OwnX d B oke w e v xs) :
    ∃ A c, v = .slice A xs.length c ∧ xs.length ≤ c ∧ c ≤ maxCap ∧ Rd d (fun k => B ≤ k ∨ oke k) w A xs := by
  obtain ⟨A, c, h1, h2, h3, h4⟩ := OwnL.rd h
  exact ⟨A, c, h1, h2, h3, h4.weak fun k _ hk => hk.imp id And.left⟩
section
variable {ops : Array Oper} {rest : List Oper} {o : Oper} {a : Act} {Q : Exit → Act → World → Prop}
/-- append of one element that was just laid. -/
theorem wpList_appX {α : Type} (d : Rep α) (B : Nat) (oke : Nat → Prop) (x : α) (v : Value) (xs : List α) (W : World) (cs : Array Value) (t e : TypeId) (z : Value) (bytes : Nat) (hgd : o.guard = none) (s y : Operand)
    (ho : o.op = .call { callee := .builtin .append, args := #[s, y], argTypes := #[t, t] }) (ht : Tryd.prog.underlying t = some (.slice e)) (hinfo : (Tryd.prog.info? e).map (fun i => (i.zero, i.size, i.bytes)) = some (some z, d.sz, bytes)) (hzs : z.cells.size = d.sz)
    (hs : a.eval s = v) (g : Nat) (hy : a.eval y = .slice (some ⟨g, 0, none⟩) 1 1) (hgW : W.heap.size = g) (hB : B ≤ W.heap.size) (hown : OwnX d B oke W e v xs) (hK : d.K (fun k => oke k ∧ some k ≠ rowOf v) W x cs.toList)
    (hbytes : (xs.length + 1) * bytes ≤ 140737488355328) (hb0 : 0 < bytes)
    (h : ∀ A' c' w', OwnX d B oke w' e (.slice A' (xs ++ [x]).length c') (xs ++ [x]) → Below B W w' → W.grownBy w' (rowOf v) → (xs ++ [x]).length ≤ c' → c' ≤ maxCap → wpList Tryd.prog ops Q rest (a.put o.dst (.slice A' (xs ++ [x]).length c')) w') :
    wpList Tryd.prog ops Q (o :: rest) a (W.alloc (.cells cs e)) := by
  obtain ⟨c0, hown, hr⟩ := hown
  have hK1 : d.K (fun k => oke k ∧ some k ≠ rowOf v) (W.alloc (.cells cs e)) x cs.toList := d.move (fun k hk _ => heap_alloc_lt _ _ hk) hK
  refine wpList_app_new W hgd s y t ho e z d.sz bytes ht hinfo hzs d.pos (fun k => B ≤ k) (fun k hk => Nat.le_trans hB hk) cs 1 (by rw [Nat.one_mul, ← Array.length_toList, d.len hK]) (d.one hK) v xs.length c0 hs hown g hy hgW hbytes hb0 ?_
  intro v' w' h1 h2 h3
  have hb : Below B W w' := (Below.refl B W).grown h2 hB (fun k hk => (hown.row k hk).1)
  have hsz := h2.size
  have hlen : (xs ++ [x]).length = xs.length + 1 := by simp
  rw [← hlen] at h1
  obtain ⟨A', c', rfl, hl, hc⟩ := h1.form
  refine h A' c' w' ⟨c0 ++ cs.toList, h1, ?_⟩ hb h2 hl hc
  have r1 : Reps d (fun k => oke k ∧ some k ≠ rowOf v ∧ k < W.heap.size) W (xs ++ [x]) (c0 ++ cs.toList) := (hr.append (Reps.single hK)).weak fun k hk h => ⟨h.1, h.2, hk⟩
  refine (r1.move fun k hk h => h2.block k hk h.2.1).weak ?_
  rintro k _ ⟨h5, h6, h7⟩
  refine ⟨h5, ?_⟩
  rcases h3 with h3 | h3
  · rw [h3]; exact h6
  · rw [h3]; intro e; injection e with e; omega
end
theorem beq_int (a b : Nat) : ((a : Int) == (b : Int)) = (a == b) := by
  by_cases h : a = b
  · subst h; simp
  · have h1 : ((a : Int) == (b : Int)) = false := by simp; omega
    have h2 : (a == b) = false := by simp [h]
    rw [h1, h2]
theorem lt_of_getElem? {α : Type} {l : List α} {i : Nat} {x : α} (h : l[i]? = some x) : i < l.length := by
  rcases Nat.lt_or_ge i l.length with h' | h'
  · exact h'
  · rw [List.getElem?_eq_none h'] at h; cases h
theorem getElem?_some {α : Type} {l : List α} {i : Nat} (h : i < l.length) : ∃ x, l[i]? = some x := ⟨_, List.getElem?_eq_getElem h⟩
/-- One cell of an own row is written. -/
theorem Own.set {ok : Nat → Prop} {w : World} {e sz b : Nat} {n c : Nat} {xs : List Value} (h : Own ok w e sz (.slice (some ⟨b, 0, none⟩) n c) n xs) (j : Nat) (hj : j < xs.length) (u : Value) :
    Own ok (w.setCell ⟨b, j, none⟩ u) e sz (.slice (some ⟨b, 0, none⟩) n c) n (xs.set j u) := by
  obtain ⟨h1, h2⟩ := h
  refine ⟨by rw [List.length_set]; exact h1, ?_⟩
  rcases h2 with ⟨rfl, A, hv⟩ | ⟨g, cap, cur, hv, hc0, hg, hh, r1, r2, r3, r4⟩
  · rw [h1] at hj; omega
  · injection hv with hA _ hc
    injection hA with hA
    injection hA with hA _ _
    subst hA; subst hc
    refine .inr ⟨b, c, _, rfl, hc0, hg, heap_setCell_eq hh u, r1, r2, by simpa using r3, ?_⟩
    rw [← r4, Array.toList_setIfInBounds, List.take_set]
theorem Reps.set {α : Type} {d : Rep α} {ok : Nat → Prop} {w : World} {xs : List α} {cs : List Value} (h : Reps d ok w xs cs) (i off : Nat) (hi : i < xs.length) (ho : off < d.sz) (x' : α) (u : Value)
    (hK : d.K ok w x' (((cs.drop (i * d.sz)).take d.sz).set off u)) : Reps d ok w (xs.set i x') (cs.set (i * d.sz + off) u) := by
  refine ⟨by rw [List.length_set, List.length_set]; exact h.1, fun j x hx => ?_⟩
  rw [List.getElem?_set] at hx
  split at hx
  · rename_i hij
    subst hij
    injection hx with hx
    subst hx
    rw [List.drop_set, if_neg (by omega), List.take_set]
    have e : i * d.sz + off - i * d.sz = off := by omega
    rw [e]
    exact hK
  · rename_i hij
    have h1 := h.2 j x hx
    have e : ((cs.set (i * d.sz + off) u).drop (j * d.sz)).take d.sz = (cs.drop (j * d.sz)).take d.sz := by
      apply List.ext_getElem?
      intro q
      rw [List.getElem?_take, List.getElem?_take]
      split
      · rename_i hq
        rw [List.getElem?_drop, List.getElem?_drop, List.getElem?_set, if_neg]
        intro e2
        rcases Nat.lt_or_gt_of_ne hij with h3 | h3
        · have := Nat.mul_le_mul_right d.sz (show i + 1 ≤ j by omega)
          rw [Nat.succ_mul] at this
          omega
        · have := Nat.mul_le_mul_right d.sz (show j + 1 ≤ i by omega)
          rw [Nat.succ_mul] at this
          omega
      · rfl
    rw [e]
    exact h1
end Go.Proofs.YtpdjahejcdmopaaDoor
