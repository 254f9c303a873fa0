/- The state of a walk: the boxes of the call's own that are known whole, and data that lies elsewhere, in a world that is a variable. Each operation that turns the world gives a new variable, and the state there. -/
import Derived.Test.YtpdjahejcdmopaaDoorBase
import Derived.Lib.SmallJoins
import Derived.Laws.IdiomStrings
import Derived.Laws.BytesArg
namespace Go.Proofs.YtpdjahejcdmopaaDoor
open Go.RowKit
set_option linter.unusedVariables false
/-- A fact on data in memory that lasts as its blocks do. -/
structure Dat where
  P : (Nat → Prop) → World → Prop
  move : ∀ {ok ok' : Nat → Prop} {w w' : World}, (∀ k, k < w.heap.size → ok k → w'.heap[k]? = w.heap[k]? ∧ ok' k) → P ok w → P ok' w'
def Dat.rd {α : Type} (d : Rep α) (A : Option Addr) (xs : List α) : Dat where
  P := fun ok w => Rd d ok w A xs
  move := by
    intro ok ok' w w' hm h
    have h1 : Rd d (fun k => ok k ∧ ok' k) w A xs := h.weak fun k hk ho => ⟨ho, (hm k hk ho).2⟩
    exact (h1.move fun k hk ho => (hm k hk ho.1).1).weak fun k _ ho => ho.2
/-- A box: its block, its cells, its type. -/
structure Bx where
  b : Nat
  cs : List Value
  T : TypeId
/-- No box. -/
def Off (L : List Bx) (k : Nat) : Prop := ∀ x ∈ L, x.b ≠ k
def Has (w : World) (x : Bx) : Prop := w.heap[x.b]? = some (.cells x.cs.toArray x.T (0, 0))
structure St (w0 w : World) (L : List Bx) (D : List Dat) : Prop where
  below : Below w0.heap.size w0 w
  box : ∀ x ∈ L, Has w x ∧ w0.heap.size ≤ x.b
  nodup : (L.map Bx.b).Nodup
  dat : ∀ d ∈ D, d.P (Off L) w
theorem Has.lt {w : World} {x : Bx} (h : Has w x) : x.b < w.heap.size := heap_lt h
theorem St.begin (w : World) : St w w [] [] := ⟨Below.refl _ _, by simp, by simp, by simp⟩
/-- What is read of the arguments. -/
theorem St.arg {w : World} {D : List Dat} (h : St w w [] D) (d : Dat) {ok : Nat → Prop} (hd : d.P ok w) : St w w [] (d :: D) := by
  refine ⟨h.below, h.box, h.nodup, fun e he => ?_⟩
  rcases List.mem_cons.1 he with rfl | he
  · exact e.move (fun k hk ho => ⟨rfl, fun x hx => by simp at hx⟩) hd
  · exact h.dat e he
theorem St.rd {w0 w : World} {L : List Bx} {D : List Dat} (h : St w0 w L D) {α : Type} {d : Rep α} {A : Option Addr} {xs : List α} (i : Nat) (hi : D[i]? = some (Dat.rd d A xs)) : Rd d (Off L) w A xs :=
  h.dat _ (List.mem_of_getElem? hi)
/-- A call: what was there is as it was, and new data lies in new blocks. -/
theorem St.call {w0 w w' : World} {L : List Bx} {D : List Dat} (h : St w0 w L D) (hb : Below w.heap.size w w') : St w0 w' L D := by
  refine ⟨h.below.trans (hb.mono h.below.size), fun x hx => ⟨?_, (h.box x hx).2⟩, h.nodup, fun d hd => d.move (fun k hk ho => ⟨hb.block k hk, ho⟩) (h.dat d hd)⟩
  have := (h.box x hx).1
  exact (hb.block _ this.lt).trans this
theorem St.off {w0 w : World} {L : List Bx} {D : List Dat} (h : St w0 w L D) {k : Nat} (hk : w.heap.size ≤ k) : Off L k := fun x hx e => by
  have := ((h.box x hx).1).lt
  omega
theorem St.callD {w0 w w' : World} {L : List Bx} {D : List Dat} (h : St w0 w L D) (d : Dat) (hb : Below w.heap.size w w') (hd : d.P (fun k => w.heap.size ≤ k) w') : St w0 w' L (d :: D) := by
  have h1 := h.call hb
  refine ⟨h1.below, h1.box, h1.nodup, fun e he => ?_⟩
  rcases List.mem_cons.1 he with rfl | he
  · exact e.move (fun k hk ho => ⟨rfl, h.off ho⟩) hd
  · exact h1.dat e he
theorem St.callRd {w0 w w' : World} {L : List Bx} {D : List Dat} (h : St w0 w L D) (hb : Below w.heap.size w w') {α : Type} {d : Rep α} {A : Option Addr} {xs : List α} (hd : Rd d (fun k => w.heap.size ≤ k) w' A xs) : St w0 w' L (Dat.rd d A xs :: D) := h.callD _ hb hd
/-- New data whose parts lie in new blocks or in no box. -/
theorem St.callRo {w0 w w' : World} {L : List Bx} {D : List Dat} (h : St w0 w L D) (hb : Below w.heap.size w w') {α : Type} {d : Rep α} {A : Option Addr} {xs : List α} (hd : Rd d (fun k => w.heap.size ≤ k ∨ Off L k) w' A xs) : St w0 w' L (Dat.rd d A xs :: D) := by
  have h1 := h.call hb
  refine ⟨h1.below, h1.box, h1.nodup, fun e he => ?_⟩
  rcases List.mem_cons.1 he with rfl | he
  · exact hd.weak fun k _ hk => hk.elim (fun hk => h.off hk) id
  · exact h1.dat e he
/-- Data is forgotten. -/
theorem St.drop {w0 w : World} {L : List Bx} {D : List Dat} (h : St w0 w L D) (D' : List Dat) (hD : ∀ d ∈ D', d ∈ D) : St w0 w L D' :=
  ⟨h.below, h.box, h.nodup, fun d hd => h.dat d (hD d hd)⟩
theorem St.drewN {w0 w : World} {L : List Bx} {D : List Dat} (h : St w0 w L D) (n : Nat) : St w0 (w.drewN n) L D := h.call ⟨rfl, rfl, rfl, Nat.le_refl _, fun _ _ => rfl⟩
theorem St.drew {w0 w : World} {L : List Bx} {D : List Dat} (h : St w0 w L D) : St w0 w.drew L D := h.drewN 1
/-- A new box. -/
theorem St.alloc {w0 w : World} {L : List Bx} {D : List Dat} (h : St w0 w L D) (cs : List Value) (T : TypeId) : St w0 (w.alloc (.cells cs.toArray T)) (⟨w.heap.size, cs, T⟩ :: L) D := by
  have h1 := h.call ((Below.refl w.heap.size w).alloc (Nat.le_refl _) (.cells cs.toArray T))
  refine ⟨h1.below, fun x hx => ?_, ?_, fun d hd => d.move (fun k hk ho => ⟨heap_alloc_lt _ _ hk, fun x hx => ?_⟩) (h.dat d hd)⟩
  · rcases List.mem_cons.1 hx with rfl | hx
    · exact ⟨heap_alloc_new _ _, h.below.size⟩
    · exact h1.box x hx
  · rw [List.map_cons, List.nodup_cons]
    refine ⟨fun hm => ?_, h.nodup⟩
    obtain ⟨x, hx, he⟩ := List.mem_map.1 hm
    have := ((h.box x hx).1).lt
    simp only at he
    omega
  · rcases List.mem_cons.1 hx with rfl | hx
    · simp only; omega
    · exact ho x hx
/-- Bytes that were just laid, as data. -/
theorem St.lit {w0 w : World} {L : List Bx} {D : List Dat} (h : St w0 w L D) (xs : List UInt8) (cs : Array Value) (fr : Nat × Nat) (T : TypeId) (hcs : cs.toList = bV xs) : St w0 (w.alloc (.cells cs T fr)) L (Dat.rd u8 (some ⟨w.heap.size, 0, none⟩) xs :: D) := by
  refine h.callRd ((Below.refl w.heap.size w).alloc (Nat.le_refl _) _) (Rd.of_bytes (Nat.le_refl _) fun j x hj => ?_)
  have h1 : (w.alloc (.cells cs T fr)).heap[w.heap.size]? = some (.cells cs T fr) := heap_alloc_new _ _
  rw [blk_cell h1, ← Array.getElem?_toList, hcs, bV, List.getElem?_map, Nat.zero_add, hj]
  rfl
def putL (cs : List Value) (o : Nat) : List Value → List Value
  | [] => cs
  | v :: r => putL (cs.set o v) (o + 1) r
theorem setCells_box {b : Nat} {T : TypeId} : ∀ (vs : List Value) (o : Nat) (w : World) (cs : List Value), w.heap[b]? = some (.cells cs.toArray T (0, 0)) → (w.setCells b o vs).heap[b]? = some (.cells (putL cs o vs).toArray T (0, 0))
  | [], _, _, _, h => h
  | v :: r, o, w, cs, h => by
    rw [World.setCells, putL]
    refine setCells_box r (o + 1) _ _ ?_
    rw [heap_setCell_eq h]
    simp
theorem setCells_same {b : Nat} : ∀ (vs : List Value) (o : Nat) (w : World), (w.setCells b o vs).os = w.os ∧ (w.setCells b o vs).tape = w.tape ∧ (w.setCells b o vs).output = w.output ∧ (w.setCells b o vs).heap.size = w.heap.size ∧ ∀ k, k ≠ b → (w.setCells b o vs).heap[k]? = w.heap[k]?
  | [], _, _ => ⟨rfl, rfl, rfl, rfl, fun _ _ => rfl⟩
  | v :: r, o, w => by
    obtain ⟨h1, h2, h3, h4, h5⟩ := setCells_same r (o + 1) (w.setCell ⟨b, o, none⟩ v)
    rw [World.setCells]
    exact ⟨h1, h2, h3, h4.trans (size_set _ _ _), fun k hk => (h5 k hk).trans (Below.heap_setCell _ _ _ _ hk)⟩
/-- Another content of a box. -/
theorem St.put {w0 w : World} {L : List Bx} {D : List Dat} (h : St w0 w L D) (i : Nat) {b : Nat} {cs : List Value} {T : TypeId} (hi : L[i]? = some ⟨b, cs, T⟩) (o : Nat) (vs : List Value) : St w0 (w.setCells b o vs) (L.set i ⟨b, putL cs o vs, T⟩) D := by
  obtain ⟨h1, h2, h3, h4, h5⟩ := setCells_same vs o w (b := b)
  have hm := List.mem_of_getElem? hi
  have hx0 := h.box _ hm
  have hmap : (L.set i ⟨b, putL cs o vs, T⟩).map Bx.b = L.map Bx.b := by
    rw [List.map_set]
    apply List.ext_getElem?
    intro j
    rw [List.getElem?_set]
    split
    · rename_i hij
      subst hij
      rw [List.getElem?_map, hi]
      simp only [Option.map_some]
      rw [if_pos]
      exact lt_of_getElem? (by rw [List.getElem?_map, hi]; rfl)
    · rfl
  have hmem : ∀ x ∈ L.set i ⟨b, putL cs o vs, T⟩, x = ⟨b, putL cs o vs, T⟩ ∨ (x ∈ L ∧ x.b ≠ b) := by
    intro x hx
    obtain ⟨j, hj⟩ := List.getElem?_of_mem hx
    rw [List.getElem?_set] at hj
    split at hj
    · split at hj
      · exact .inl (Option.some.inj hj).symm
      · cases hj
    · rename_i hij
      refine .inr ⟨List.mem_of_getElem? hj, fun e => hij ?_⟩
      have e1 : (L.map Bx.b)[i]? = some b := by rw [List.getElem?_map, hi]; rfl
      have e2 : (L.map Bx.b)[j]? = some b := by rw [List.getElem?_map, hj]; exact congrArg some e
      exact (List.getElem?_inj (lt_of_getElem? e1) h.nodup).1 (e1.trans e2.symm)
  have hoff : ∀ k, Off L k → Off (L.set i ⟨b, putL cs o vs, T⟩) k := by
    intro k hk x hx
    rcases hmem x hx with rfl | ⟨hx, _⟩
    · exact hk ⟨b, cs, T⟩ hm
    · exact hk x hx
  refine ⟨⟨h1.trans h.below.os, h2.trans h.below.tape, h3.trans h.below.output, by rw [h4]; exact h.below.size, fun k hk => (h5 k (by have h6 : w0.heap.size ≤ b := hx0.2; omega)).trans (h.below.block k hk)⟩, fun x hx => ?_, ?_, fun d hd => d.move (fun k hk ho => ⟨h5 k (fun e => ho _ hm e.symm), hoff k ho⟩) (h.dat d hd)⟩
  · rcases hmem x hx with rfl | ⟨hx, hne⟩
    · exact ⟨setCells_box vs o w cs hx0.1, hx0.2⟩
    · exact ⟨(h5 _ hne).trans (h.box x hx).1, (h.box x hx).2⟩
  · rw [hmap]; exact h.nodup
/-- The boxes' cells, as the walk reads them. -/
def Facts (w : World) : List Bx → Prop
  | [] => True
  | x :: L => ((∀ o, w.cell? ⟨x.b, o, none⟩ = x.cs[o]?) ∧ ∀ o, w.frozen? ⟨x.b, o, none⟩ = false) ∧ Facts w L
theorem facts_of {w : World} : ∀ {L : List Bx}, (∀ x ∈ L, Has w x) → Facts w L
  | [], _ => trivial
  | x :: L, h => ⟨⟨fun o => by rw [blk_cell (h x (by simp))]; simp, fun o => blk_frozen (h x (by simp)) o⟩, facts_of fun y hy => h y (List.mem_cons_of_mem _ hy)⟩
theorem St.facts {w0 w : World} {L : List Bx} {D : List Dat} (h : St w0 w L D) : Facts w L := facts_of fun x hx => (h.box x hx).1
theorem St.has {w0 w : World} {L : List Bx} {D : List Dat} (h : St w0 w L D) (i : Nat) {x : Bx} (hi : L[i]? = some x) : Has w x := (h.box x (List.mem_of_getElem? hi)).1
theorem run_str {P : Program} {ok : Nat → Prop} {w : World} {A : Option Addr} {xs : List UInt8} (h : Rd u8 ok w A xs) (n : Nat) (hn : xs.length = n) (c : Nat) {src dst e : TypeId} (hs : P.underlying src = some (.slice e)) (he : P.underlying e = some (.int .u8)) (hd : P.underlying dst = some .string) :
    (convert src dst (.slice A n c)).run P w = .ok (.string ⟨xs.toArray⟩) w := by
  subst hn
  cases A with
  | none =>
    obtain rfl := h.nilA
    exact run_convert_bytes_nil w src e hs he _ _ dst hd
  | some a =>
    refine run_convert_bytes_back w src dst e a c xs hs he hd fun j hj => ?_
    obtain ⟨b, o, e, _, _, hc⟩ := h.byte j xs[j] (List.getElem?_eq_getElem hj)
    cases e
    have hplain : (⟨b, o, none⟩ : Addr).add j = ⟨b, o + j, none⟩ := by unfold Addr.add; split <;> simp_all
    rw [hplain]
    exact hc
section
variable {P : Program} {ops : Array Oper} {rest : List Oper} {o : Oper} {a : Act} {Q : Exit → Act → World → Prop} {w0 w : World} {L : List Bx} {D : List Dat}
theorem step_run {v : Value} {w1 : World} (hw : Region.wanted o (yielded ops a.tmps) = true) (hrun : (execOp a.eval o).run P w = .ok (.value v) w1) (h : wpList P ops Q rest (a.put o.dst v) w1) : wpList P ops Q (o :: rest) a w :=
  BigFrame.wpList_want hw fun K hK => by unfold Oper.wp; rw [hrun]; exact hK _ _ h
theorem step_skip {w1 : World} (hw : Region.wanted o (yielded ops a.tmps) = true) (hrun : (execOp a.eval o).run P w = .ok .skip w1) (h : wpList P ops Q rest (a.put o.dst undef) w1) : wpList P ops Q (o :: rest) a w :=
  BigFrame.wpList_want hw fun K hK => by unfold Oper.wp; rw [hrun]; exact hK _ _ h
theorem wanted_of (hgd : o.guard = none) {y : Nat → Option Bool} : Region.wanted o y = true := by unfold Region.wanted; rw [hgd]
theorem at_alloc (hS : St w0 w L D) (T : TypeId) (cs : List Value) (hz : (P.info? T).bind (fun i => i.zero.map fun z => z.cells) = some cs.toArray) (hw : Region.wanted o (yielded ops a.tmps) = true) (ho : o.op = .alloc T)
    (h : ∀ b w', St w0 w' (⟨b, cs, T⟩ :: L) D → wpList P ops Q rest (a.put o.dst (.pointer (some ⟨b, 0, none⟩))) w') : wpList P ops Q (o :: rest) a w := by
  refine step_run hw ?_ (h _ _ (hS.alloc cs T))
  obtain ⟨i, hi, hz1⟩ := Option.bind_eq_some_iff.1 hz
  obtain ⟨z, hz2, hz3⟩ := Option.map_eq_some_iff.1 hz1
  unfold execOp
  rw [ho]
  simp [Instr.alloc, zeroValue, typeInfo, newVar, newRow, hi, hz2, hz3]
theorem at_box (hS : St w0 w L D) {T : TypeId} {x : Operand} (hw : Region.wanted o (yielded ops a.tmps) = true) (ho : o.op = .box T x) {cs : List Value} (hv : (a.eval x).cells = cs.toArray)
    (h : ∀ b w', St w0 w' (⟨b, cs, T⟩ :: L) D → wpList P ops Q rest (a.put o.dst (.pointer (some ⟨b, 0, none⟩))) w') : wpList P ops Q (o :: rest) a w := by
  refine step_run hw ?_ (h _ _ (hS.alloc cs T))
  unfold execOp
  rw [ho]
  simp [Instr.box, newVar, newRow, hv]
theorem at_store (hS : St w0 w L D) (i : Nat) {t : TypeId} {x y : Operand} (hw : Region.wanted o (yielded ops a.tmps) = true) (ho : o.op = .store t x y) {b : Nat} {cs : List Value} {T : TypeId} (hL : L[i]? = some ⟨b, cs, T⟩)
    {off : Nat} (ha : a.eval x = .pointer (some ⟨b, off, none⟩)) {vs : List Value} (hv : (a.eval y).cells = vs.toArray) (hn : (P.info? t).map (·.size) = some vs.length) (hlen : off + vs.length ≤ cs.length) (h1 : vs.all (·.oneCell') = true)
    (h : ∀ w', St w0 w' (L.set i ⟨b, putL cs off vs, T⟩) D → wpList P ops Q rest (a.put o.dst undef) w') : wpList P ops Q (o :: rest) a w := by
  refine step_skip hw ?_ (h _ (hS.put i hL off vs))
  have hb : w.heap[b]? = some (.cells cs.toArray T (0, 0)) := (hS.box _ (List.mem_of_getElem? hL)).1
  obtain ⟨inf, hi, hsz⟩ := Option.map_eq_some_iff.1 hn
  have hrun := run_storeCells_cells (P := P) b off vs 0 w (fun j hj => by rw [blk_cell hb]; simp; omega) (fun j hj => blk_frozen hb _) (fun v hv => List.all_eq_true.1 h1 v hv)
  rw [Nat.add_zero] at hrun
  unfold execOp
  rw [ho]
  simp [Instr.storeAt, Instr.sureAddr, ha, storeVar, sizeOf, typeInfo, hi, hsz, hv, hrun]
/-- []byte("..") of a constant: the bytes are data. -/
theorem at_lit {o2 : Oper} {t e : TypeId} {n : Nat} {parts : Array (Nat × Operand)} {y : Operand} (hS : St w0 w L D) (xs : List UInt8) (hgd : o.guard = none) (ho : o.op = .buildSlice t n parts) (_hp : parts.toList.map (·.2) = (bV xs).map Operand.const) (hgd2 : o2.guard = none) (ho2 : o2.op = .convert t t y)
    (hy : ∀ v, (a.put o.dst v).eval y = v) (ht : P.underlying t = some (.slice e)) (he : P.underlying e = some (.int .u8))
    (hrun : ∀ W, (Instr.buildSlice t n (parts.map fun (i, x) => (i, a.eval x))).run P W = .ok (.slice (some ⟨W.heap.size, 0, none⟩) n n) (W.alloc (.cells (bV xs).toArray e)))
    (h : ∀ b w', St w0 w' L (Dat.rd u8 (some ⟨b, 0, none⟩) xs :: D) → wpList P ops Q rest ((a.put o.dst (.slice (some ⟨b, 0, none⟩) n n)).put o2.dst (.slice (some ⟨b, 0, none⟩) n n)) w') : wpList P ops Q (o :: o2 :: rest) a w := by
  refine step_run (v := .slice (some ⟨w.heap.size, 0, none⟩) n n) (w1 := w.alloc (.cells (bV xs).toArray e)) (wanted_of hgd) ?_ (step_run (v := .slice (some ⟨w.heap.size, 0, none⟩) n n) (w1 := w.alloc (.cells (bV xs).toArray e ((bV xs).toArray.size, (bV xs).toArray.size + 1))) (wanted_of hgd2) ?_ (h _ _ (hS.lit xs _ _ _ (by simp))))
  · unfold execOp
    rw [ho]
    simp [hrun]
  · unfold execOp
    rw [ho2]
    simp only [hy]
    simp [Joins.run_convert_bytes_const_at (P := P) w t e (bV xs).toArray n n w.heap.size rfl ht he]
/-- string(b) of bytes that are data. -/
theorem at_string (hS : St w0 w L D) (i : Nat) {A : Option Addr} {xs : List UInt8} {src dst e : TypeId} {x : Operand} {n c : Nat} (hi : D[i]? = some (Dat.rd u8 A xs)) (hw : Region.wanted o (yielded ops a.tmps) = true) (ho : o.op = .convert src dst x)
    (hx : a.eval x = .slice A n c) (hn : xs.length = n) (hs : P.underlying src = some (.slice e)) (he : P.underlying e = some (.int .u8)) (hd : P.underlying dst = some .string)
    (h : wpList P ops Q rest (a.put o.dst (.string ⟨xs.toArray⟩)) w) : wpList P ops Q (o :: rest) a w := by
  refine step_run hw ?_ h
  unfold execOp
  rw [ho]
  simp [hx, run_str (hS.rd i hi) n hn c hs he hd]
end
end Go.Proofs.YtpdjahejcdmopaaDoor
