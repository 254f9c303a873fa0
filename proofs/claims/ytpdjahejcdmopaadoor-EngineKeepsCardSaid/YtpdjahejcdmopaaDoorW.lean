/- Walks over a frame that is a variable: of it only a list of slots is known. One law an operation; nothing is simplified. -/
import Derived.Test.YtpdjahejcdmopaaDoorRw
import Derived.Test.YtpdjahejcdmopaaDoorOpen
import Derived.Test.YtpdjahejcdmopaaDoorSz
import Derived.Orders
import Derived.Laws.Cover1
import Derived.Deep.MidRow
namespace Go.Proofs.YtpdjahejcdmopaaDoor
open Go.RowKit
set_option linter.unusedVariables false
/-! ### frames -/
def look : List (Nat × Value) → Nat → Option Value
  | [], _ => none
  | (j, v) :: F, i => bif Nat.beq j i then some v else look F i
structure Fr (a : Act) (N : Nat) (F : List (Nat × Value)) : Prop where
  size : a.tmps.size = N
  defers : a.defers = []
  slot : ∀ i v, look F i = some v → a.tmps[i]? = some v
def ev (F : List (Nat × Value)) : Operand → Option Value
  | .tmp i => look F i
  | .const v => some v
  | .global g => some (.pointer (some ⟨g, 0, none⟩))
  | .func f => some (.func (.func f) #[] #[])
section
variable {a : Act} {N : Nat} {F : List (Nat × Value)}
theorem Fr.eval (h : Fr a N F) {x : Operand} {v : Value} (hx : ev F x = some v) : a.eval x = v := by
  cases x with
  | tmp i =>
    have := h.slot i v hx
    show a.tmps.getD i undef = v
    rw [Array.getD_eq_getD_getElem?, this]; rfl
  | const c => exact Option.some.inj hx
  | global g => exact Option.some.inj hx
  | func f => exact Option.some.inj hx
theorem Fr.put (h : Fr a N F) {d : Nat} (hd : Nat.blt d N = true) (v : Value) : Fr (a.put (some d) v) N ((d, v) :: F) := by
  have hdN : d < N := by simpa using hd
  refine ⟨by simpa [Act.put] using h.size, h.defers, fun i u hi => ?_⟩
  show (a.tmps.setIfInBounds d v)[i]? = some u
  rw [Array.getElem?_setIfInBounds]
  by_cases e : d = i
  · subst e
    have hi' : (bif Nat.beq d d then some v else look F d) = some u := hi
    rw [Nat.beq_refl] at hi'
    obtain rfl := Option.some.inj hi'
    rw [if_pos rfl, if_pos (by rw [h.size]; exact hdN)]
  · rw [if_neg e]
    have hb : Nat.beq d i = false := by
      rw [← Bool.not_eq_true]; intro q; exact e (Nat.eq_of_beq_eq_true q)
    have hi' : (bif Nat.beq d i then some v else look F i) = some u := hi
    rw [hb] at hi'
    exact h.slot i u hi'
theorem Fr.put0 (h : Fr a N F) (v : Value) : Fr (a.put none v) N F := h
/-- Some of the slots. -/
def keepF (F : List (Nat × Value)) : List Nat → List (Nat × Value)
  | [] => []
  | k :: ks => match look F k with
    | some v => (k, v) :: keepF F ks
    | none => keepF F ks
theorem look_keepF (F : List (Nat × Value)) : ∀ (ks : List Nat) (i : Nat) (v : Value), look (keepF F ks) i = some v → look F i = some v
  | [], _, _, h => by cases h
  | k :: ks, i, v, h => by
    rw [keepF] at h
    split at h
    · rename_i u hu
      have h' : (bif Nat.beq k i then some u else look (keepF F ks) i) = some v := h
      cases hb : Nat.beq k i with
      | true =>
        rw [hb] at h'
        obtain rfl := Option.some.inj h'
        rw [← Nat.eq_of_beq_eq_true hb]
        exact hu
      | false =>
        rw [hb] at h'
        exact look_keepF F ks i v h'
    · exact look_keepF F ks i v h
theorem Fr.keep (h : Fr a N F) (ks : List Nat) : Fr a N (keepF F ks) := ⟨h.size, h.defers, fun i v hi => h.slot i v (look_keepF F ks i v hi)⟩
theorem Fr.sub (h : Fr a N F) (F' : List (Nat × Value)) (hF : ∀ p ∈ F', look F p.1 = some p.2) : Fr a N F' := by
  refine ⟨h.size, h.defers, fun i v hi => h.slot i v ?_⟩
  clear h
  induction F' with
  | nil => cases hi
  | cons p F' ih =>
    obtain ⟨pj, pv⟩ := p
    have hi' : (bif Nat.beq pj i then some pv else look F' i) = some v := hi
    cases hb : Nat.beq pj i with
    | true =>
      rw [hb] at hi'
      obtain rfl := Option.some.inj hi'
      rw [← Nat.eq_of_beq_eq_true hb]
      exact hF (pj, pv) (by simp)
    | false =>
      rw [hb] at hi'
      exact ih (fun q hq => hF q (List.mem_cons_of_mem _ hq)) hi'
end
/-- Is it carried out? -/
def want (F : List (Nat × Value)) (ops : Array Oper) (o : Oper) : Option Bool :=
  match o.guard with
  | none => some true
  | some (j, b) => match (ops[j]?).bind (·.dst) with
    | none => none
    | some t => match look F t with
      | some (.bool c) => some (c == b)
      | some (.tuple _) => some false
      | _ => none
section
variable {P : Program} {ops : Array Oper} {rest : List Oper} {o : Oper} {a : Act} {Q : Exit → Act → World → Prop} {w w' : World} {N d : Nat} {F : List (Nat × Value)}
theorem want_spec (hA : Fr a N F) {r : Bool} (h : want F ops o = some r) : Region.wanted o (yielded ops a.tmps) = r := by
  unfold want at h
  unfold Region.wanted
  split at h
  · rename_i hg; rw [hg]; exact Option.some.inj h
  · rename_i j b hg
    rw [hg]
    simp only
    split at h
    · cases h
    · rename_i t ht
      unfold yielded
      rw [ht]
      simp only [Option.bind_some]
      split at h
      · rename_i c hc
        rw [hA.slot _ _ hc]
        simp only
        rw [← Option.some.inj h]
        cases c <;> cases b <;> rfl
      · rename_i c hc
        rw [hA.slot _ _ hc]
        rw [← Option.some.inj h]
        rfl
      · cases h
theorem w_nil (h : Q .normal a w) : wpList P ops Q [] a w := h
theorem w_skip (hA : Fr a N F) (hw : want F ops o = some false) (hd : o.dst = some d) (hdN : Nat.blt d N = true) (h : ∀ a', Fr a' N ((d, undef) :: F) → wpList P ops Q rest a' w) : wpList P ops Q (o :: rest) a w := by
  refine wpList_skip (want_spec hA hw) ?_
  rw [hd]
  exact h _ (hA.put hdN _)
theorem w_skip0 (hA : Fr a N F) (hw : want F ops o = some false) (hd : o.dst = none) (h : wpList P ops Q rest a w) : wpList P ops Q (o :: rest) a w := by
  refine wpList_skip (want_spec hA hw) ?_
  rw [hd]
  exact h
/-- An operation that yields a value. -/
theorem w_val (hA : Fr a N F) (hw : want F ops o = some true) (hd : o.dst = some d) (hdN : Nat.blt d N = true) {v : Value} (hrun : (execOp a.eval o).run P w = .ok (.value v) w') (h : ∀ a', Fr a' N ((d, v) :: F) → wpList P ops Q rest a' w') :
    wpList P ops Q (o :: rest) a w := by
  refine BigFrame.wpList_want (want_spec hA hw) fun K hK => ?_
  unfold Oper.wp
  rw [hrun, Oper.upon_value, hd]
  exact hK _ _ (h _ (hA.put hdN v))
/-- An operation that does something and yields nothing. -/
theorem w_do (hA : Fr a N F) (hw : want F ops o = some true) (hd : o.dst = none) (hrun : (execOp a.eval o).run P w = .ok .skip w') (h : wpList P ops Q rest a w') : wpList P ops Q (o :: rest) a w := by
  refine BigFrame.wpList_want (want_spec hA hw) fun K hK => ?_
  unfold Oper.wp
  rw [hrun, Oper.upon_skip, hd]
  exact hK _ _ h
/-- What an operation yields wherever these slots, and what S tells, are. -/
def Yl (P : Program) (F : List (Nat × Value)) (S : World → Prop) (o : Oper) (v : Value) : Prop := ∀ (a : Act) (N : Nat) (w : World), Fr a N F → S w → (execOp a.eval o).run P w = .ok (.value v) w
theorem w_yl {S : World → Prop} (hA : Fr a N F) {v : Value} (hy : Yl P F S o v) (hS : S w) (hw : want F ops o = some true) (hd : o.dst = some d) (hdN : Nat.blt d N = true) (h : ∀ a', Fr a' N ((d, v) :: F) → wpList P ops Q rest a' w) : wpList P ops Q (o :: rest) a w :=
  w_val hA hw hd hdN (hy a N w hA hS) h
end
/-! ### what the operations yield -/
section
variable {P : Program} {o : Oper} {F : List (Nat × Value)} {S : World → Prop}
theorem y_move {x : Operand} {v : Value} (ho : o.op = .move x) (hx : ev F x = some v) : Yl P F S o v := fun a N w hA _ => by
  unfold execOp; rw [ho]; simp [hA.eval hx]
theorem y_assign {x : Operand} {v : Value} (ho : o.op = .assign x) (hx : ev F x = some v) : Yl P F S o v := fun a N w hA _ => by
  unfold execOp; rw [ho]; simp [hA.eval hx]
theorem y_pick_t {c x y : Operand} {v : Value} (ho : o.op = .pick c x y) (hc : ev F c = some (.bool true)) (hx : ev F x = some v) : Yl P F S o v := fun a N w hA _ => by
  unfold execOp; rw [ho]; simp [hA.eval hc, hA.eval hx, asBool]
theorem y_pick_f {c x y : Operand} {v : Value} (ho : o.op = .pick c x y) (hc : ev F c = some (.bool false)) (hx : ev F y = some v) : Yl P F S o v := fun a N w hA _ => by
  unfold execOp; rw [ho]; simp [hA.eval hc, hA.eval hx, asBool]
theorem y_extract {x : Operand} {i : Nat} {l : List Value} {v : Value} (ho : o.op = .extract x i) (hx : ev F x = some (.tuple l.toArray)) (hv : l[i]? = some v) : Yl P F S o v := fun a N w hA _ => by
  unfold execOp; rw [ho]; simp [hA.eval hx, Instr.extract, hv]
/-- Arithmetic that doesn't wrap. -/
theorem wrap_in {k : IntKind} {n : Int} (h1 : k.min ≤ n) (h2 : n ≤ k.max) : k.wrap n = n := by
  cases k <;> simp only [IntKind.min, IntKind.max, IntKind.wrap, IntKind.bits, IntKind.signed] at * <;> simp at * <;> omega
def okB (op : BinOp) : Bool := match op with | .add | .sub | .mul => true | _ => false
theorem y_add {x y : Operand} {k : IntKind} {m n r : Int} {t t' : TypeId} (ho : o.op = .binOp .add t x y t') (hx : ev F x = some (.int k m)) (hy : ev F y = some (.int k n)) (hr : m + n = r) (h1 : k.min ≤ r) (h2 : r ≤ k.max) : Yl P F S o (.int k r) := fun a N w hA _ => by
  subst hr
  unfold execOp; rw [ho]; simp [hA.eval hx, hA.eval hy, eqGuard, binOp, Op.intArith, wrap_in h1 h2]
theorem y_sub {x y : Operand} {k : IntKind} {m n r : Int} {t t' : TypeId} (ho : o.op = .binOp .sub t x y t') (hx : ev F x = some (.int k m)) (hy : ev F y = some (.int k n)) (hr : m - n = r) (h1 : k.min ≤ r) (h2 : r ≤ k.max) : Yl P F S o (.int k r) := fun a N w hA _ => by
  subst hr
  unfold execOp; rw [ho]; simp [hA.eval hx, hA.eval hy, eqGuard, binOp, Op.intArith, wrap_in h1 h2]
theorem y_mul {x y : Operand} {k : IntKind} {m n r : Int} {t t' : TypeId} (ho : o.op = .binOp .mul t x y t') (hx : ev F x = some (.int k m)) (hy : ev F y = some (.int k n)) (hr : m * n = r) (h1 : k.min ≤ r) (h2 : r ≤ k.max) : Yl P F S o (.int k r) := fun a N w hA _ => by
  subst hr
  unfold execOp; rw [ho]; simp [hA.eval hx, hA.eval hy, eqGuard, binOp, Op.intArith, wrap_in h1 h2]
theorem y_rem {x y : Operand} {k : IntKind} {m n r : Int} {t t' : TypeId} (ho : o.op = .binOp .rem t x y t') (hx : ev F x = some (.int k m)) (hy : ev F y = some (.int k n)) (hm : 0 ≤ m) (hn : 0 < n) (hr : m % n = r) : Yl P F S o (.int k r) := fun a N w hA _ => by
  subst hr
  have e : m.tmod n = m % n := Int.tmod_eq_emod_of_nonneg hm
  have hn0 : ¬ n = 0 := by omega
  unfold execOp; rw [ho]; simp [hA.eval hx, hA.eval hy, eqGuard, binOp, Op.intDiv, hn0, e]
theorem y_quo {x y : Operand} {k : IntKind} {m n r : Int} {t t' : TypeId} (ho : o.op = .binOp .quo t x y t') (hx : ev F x = some (.int k m)) (hy : ev F y = some (.int k n)) (hm : 0 ≤ m) (hn : 0 < n) (hr : m / n = r) (h1 : k.min ≤ r) (h2 : r ≤ k.max) : Yl P F S o (.int k r) := fun a N w hA _ => by
  subst hr
  have e : m.tdiv n = m / n := Int.tdiv_eq_ediv_of_nonneg hm
  have hn0 : ¬ n = 0 := by omega
  unfold execOp; rw [ho]; simp [hA.eval hx, hA.eval hy, eqGuard, binOp, Op.intDiv, hn0, e, wrap_in h1 h2]
/-! comparisons of whole numbers -/
theorem y_eql_t {x y : Operand} {k : IntKind} {m n : Int} {t t' : TypeId} (ho : o.op = .binOp .eql t x y t') (hx : ev F x = some (.int k m)) (hy : ev F y = some (.int k n)) (h : m = n) : Yl P F S o (.bool true) := fun a N w hA _ => by
  unfold execOp; rw [ho]; simp [hA.eval hx, hA.eval hy, eqGuard, binOp, Op.intCmp]; omega
theorem y_eql_f {x y : Operand} {k : IntKind} {m n : Int} {t t' : TypeId} (ho : o.op = .binOp .eql t x y t') (hx : ev F x = some (.int k m)) (hy : ev F y = some (.int k n)) (h : m ≠ n) : Yl P F S o (.bool false) := fun a N w hA _ => by
  unfold execOp; rw [ho]; simp [hA.eval hx, hA.eval hy, eqGuard, binOp, Op.intCmp]; omega
theorem y_neq_t {x y : Operand} {k : IntKind} {m n : Int} {t t' : TypeId} (ho : o.op = .binOp .neq t x y t') (hx : ev F x = some (.int k m)) (hy : ev F y = some (.int k n)) (h : m ≠ n) : Yl P F S o (.bool true) := fun a N w hA _ => by
  unfold execOp; rw [ho]; simp [hA.eval hx, hA.eval hy, eqGuard, binOp, Op.intCmp]; omega
theorem y_neq_f {x y : Operand} {k : IntKind} {m n : Int} {t t' : TypeId} (ho : o.op = .binOp .neq t x y t') (hx : ev F x = some (.int k m)) (hy : ev F y = some (.int k n)) (h : m = n) : Yl P F S o (.bool false) := fun a N w hA _ => by
  unfold execOp; rw [ho]; simp [hA.eval hx, hA.eval hy, eqGuard, binOp, Op.intCmp]; omega
theorem y_lss_t {x y : Operand} {k : IntKind} {m n : Int} {t t' : TypeId} (ho : o.op = .binOp .lss t x y t') (hx : ev F x = some (.int k m)) (hy : ev F y = some (.int k n)) (h : m < n) : Yl P F S o (.bool true) := fun a N w hA _ => by
  unfold execOp; rw [ho]; simp [hA.eval hx, hA.eval hy, eqGuard, binOp, Op.intCmp]; omega
theorem y_lss_f {x y : Operand} {k : IntKind} {m n : Int} {t t' : TypeId} (ho : o.op = .binOp .lss t x y t') (hx : ev F x = some (.int k m)) (hy : ev F y = some (.int k n)) (h : n ≤ m) : Yl P F S o (.bool false) := fun a N w hA _ => by
  unfold execOp; rw [ho]; simp [hA.eval hx, hA.eval hy, eqGuard, binOp, Op.intCmp]; omega
theorem y_leq_t {x y : Operand} {k : IntKind} {m n : Int} {t t' : TypeId} (ho : o.op = .binOp .leq t x y t') (hx : ev F x = some (.int k m)) (hy : ev F y = some (.int k n)) (h : m ≤ n) : Yl P F S o (.bool true) := fun a N w hA _ => by
  unfold execOp; rw [ho]; simp [hA.eval hx, hA.eval hy, eqGuard, binOp, Op.intCmp]; omega
theorem y_leq_f {x y : Operand} {k : IntKind} {m n : Int} {t t' : TypeId} (ho : o.op = .binOp .leq t x y t') (hx : ev F x = some (.int k m)) (hy : ev F y = some (.int k n)) (h : n < m) : Yl P F S o (.bool false) := fun a N w hA _ => by
  unfold execOp; rw [ho]; simp [hA.eval hx, hA.eval hy, eqGuard, binOp, Op.intCmp]; omega
theorem y_gtr_t {x y : Operand} {k : IntKind} {m n : Int} {t t' : TypeId} (ho : o.op = .binOp .gtr t x y t') (hx : ev F x = some (.int k m)) (hy : ev F y = some (.int k n)) (h : n < m) : Yl P F S o (.bool true) := fun a N w hA _ => by
  unfold execOp; rw [ho]; simp [hA.eval hx, hA.eval hy, eqGuard, binOp, Op.intCmp]; omega
theorem y_gtr_f {x y : Operand} {k : IntKind} {m n : Int} {t t' : TypeId} (ho : o.op = .binOp .gtr t x y t') (hx : ev F x = some (.int k m)) (hy : ev F y = some (.int k n)) (h : m ≤ n) : Yl P F S o (.bool false) := fun a N w hA _ => by
  unfold execOp; rw [ho]; simp [hA.eval hx, hA.eval hy, eqGuard, binOp, Op.intCmp]; omega
theorem y_geq_t {x y : Operand} {k : IntKind} {m n : Int} {t t' : TypeId} (ho : o.op = .binOp .geq t x y t') (hx : ev F x = some (.int k m)) (hy : ev F y = some (.int k n)) (h : n ≤ m) : Yl P F S o (.bool true) := fun a N w hA _ => by
  unfold execOp; rw [ho]; simp [hA.eval hx, hA.eval hy, eqGuard, binOp, Op.intCmp]; omega
theorem y_geq_f {x y : Operand} {k : IntKind} {m n : Int} {t t' : TypeId} (ho : o.op = .binOp .geq t x y t') (hx : ev F x = some (.int k m)) (hy : ev F y = some (.int k n)) (h : m < n) : Yl P F S o (.bool false) := fun a N w hA _ => by
  unfold execOp; rw [ho]; simp [hA.eval hx, hA.eval hy, eqGuard, binOp, Op.intCmp]; omega
theorem y_not {x : Operand} {t : TypeId} {b : Bool} (ho : o.op = .unOp .not t x) (hx : ev F x = some (.bool b)) {r : Bool} (hr : (!b) = r) : Yl P F S o (.bool r) := fun a N w hA _ => by
  subst hr
  unfold execOp; rw [ho]; simp [hA.eval hx, Op.unary]
theorem eqI_nn {w : World} {t : TypeId} {ms : Array (String × TypeId)} (ht : P.underlying t = some (.interface ms)) : (Op.equal t .nilIface .nilIface).run P w = .ok true w := by
  show (Op.equalIn (9999 + 1) t _ _).run P w = _
  rw [Op.equalIn]; simp [run_underlying ht]
theorem eqI_in {w : World} {t u : TypeId} {v : Value} {ms : Array (String × TypeId)} (ht : P.underlying t = some (.interface ms)) : (Op.equal t (.iface u v) .nilIface).run P w = .ok false w := by
  show (Op.equalIn (9999 + 1) t _ _).run P w = _
  rw [Op.equalIn]; simp [run_underlying ht]
theorem y_beq {x y : Operand} {t t' : TypeId} {b c : Bool} (ho : o.op = .binOp .eql t x y t') (hx : ev F x = some (.bool b)) (hy : ev F y = some (.bool c)) (ht : P.underlying t = some .bool) {r : Bool} (hr : (b == c) = r) : Yl P F S o (.bool r) := fun a N w hA _ => by
  subst hr
  unfold execOp; rw [ho]; simp [hA.eval hx, hA.eval hy, eqGuard, run_eql_bool w t b c ht]
theorem y_bne {x y : Operand} {t t' : TypeId} {b c : Bool} (ho : o.op = .binOp .neq t x y t') (hx : ev F x = some (.bool b)) (hy : ev F y = some (.bool c)) (ht : P.underlying t = some .bool) {r : Bool} (hr : (!(b == c)) = r) : Yl P F S o (.bool r) := fun a N w hA _ => by
  subst hr
  unfold execOp; rw [ho]; simp [hA.eval hx, hA.eval hy, eqGuard, run_neq_bool w t b c ht]
/-- An error against nil. -/
theorem y_enil_t {x : Operand} {t t' : TypeId} {ms : Array (String × TypeId)} (ho : o.op = .binOp .eql t x (.const .nilIface) t') (hx : ev F x = some .nilIface) (ht : P.underlying t = some (.interface ms)) : Yl P F S o (.bool true) := fun a N w hA _ => by
  have ec : a.eval (.const .nilIface) = .nilIface := rfl
  unfold execOp; rw [ho]; simp [hA.eval hx, ec, eqGuard, binOp, eqI_nn ht]
theorem y_enil_f {x : Operand} {t t' u : TypeId} {v : Value} {ms : Array (String × TypeId)} (ho : o.op = .binOp .eql t x (.const .nilIface) t') (hx : ev F x = some (.iface u v)) (ht : P.underlying t = some (.interface ms)) : Yl P F S o (.bool false) := fun a N w hA _ => by
  have ec : a.eval (.const .nilIface) = .nilIface := rfl
  unfold execOp; rw [ho]; simp [hA.eval hx, ec, eqGuard, binOp, eqI_in ht]
theorem y_enot_f {x : Operand} {t t' : TypeId} {ms : Array (String × TypeId)} (ho : o.op = .binOp .neq t x (.const .nilIface) t') (hx : ev F x = some .nilIface) (ht : P.underlying t = some (.interface ms)) : Yl P F S o (.bool false) := fun a N w hA _ => by
  have ec : a.eval (.const .nilIface) = .nilIface := rfl
  unfold execOp; rw [ho]; simp [hA.eval hx, ec, eqGuard, binOp, eqI_nn ht]
theorem y_enot_t {x : Operand} {t t' u : TypeId} {v : Value} {ms : Array (String × TypeId)} (ho : o.op = .binOp .neq t x (.const .nilIface) t') (hx : ev F x = some (.iface u v)) (ht : P.underlying t = some (.interface ms)) : Yl P F S o (.bool true) := fun a N w hA _ => by
  have ec : a.eval (.const .nilIface) = .nilIface := rfl
  unfold execOp; rw [ho]; simp [hA.eval hx, ec, eqGuard, binOp, eqI_in ht]
/-- A whole number of another kind, which holds it. -/
theorem y_conv {x : Operand} {s t : TypeId} {k k' : IntKind} {m : Int} (ho : o.op = .convert s t x) (hx : ev F x = some (.int k m)) (hs : P.underlying s = some (.int k)) (ht : P.underlying t = some (.int k')) (h1 : k'.min ≤ m) (h2 : m ≤ k'.max) : Yl P F S o (.int k' m) := fun a N w hA _ => by
  unfold execOp; rw [ho]; simp [hA.eval hx, convert, run_underlying hs, run_underlying ht, Conv.intToInt, wrap_in h1 h2]
theorem y_len {x : Operand} {t e : TypeId} {A : Option Addr} {n c : Nat} (ho : o.op = .call { callee := .builtin .len, args := #[x], argTypes := #[t] }) (hx : ev F x = some (.slice A n c)) (ht : P.underlying t = some (.slice e)) : Yl P F S o (.int .i64 (n : Int)) := fun a N w hA _ => by
  unfold execOp; rw [ho]; simp [resolve, invoke, builtin, hA.eval hx, Builtin.len_, run_underlying ht, goInt]
theorem y_lens {x : Operand} {t : TypeId} {s : ByteArray} (ho : o.op = .call { callee := .builtin .len, args := #[x], argTypes := #[t] }) (hx : ev F x = some (.string s)) (ht : P.underlying t = some .string) {n : Nat} (hn : s.size = n) : Yl P F S o (.int .i64 (n : Int)) := fun a N w hA _ => by
  subst hn
  unfold execOp; rw [ho]; simp [resolve, invoke, builtin, hA.eval hx, Builtin.len_, run_underlying ht, goInt]
theorem y_max {x y : Operand} {k : IntKind} {m n : Int} {ts : Array TypeId} (ho : o.op = .call { callee := .builtin .max, args := #[x, y], argTypes := ts }) (hx : ev F x = some (.int k m)) (hy : ev F y = some (.int k n)) {r : Int} (hr : (if n > m then n else m) = r) : Yl P F S o (.int k r) := fun a N w hA _ => by
  subst hr
  unfold execOp; rw [ho]; simp [resolve, invoke, builtin, hA.eval hx, hA.eval hy, Builtin.max_, Builtin.max2]
def fieldL : List Field → Nat → Option (Nat × TypeId)
  | [], _ => none
  | ⟨_, ty, off, _, _, _, _⟩ :: l, i => match i with
    | 0 => some (off, ty)
    | j + 1 => fieldL l j
theorem fieldL_get : ∀ (l : List Field) (i : Nat), fieldL l i = (l[i]?).map fun f => (f.offset, f.type)
  | [], i => rfl
  | ⟨_, ty, off, _, _, _, _⟩ :: l, 0 => rfl
  | ⟨_, ty, off, _, _, _, _⟩ :: l, j + 1 => by
    show fieldL l j = _
    rw [fieldL_get l j]; rfl
/-- The address of a field, of an element. -/
theorem y_field {x : Operand} {s : TypeId} {f : Nat} {fs : Array Field} {b off fo ty : Nat} (ho : o.op = .fieldAddr s x f) (hx : ev F x = some (.pointer (some ⟨b, off, none⟩))) (hs : P.underlying s = some (.struct fs)) (hf' : fieldL fs.toList f = some (fo, ty)) {sz : Nat}
    (hz' : (P.info? ty).map (·.size) = some sz) (hz0 : Nat.blt 0 sz = true) : Yl P F S o (.pointer (some ⟨b, off + fo, none⟩)) := fun a N w hA _ => by
  have hf : (fs[f]?).map (fun f => (f.offset, f.type)) = some (fo, ty) := by rw [← hf', fieldL_get, Array.getElem?_toList]
  have hz : ((P.info? ty).map fun i => Nat.blt 0 i.size) = some true := by
    obtain ⟨i, h1, h2⟩ := Option.map_eq_some_iff.1 hz'
    rw [h1]; subst h2; exact congrArg some hz0
  obtain ⟨fd, h1, h2⟩ := Option.map_eq_some_iff.1 hf
  simp only [Prod.mk.injEq] at h2
  obtain ⟨rfl, rfl⟩ := h2
  obtain ⟨inf, h3, h4⟩ := Option.map_eq_some_iff.1 hz
  have h5 : ¬ inf.size = 0 := by have : 0 < inf.size := by simpa using h4
                                 omega
  have hadd : (⟨b, off, none⟩ : Addr).add fd.offset = ⟨b, off + fd.offset, none⟩ := by unfold Addr.add; split <;> simp_all
  unfold execOp; rw [ho]; simp [hA.eval hx, Instr.fieldAt, run_underlying hs, h1, Instr.sureAddr, fieldPlace, sizeOf, typeInfo, h3, h5, hadd]
theorem y_elem {x y : Operand} {t e : TypeId} {b off n c sz j : Nat} {k : IntKind} {i : Int} (ho : o.op = .indexAddr t x y) (hx : ev F x = some (.slice (some ⟨b, off, none⟩) n c)) (hy : ev F y = some (.int k i)) (ht : P.underlying t = some (.slice e)) (hsz : (P.info? e).map (·.size) = some sz)
    (h0 : 0 ≤ i) (h1 : i < n) (hj : i.toNat = j) : Yl P F S o (.pointer (some ⟨b, off + j * sz, none⟩)) := fun a N w hA _ => by
  subst hj
  obtain ⟨inf, h3, h4⟩ := Option.map_eq_some_iff.1 hsz
  have hadd : (⟨b, off, none⟩ : Addr).add (i.toNat * sz) = ⟨b, off + i.toNat * sz, none⟩ := by unfold Addr.add; split <;> simp_all
  unfold execOp; rw [ho]; simp [hA.eval hx, hA.eval hy, Instr.indexAt, asIntOf, run_underlying ht, h0, h1, sizeOf, typeInfo, h3, h4, hadd]
theorem y_elemA {x y : Operand} {t e : TypeId} {b off n sz j : Nat} {k : IntKind} {i : Int} (ho : o.op = .indexAddr t x y) (hx : ev F x = some (.pointer (some ⟨b, off, none⟩))) (hy : ev F y = some (.int k i)) (ht : P.underlying t = some (.array n e)) (hsz : (P.info? e).map (·.size) = some sz)
    (h0 : 0 ≤ i) (h1 : i < n) (hj : i.toNat = j) : Yl P F S o (.pointer (some ⟨b, off + j * sz, none⟩)) := fun a N w hA _ => by
  subst hj
  obtain ⟨inf, h3, h4⟩ := Option.map_eq_some_iff.1 hsz
  have hadd : (⟨b, off, none⟩ : Addr).add (i.toNat * sz) = ⟨b, off + i.toNat * sz, none⟩ := by unfold Addr.add; split <;> simp_all
  unfold execOp; rw [ho]; simp [hA.eval hx, hA.eval hy, Instr.indexAt, Instr.sureAddr, asIntOf, run_underlying ht, h0, h1, sizeOf, typeInfo, h3, h4, hadd]
/-- Loads. -/
theorem y_load {x : Operand} {t : TypeId} {b off : Nat} {v : Value} {td : TypeDesc} (ho : o.op = .load t x) (hx : ev F x = some (.pointer (some ⟨b, off, none⟩))) (ht : P.underlying t = some td) (hd : td.isRow = false) (hc : ∀ w, S w → w.cell? ⟨b, off, none⟩ = some v) : Yl P F S o v := fun a N w hA hS => by
  have hagg : (isAgg t).run P w = .ok false w := by
    unfold isAgg
    rw [Sem.run_bind, run_underlying ht w]
    cases td <;> simp_all
  unfold execOp; rw [ho]; simp [hA.eval hx, Instr.loadAt, Instr.sureAddr, loadVar, Sem.run_bind, hagg, load, Sem.run, hc w hS]
theorem y_loadN {x : Operand} {t : TypeId} {b off : Nat} {cs : List Value} {td : TypeDesc} (ho : o.op = .load t x) (hx : ev F x = some (.pointer (some ⟨b, off, none⟩))) (ht : P.underlying t = some td) (hd : td.isRow = true) (hn : (P.info? t).map (·.size) = some cs.length) (hc : ∀ w, S w → w.rangeAt b off cs) : Yl P F S o (.agg cs.toArray) := fun a N w hA hS => by
  unfold execOp; rw [ho]; simp [hA.eval hx, run_loadAt_mid w b off t cs td (hc w hS) ht hd hn]
end
/-! ### what turns the world -/
section
variable {P : Program} {ops : Array Oper} {rest : List Oper} {o o2 : Oper} {a : Act} {Q : Exit → Act → World → Prop} {w w0 : World} {N d : Nat} {F : List (Nat × Value)} {L : List Bx} {D : List Dat}
theorem w_alloc (hA : Fr a N F) (hS : St w0 w L D) {T : TypeId} {cs : List Value} (ho : o.op = .alloc T) (hw : want F ops o = some true) (hd : o.dst = some d) (hdN : Nat.blt d N = true) (hz : (P.info? T).bind (fun i => i.zero.map fun z => z.cells) = some cs.toArray)
    (h : ∀ b a' w', Fr a' N ((d, .pointer (some ⟨b, 0, none⟩)) :: F) → St w0 w' (⟨b, cs, T⟩ :: L) D → wpList P ops Q rest a' w') : wpList P ops Q (o :: rest) a w := by
  refine at_alloc hS T cs hz (want_spec hA hw) ho fun b w' hS' => ?_
  rw [hd]
  exact h b _ w' (hA.put hdN _) hS'
theorem w_box (hA : Fr a N F) (hS : St w0 w L D) {T : TypeId} {x : Operand} {v : Value} {cs : List Value} (ho : o.op = .box T x) (hw : want F ops o = some true) (hd : o.dst = some d) (hdN : Nat.blt d N = true) (hx : ev F x = some v) (hv : v.cells = cs.toArray)
    (h : ∀ b a' w', Fr a' N ((d, .pointer (some ⟨b, 0, none⟩)) :: F) → St w0 w' (⟨b, cs, T⟩ :: L) D → wpList P ops Q rest a' w') : wpList P ops Q (o :: rest) a w := by
  refine at_box hS (want_spec hA hw) ho (cs := cs) (by rw [hA.eval hx]; exact hv) fun b w' hS' => ?_
  rw [hd]
  exact h b _ w' (hA.put hdN _) hS'
theorem w_store (hA : Fr a N F) (hS : St w0 w L D) (i : Nat) {t : TypeId} {x y : Operand} {b off : Nat} {cs : List Value} {T : TypeId} {v : Value} {vs : List Value} (ho : o.op = .store t x y) (hw : want F ops o = some true) (hd : o.dst = none)
    (hx : ev F x = some (.pointer (some ⟨b, off, none⟩))) (hL : L[i]? = some ⟨b, cs, T⟩) (hy : ev F y = some v) (hv : v.cells = vs.toArray) (h1 : vs.all (·.oneCell') = true) {n : Nat} (hn' : (P.info? t).map (·.size) = some n) (hnl : vs.length = n) (hlen : off + vs.length ≤ cs.length)
    (h : ∀ w', St w0 w' (L.set i ⟨b, putL cs off vs, T⟩) D → wpList P ops Q rest a w') : wpList P ops Q (o :: rest) a w := by
  refine at_store hS i (want_spec hA hw) ho hL (hA.eval hx) (vs := vs) (by rw [hA.eval hy]; exact hv) (hnl ▸ hn') hlen h1 fun w' hS' => ?_
  rw [hd]
  exact h w' hS'
theorem w_ys (hA : Fr a N F) (hS : St w0 w L D) {v : Value} (hy : Yl P F (fun w => St w0 w L D) o v) (hw : want F ops o = some true) (hd : o.dst = some d) (hdN : Nat.blt d N = true) (h : ∀ a', Fr a' N ((d, v) :: F) → wpList P ops Q rest a' w) : wpList P ops Q (o :: rest) a w :=
  w_yl hA hy hS hw hd hdN h
/-- Loads out of boxes. -/
theorem y_box {x : Operand} {t : TypeId} {b off : Nat} {v : Value} {td : TypeDesc} {cs : List Value} {T : TypeId} (i : Nat) (ho : o.op = .load t x) (hx : ev F x = some (.pointer (some ⟨b, off, none⟩))) (hL : L[i]? = some ⟨b, cs, T⟩) (ht : P.underlying t = some td) (hd : td.isRow = false) (hv : cs[off]? = some v) : Yl P F (fun w => St w0 w L D) o v :=
  y_load ho hx ht hd fun w hS => by
    have hb : w.heap[b]? = some (.cells cs.toArray T (0, 0)) := (hS.box _ (List.mem_of_getElem? hL)).1
    rw [blk_cell hb]; simpa using hv
theorem y_boxN {x : Operand} {t : TypeId} {b : Nat} {td : TypeDesc} {cs : List Value} {T : TypeId} (i : Nat) (ho : o.op = .load t x) (hx : ev F x = some (.pointer (some ⟨b, 0, none⟩))) (hL : L[i]? = some ⟨b, cs, T⟩) (ht : P.underlying t = some td) (hd : td.isRow = true) {n : Nat} (hn' : (P.info? t).map (·.size) = some n) (hnl : cs.length = n) : Yl P F (fun w => St w0 w L D) o (.agg cs.toArray) :=
  y_loadN ho hx ht hd (hnl ▸ hn') fun w hS j u hu => by
    have hb : w.heap[b]? = some (.cells cs.toArray T (0, 0)) := (hS.box _ (List.mem_of_getElem? hL)).1
    rw [blk_cell hb]; simpa using hu
/-- string(b) of bytes that are data. -/
theorem y_str {x : Operand} {src dst e : TypeId} {A : Option Addr} {xs : List UInt8} {n c : Nat} (i : Nat) (ho : o.op = .convert src dst x) (hx : ev F x = some (.slice A n c)) (hi : D[i]? = some (Dat.rd u8 A xs)) (hs : P.underlying src = some (.slice e)) (he : P.underlying e = some (.int .u8)) (hd : P.underlying dst = some .string)
    (hn : xs.length = n) : Yl P F (fun w => St w0 w L D) o (.string ⟨xs.toArray⟩) := fun a N w hA hS => by
  unfold execOp; rw [ho]; simp [hA.eval hx, run_str (hS.rd i hi) n hn c hs he hd]
theorem y_seq_t {x y : Operand} {t t' : TypeId} {s u : ByteArray} {S : World → Prop} (ho : o.op = .binOp .eql t x y t') (hx : ev F x = some (.string s)) (hy : ev F y = some (.string u)) (h : s = u) : Yl P F S o (.bool true) := fun a N w hA _ => by
  subst h
  unfold execOp; rw [ho]; simp [hA.eval hx, hA.eval hy, eqGuard, binOp, Op.stringOp]
theorem y_seq_f {x y : Operand} {t t' : TypeId} {s u : ByteArray} {S : World → Prop} (ho : o.op = .binOp .eql t x y t') (hx : ev F x = some (.string s)) (hy : ev F y = some (.string u)) (h : (s.toList == u.toList) = false) : Yl P F S o (.bool false) := fun a N w hA _ => by
  unfold execOp; rw [ho]; simp [hA.eval hx, hA.eval hy, eqGuard, binOp, Op.stringOp, h]
theorem y_sne_f {x y : Operand} {t t' : TypeId} {s u : ByteArray} {S : World → Prop} (ho : o.op = .binOp .neq t x y t') (hx : ev F x = some (.string s)) (hy : ev F y = some (.string u)) (h : s = u) : Yl P F S o (.bool false) := fun a N w hA _ => by
  subst h
  unfold execOp; rw [ho]; simp [hA.eval hx, hA.eval hy, eqGuard, binOp, Op.stringOp]
theorem y_sne_t {x y : Operand} {t t' : TypeId} {s u : ByteArray} {S : World → Prop} (ho : o.op = .binOp .neq t x y t') (hx : ev F x = some (.string s)) (hy : ev F y = some (.string u)) (h : (s.toList == u.toList) = false) : Yl P F S o (.bool true) := fun a N w hA _ => by
  unfold execOp; rw [ho]; simp [hA.eval hx, hA.eval hy, eqGuard, binOp, Op.stringOp, h]
/-- Arguments of a call. -/
def evs (F : List (Nat × Value)) : List Operand → Option (List Value)
  | [] => some []
  | x :: xs => match ev F x, evs F xs with
    | some v, some vs => some (v :: vs)
    | _, _ => none
theorem evs_eval (hA : Fr a N F) : ∀ (xs : List Operand) (vs : List Value), evs F xs = some vs → xs.map a.eval = vs
  | [], vs, h => by obtain rfl := Option.some.inj h; rfl
  | x :: xs, vs, h => by
    rw [evs] at h
    split at h
    · rename_i v us hv hus
      obtain rfl := Option.some.inj h
      rw [List.map_cons, hA.eval hv, evs_eval hA xs us hus]
    · cases h
theorem w_call (hA : Fr a N F) {f : FuncId} {fn : Func} {xs : Array Operand} {ts : Array TypeId} {vs : List Value} (ho : o.op = .call { callee := .value (.func f), args := xs, argTypes := ts }) (hw : want F ops o = some true) (hd : o.dst = some d) (hdN : Nat.blt d N = true)
    (hargs : evs F xs.toList = some vs) (hf : P.funcs[f]? = some fn) (hname : (fn.name == "runtime.NumGoroutine") = false) (hb : fn.body.isSome = true)
    (h : Calls P f vs.toArray w fun e w' => ∃ v, e = .returned v ∧ ∀ a', Fr a' N ((d, v) :: F) → wpList P ops Q rest a' w') : wpList P ops Q (o :: rest) a w := by
  refine BigFrame.wpList_want (want_spec hA hw) fun K hK => ?_
  have h1 : fn.name ≠ "runtime.NumGoroutine" := by simpa using hname
  obtain ⟨c, hc⟩ := Option.isSome_iff_exists.1 hb
  have he : xs.map a.eval = vs.toArray := by
    have e1 := evs_eval hA _ _ hargs
    rw [← e1]
    exact Array.toList_inj.1 (by rw [Array.toList_map])
  have hrun : (execOp a.eval o).run P w = .ok (.enter f vs.toArray) w := by
    unfold execOp
    simp [ho, resolve, Deferred.ofValue, invoke, Act.eval, callFunc, hf, h1, hc]
    simpa [Act.eval] using he
  unfold Oper.wp
  rw [hrun, Oper.upon_enter]
  refine h.mono fun e w'' hh => ?_
  obtain ⟨v, rfl, hk⟩ := hh
  rw [hd]
  exact hK _ _ (hk _ (hA.put hdN v))
/-! ### code -/
variable {x y c : Code} {K : Act → World → Prop} {id : Nat}
theorem c_seq (h : x.wp P (Exit.then (y.wp P Q) Q) a w) : (Code.seq x y).wp P Q a w := wp_seq h
theorem c_region {l : List Oper} (h : wpList P l.toArray Q l a w) : (Code.region id l.toArray false).wp P Q a w := wp_region_lit h
theorem c_block (h : c.wp P (Exit.inBlock id Q) a w) : (Code.block id c).wp P Q a w := wp_block h
theorem c_yes {t : Operand} (hA : Fr a N F) (ht : ev F t = some (.bool true)) (h : x.wp P Q a w) : (Code.cond t x y).wp P Q a w := wp_cond_true (hA.eval ht) h
theorem c_no {t : Operand} (hA : Fr a N F) (ht : ev F t = some (.bool false)) (h : y.wp P Q a w) : (Code.cond t x y).wp P Q a w := wp_cond_false (hA.eval ht) h
theorem c_skip (h : Q .normal a w) : Code.skip.wp P Q a w := wp_skip h
theorem c_exit (h : Q (.exit id) a w) : (Code.exit id).wp P Q a w := wp_exit h
theorem c_ret (h : Q .ret a w) : Code.ret.wp P Q a w := wp_ret h
theorem e_then (h : K a w) : Exit.then K Q .normal a w := h
theorem e_thenX (h : Q (.exit id) a w) : Exit.then K Q (.exit id) a w := h
theorem e_thenR (h : Q .ret a w) : Exit.then K Q .ret a w := h
theorem e_block (h : Q .normal a w) : Exit.inBlock id Q .normal a w := h
theorem e_blockR (h : Q .ret a w) : Exit.inBlock id Q .ret a w := h
theorem e_blockX (h : Q .normal a w) : Exit.inBlock id Q (.exit id) a w := by
  show (if id = id then Q .normal a w else Q (.exit id) a w)
  rw [if_pos rfl]; exact h
theorem e_blockY {j : Nat} (hj : Nat.beq j id = false) (h : Q (.exit j) a w) : Exit.inBlock id Q (.exit j) a w := by
  show (if j = id then Q .normal a w else Q (.exit j) a w)
  rw [if_neg (fun e => by rw [e, Nat.beq_refl] at hj; cases hj)]
  exact h
/-- A function's own frame. -/
theorem enter_fr {f : FuncId} {fn : Func} {cd : Code} {args : List Value} {R : Ending → World → Prop} (hf : P.funcs[f]? = some fn) (hb : fn.body = some cd) (hn : fn.ntmps = N) (hl : Nat.ble args.length N = true) (h : ∀ a, Fr a N (args.zipIdx.map fun p => (p.2, p.1)) → cd.wp P (bodyPost P fn R) a w) : Calls P f args.toArray w R := by
  refine calls_of_wp hf hb (h _ ⟨?_, rfl, fun i v hi => ?_⟩)
  · have := Nat.le_of_ble_eq_true hl
    simp [hn]
    omega
  · have key : ∀ (l : List Value) (k : Nat), look ((l.zipIdx k).map fun p => (p.2, p.1)) i = some v → k ≤ i ∧ l[i - k]? = some v := by
      intro l
      induction l with
      | nil => intro k h; cases h
      | cons u l ih =>
        intro k h
        have h' : (bif Nat.beq k i then some u else look ((l.zipIdx (k + 1)).map fun p => (p.2, p.1)) i) = some v := h
        cases hb : Nat.beq k i with
        | true =>
          rw [hb] at h'
          have e := Nat.eq_of_beq_eq_true hb
          subst e
          refine ⟨Nat.le_refl _, ?_⟩
          rw [Nat.sub_self]
          exact h'
        | false =>
          rw [hb] at h'
          obtain ⟨h1, h2⟩ := ih (k + 1) h'
          refine ⟨by omega, ?_⟩
          rw [show i - k = (i - (k + 1)) + 1 by omega, List.getElem?_cons_succ]
          exact h2
    obtain ⟨_, h2⟩ := key args 0 hi
    have hlt := lt_of_getElem? h2
    rw [Nat.sub_zero] at h2 hlt
    show (args.toArray ++ Array.replicate (fn.ntmps - args.toArray.size) undef)[i]? = some v
    rw [Array.getElem?_append_left (by simpa using hlt)]
    simpa using h2
theorem fin1 {fn : Func} {t : Nat} {v : Value} {R : Ending → World → Prop} (hA : Fr a N F) (hr : fn.results = #[.tmp t]) (hv : look F t = some v) (h : R (.returned v) w) : bodyPost P fn R .ret a w := by
  refine bodyPost_ret (results_tmp hr a.tmps P w) hA.defers ?_
  rw [Array.getD_eq_getD_getElem?, hA.slot t v hv]
  exact h
theorem fin2 {fn : Func} {t u : Nat} {v v' : Value} {R : Ending → World → Prop} (hA : Fr a N F) (hr : fn.results = #[.tmp t, .tmp u]) (hv : look F t = some v) (hv' : look F u = some v') (h : R (.returned (.tuple #[v, v'])) w) : bodyPost P fn R .ret a w := by
  refine bodyPost_ret (results_tmp2 hr a.tmps P w) hA.defers ?_
  rw [Array.getD_eq_getD_getElem?, hA.slot t v hv, Array.getD_eq_getD_getElem?, hA.slot u v' hv']
  exact h
theorem bodyPost_normal {fn : Func} {R : Ending → World → Prop} (h : bodyPost P fn R .ret a w) : bodyPost P fn R .normal a w := h
end
end Go.Proofs.YtpdjahejcdmopaaDoor
