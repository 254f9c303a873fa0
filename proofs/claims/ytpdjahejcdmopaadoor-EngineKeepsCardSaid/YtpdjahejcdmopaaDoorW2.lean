/- Walks over a variable frame: loops, cuts, and regions that draw their order. -/
import Derived.Test.YtpdjahejcdmopaaDoorW
import Derived.Test.YtpdjahejcdmopaaDoorReg
import Derived.Deep.LoopGhost
namespace Go.Proofs.YtpdjahejcdmopaaDoor
open Go.RowKit
set_option linter.unusedVariables false
section
variable {P : Program} {ops : Array Oper} {a : Act} {Q : Exit → Act → World → Prop} {w : World} {N d : Nat} {F : List (Nat × Value)} {x y c : Code}
/-- What the code behind a piece may lean on. -/
theorem c_cut (R : Act → World → Prop) (h1 : x.wp P (Exit.then R Q) a w) (h2 : ∀ a w, R a w → y.wp P Q a w) : (Code.seq x y).wp P Q a w := by
  refine wp_seq (wp_mono h1 fun e a' w' hq => ?_)
  cases e with
  | normal => exact h2 a' w' hq
  | exit id => exact hq
  | goto l => exact hq
  | ret => exact hq
  | panic ch => exact hq
  | outgrown => exact hq
theorem c_cut2 {z : Code} (R : Act → World → Prop) (h1 : x.wp P (Exit.then (fun a w => y.wp P (Exit.then R Q) a w) Q) a w) (h2 : ∀ a w, R a w → z.wp P Q a w) : (Code.seq x (Code.seq y z)).wp P Q a w := by
  refine wp_seq (wp_mono h1 fun e a' w' hq => ?_)
  cases e with
  | normal => exact c_cut R hq h2
  | exit id => exact hq
  | goto l => exact hq
  | ret => exact hq
  | panic ch => exact hq
  | outgrown => exact hq
theorem c_loop (I : Nat → Act → World → Prop) (n : Nat) (h0 : I n a w) (round : ∀ n a w, I n a w → c.wp P (Exit.then (fun a' w' => ∃ n', n' < n ∧ I n' a' w') Q) a w) : (Code.loop c).wp P Q a w := wp_loop_ghost I n h0 round
/-- A panic's end looks at no slot. -/
def NoSlot (Q : Exit → Act → World → Prop) : Prop := ∀ c (a : Act) d v w, Q (.panic c) (a.put d v) w → Q (.panic c) a w
theorem NoSlot.then (h : NoSlot Q) (K : Act → World → Prop) : NoSlot (Exit.then K Q) := fun c a d v w q => h c a d v w q
theorem NoSlot.block (h : NoSlot Q) (id : Nat) : NoSlot (Exit.inBlock id Q) := fun c a d v w q => h c a d v w q
theorem NoSlot.body (fn : Func) (R : Ending → World → Prop) : NoSlot (bodyPost P fn R) := by
  intro c a d v w q
  refine ⟨?_, q.2⟩
  have h1 := q.1
  cases d <;> exact h1
variable {S0 : World → Prop} {fuel : Nat} {listed : Array Bool} {oi : Oper}
theorem d_begin (S0 : World → Prop) {id : Nat} {l : List Oper} (hm : P.follows .mixedOrders = true) (h : wpAnyV P l.toArray Q S0 1000 l.toArray.size (Array.replicate l.toArray.size false) a w.drew) : (Code.region id l.toArray true).wp P Q a w := hv_begin S0 1000 hm h
theorem d_take (i : Nat) (hA : Fr a N F) (hS : S0 w) (hQ : NoSlot Q) {v : Value} (hi : ops[i]? = some oi) (hy : Yl P F S0 oi v) (hw : want F ops oi = some true) (hd : oi.dst = some d) (hdN : Nat.blt d N = true) (hs : Region.noSelect ops = true) (hf : Region.free .any ops listed i = true)
    (hr : (Region.ready .any ops listed).contains i = true) (hif : (i != 1000 && (Region.waitsFor .any ops 1000 i || decide (ops.size ≤ 1000))) = true) (h : ∀ a', Fr a' N ((d, v) :: F) → wpAnyV P ops Q S0 1000 fuel (listed.setIfInBounds i true) a' w) :
    wpAnyV P ops Q S0 1000 (fuel + 1) listed a w := by
  refine hv_take i hi hs hf hr hif (fun c a w q => hQ c a _ _ w q) (.inl ⟨want_spec hA hw, fun w' hw' => hy a N w' hA hw'⟩) hS ?_
  rw [hd]
  exact h _ (hA.put hdN v)
theorem d_skip (i : Nat) (hA : Fr a N F) (hS : S0 w) (hQ : NoSlot Q) (hi : ops[i]? = some oi) (hw : want F ops oi = some false) (hd : oi.dst = some d) (hdN : Nat.blt d N = true) (hs : Region.noSelect ops = true) (hf : Region.free .any ops listed i = true)
    (hr : (Region.ready .any ops listed).contains i = true) (hif : (i != 1000 && (Region.waitsFor .any ops 1000 i || decide (ops.size ≤ 1000))) = true) (h : ∀ a', Fr a' N ((d, undef) :: F) → wpAnyV P ops Q S0 1000 fuel (listed.setIfInBounds i true) a' w) :
    wpAnyV P ops Q S0 1000 (fuel + 1) listed a w := by
  refine hv_take i hi hs hf hr hif (fun c a w q => hQ c a _ _ w q) (.inr ⟨want_spec hA hw, rfl⟩) hS ?_
  rw [hd]
  exact h _ (hA.put hdN undef)
theorem d_done (hr : Region.ready .any ops listed = []) (h : Q .normal a w) : wpAnyV P ops Q S0 1000 fuel listed a w := hv_done hr h
theorem d_beginS {w0 : World} {L : List Bx} {D : List Dat} (hS : St w0 w L D) {id : Nat} {l : List Oper} (hm : P.follows .mixedOrders = true) (h : St w0 w.drew L D → wpAnyV P l.toArray Q (fun w => St w0 w L D) 1000 l.toArray.size (Array.replicate l.toArray.size false) a w.drew) : (Code.region id l.toArray true).wp P Q a w :=
  d_begin _ hm (h hS.drew)
theorem w_app1 {w0 : World} {LL Lr : List Bx} {D : List Dat} {T : TypeId} {sz n : Nat} {v : Value} {xs : List Value} {rest : List Oper} {o o2 : Oper} (hA : Fr a N F) (hS : St w0 w LL D) (L : List Bx) (hLL : LL = L ++ Lr) (hR : RowIs T sz Lr v n xs) {t : TypeId} {s y x : Operand} {vx : Value} {d d2 : Nat}
    (ho : o.op = .buildSlice t 1 #[(0, x)]) (hw : want F ops o = some true) (hd : o.dst = some d) (hdN : Nat.blt d N = true) (hgd2 : o2.guard = none) (ho2 : o2.op = .call { callee := .builtin .append, args := #[s, y], argTypes := #[t, t] }) (hd2 : o2.dst = some d2) (hd2N : Nat.blt d2 N = true)
    (hs : ∀ u, ev ((d, u) :: F) s = some v) (hy : ∀ u, ev ((d, u) :: F) y = some u) (hx : ev F x = some vx) (ht : P.underlying t = some (.slice T)) (cs : List Value) (hcs : cs.length = sz) (h1 : cs.all (·.oneCell') = true)
    (hrun : ∀ W, (Instr.buildSlice t 1 #[(0, vx)]).run P W = .ok (.slice (some ⟨W.heap.size, 0, none⟩) 1 1) (W.alloc (.cells cs.toArray T)))
    (z : Value) (bytes : Nat) (hinfo : (P.info? T).map (fun i => (i.zero, i.size, i.bytes)) = some (some z, sz, bytes)) (hzs : z.cells.size = sz) (hsz : 0 < sz) (hbytes : (n + 1) * bytes ≤ 140737488355328) (hb0 : 0 < bytes)
    (h : ∀ A' c' a' w' Lr' u, Fr a' N ((d2, .slice A' (n + 1) c') :: (d, u) :: F) → RowIs T sz Lr' (.slice A' (n + 1) c') (n + 1) (xs ++ cs) → n + 1 ≤ c' → c' ≤ maxCap → St w0 w' (L ++ Lr') D → wpList P ops Q rest a' w') : wpList P ops Q (o :: o2 :: rest) a w :=
  at_app1 hS L hLL hR (want_spec hA hw) ho hgd2 ho2 (fun u => by rw [hd]; exact (hA.put hdN u).eval (hs u)) (fun u => by rw [hd]; exact (hA.put hdN u).eval (hy u)) ht cs hcs h1 (fun W => by simpa [hA.eval hx] using hrun W) z bytes hinfo hzs hsz hbytes hb0
    (fun A' c' w' Lr' u q1 q2 q3 q4 => by rw [hd, hd2]; exact h _ _ _ _ _ u ((hA.put hdN u).put hd2N _) q1 q2 q3 q4)
end
/-! ### a function's code, taken apart -/
def loopOf : Code → Option Code
  | .loop c => some c
  | .seq a b => match loopOf a with
    | some c => some c
    | none => loopOf b
  | .block _ c => loopOf c
  | .scope c => loopOf c
  | .cond _ a b => match loopOf a with
    | some c => some c
    | none => loopOf b
  | _ => none
def blockOf (n : Nat) : Code → Option Code
  | .block m c => bif Nat.beq m n then some (.block m c) else blockOf n c
  | .loop c => blockOf n c
  | .seq a b => match blockOf n a with
    | some c => some c
    | none => blockOf n b
  | .scope c => blockOf n c
  | .cond _ a b => match blockOf n a with
    | some c => some c
    | none => blockOf n b
  | _ => none
end Go.Proofs.YtpdjahejcdmopaaDoor
