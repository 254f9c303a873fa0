/- Written by wip/mkstep.py: the append laws of Base, as steps of a region that draws. -/
import Derived.Test.YtpdjahejcdmopaaDoorOwn2
namespace Go.Proofs.YtpdjahejcdmopaaDoor
open Go.RowKit
set_option linter.unusedVariables false
theorem step_app {P : Program} {ops : Array Oper} {o : Oper} {a : Act} {K : Act → World → Prop} {Q : Exit → Act → World → Prop} {E : Prop} (w : World) (hgd : o.guard = none) (s x : Operand) (t : TypeId)
    (ho : o.op = .call { callee := .builtin .append, args := #[s, x], argTypes := #[t, t] })
    (e : TypeId) (i : TypeInfo) (z : Value) (size bytes : Nat) (ht : P.underlying t = some (.slice e)) (hi : P.info? e = some i) (hz : i.zero = some z)
    (hsize : i.size = size) (hby : i.bytes = bytes) (hzs : z.cells.size = size) (hsz : 0 < size) (ok : Nat → Prop)
    (v : Value) (n : Nat) (xs : List Value) (hs : a.eval s = v) (hown : Own ok w e size v n xs) (xv : Value) (m : Nat) (news : List Value) (hx : a.eval x = xv) (hsrc : Src w size xv m news)
    (h63 : n + m ≤ maxLen) (hbytes : (n + m) * bytes ≤ 140737488355328)
    (h : ∀ v' w', Own (fun k => ok k ∨ k = w.heap.size) w' e size v' (n + m) (xs ++ news) → w.grownBy w' (rowOf v) → (rowOf v' = rowOf v ∨ rowOf v' = some w.heap.size) → K (a.put o.dst v') w') : (if Region.wanted o (yielded ops a.tmps) = true then Oper.wp P o a w K Q else E) := by
  obtain ⟨v', w', hr, h2, h3, h4⟩ := run_app (P := P) w t o.type e i z size bytes ht hi hz hsize hby hzs hsz ok v n xs hown xv m news hsrc h63 hbytes
  refine step_of_wp hgd ?_
  unfold Oper.wp execOp
  simp only [ho, resolve, invoke, builtin, Sem.run_bind, Sem.run_pure, Result.andThen_ok, List.map_toArray, List.map_cons, List.map_nil, hs, hx, hr]
  exact h v' w' h2 h3 h4

theorem step_app_new {P : Program} {ops : Array Oper} {o : Oper} {a : Act} {K : Act → World → Prop} {Q : Exit → Act → World → Prop} {E : Prop} (W : World) (hgd : o.guard = none) (s x : Operand) (t : TypeId)
    (ho : o.op = .call { callee := .builtin .append, args := #[s, x], argTypes := #[t, t] })
    (e : TypeId) (z : Value) (size bytes : Nat) (ht : P.underlying t = some (.slice e)) (hinfo : (P.info? e).map (fun i => (i.zero, i.size, i.bytes)) = some (some z, size, bytes)) (hzs : z.cells.size = size) (hsz : 0 < size) (ok : Nat → Prop)
    (hok : ∀ k, W.heap.size ≤ k → ok k) (cs : Array Value) (m : Nat) (hcs : cs.size = m * size) (h1 : ∀ u ∈ cs.toList, u.oneCell' = true)
    (v : Value) (n : Nat) (xs : List Value) (hs : a.eval s = v) (hown : Own ok W e size v n xs) (g : Nat) (hx : a.eval x = .slice (some ⟨g, 0, none⟩) m m) (hgW : W.heap.size = g)
    (hbytes : (n + m) * bytes ≤ 140737488355328) (hb0 : 0 < bytes)
    (h : ∀ v' w', Own ok w' e size v' (n + m) (xs ++ cs.toList) → W.grownBy w' (rowOf v) → (rowOf v' = rowOf v ∨ rowOf v' = some (W.heap.size + 1)) → K (a.put o.dst v') w') : (if Region.wanted o (yielded ops a.tmps) = true then Oper.wp P o a (W.alloc (.cells cs e)) K Q else E) := by
  obtain ⟨i, hi, hzz⟩ := Option.map_eq_some_iff.1 hinfo
  simp only [Prod.mk.injEq] at hzz
  obtain ⟨hz0, hz1, hz2⟩ := hzz
  have hle : n + m ≤ 140737488355328 := Nat.le_trans (Nat.le_mul_of_pos_right _ hb0) hbytes
  subst hgW
  refine step_app (P := P) (W.alloc (.cells cs e)) hgd s x t ho e i z size bytes ht hi hz0 hz1 hz2 hzs hsz ok v n xs hs (hown.alloc _) _ m cs.toList hx (Src.new W cs e size m hcs h1) (by simp only [maxLen]; omega) hbytes ?_
  intro v' w' h2 h3 h4
  refine h v' w' (h2.weak fun k _ hk => ?_) (World.grownBy.trans (World.grownBy_alloc W _ _) h3) (by simpa using h4)
  rcases hk with hk | rfl
  · exact hk
  · exact hok _ (by simp)

theorem step_app_rd {P : Program} {ops : Array Oper} {o : Oper} {a : Act} {K : Act → World → Prop} {Q : Exit → Act → World → Prop} {E : Prop} {α : Type} (d : Rep α) (W : World) (hgd : o.guard = none) (s x : Operand) (t : TypeId)
    (ho : o.op = .call { callee := .builtin .append, args := #[s, x], argTypes := #[t, t] })
    (e : TypeId) (z : Value) (bytes : Nat) (ht : P.underlying t = some (.slice e)) (hinfo : (P.info? e).map (fun i => (i.zero, i.size, i.bytes)) = some (some z, d.sz, bytes)) (hzs : z.cells.size = d.sz) (okr oks : Nat → Prop)
    (hok : ∀ k, W.heap.size ≤ k → okr k)
    (v : Value) (n : Nat) (xs : List Value) (hs : a.eval s = v) (hown : Own okr W e d.sz v n xs) (A : Option Addr) (c : Nat) (ys : List α) (hx : a.eval x = .slice A ys.length c) (hrd : Rd d oks W A ys)
    (hbytes : (n + ys.length) * bytes ≤ 140737488355328) (hb0 : 0 < bytes)
    (h : ∀ v' w' cs, Own okr w' e d.sz v' (n + ys.length) (xs ++ cs) → Reps d oks W ys cs → W.grownBy w' (rowOf v) → (rowOf v' = rowOf v ∨ rowOf v' = some W.heap.size) → K (a.put o.dst v') w') : (if Region.wanted o (yielded ops a.tmps) = true then Oper.wp P o a W K Q else E) := by
  obtain ⟨i, hi, hzz⟩ := Option.map_eq_some_iff.1 hinfo
  simp only [Prod.mk.injEq] at hzz
  obtain ⟨hz0, hz1, hz2⟩ := hzz
  have hle : n + ys.length ≤ 140737488355328 := Nat.le_trans (Nat.le_mul_of_pos_right _ hb0) hbytes
  obtain ⟨cs, hsrc, hreps⟩ := hrd.src c
  refine step_app (P := P) W hgd s x t ho e i z d.sz bytes ht hi hz0 hz1 hz2 hzs d.pos okr v n xs hs hown _ ys.length cs hx hsrc (by simp only [maxLen]; omega) hbytes ?_
  intro v' w' h2 h3 h4
  refine h v' w' cs (h2.weak fun k _ hk => ?_) hreps h3 h4
  rcases hk with hk | rfl
  · exact hk
  · exact hok _ (Nat.le_refl _)

theorem step_appB {ops : Array Oper} {o : Oper} {a : Act} {K : Act → World → Prop} {Q : Exit → Act → World → Prop} {E : Prop} (v : Value) (xs : List UInt8) (A : Option Addr) (c : Nat) (ys : List UInt8) (okr oks : Nat → Prop) (W : World) (t : TypeId) (hgd : o.guard = none) (s x : Operand)
    (ho : o.op = .call { callee := .builtin .append, args := #[s, x], argTypes := #[t, t] }) (ht : Tryd.prog.underlying t = some (.slice 5))
    (hs : a.eval s = v) (hx : a.eval x = .slice A ys.length c) (hok : ∀ k, W.heap.size ≤ k → okr k) (hown : OwnB okr W v xs) (hrd : Rd u8 oks W A ys)
    (hbytes : xs.length + ys.length ≤ 140737488355328)
    (h : ∀ v' w', OwnB okr w' v' (xs ++ ys) → W.grownBy w' (rowOf v) → (rowOf v' = rowOf v ∨ rowOf v' = some W.heap.size) → K (a.put o.dst v') w') : (if Region.wanted o (yielded ops a.tmps) = true then Oper.wp Tryd.prog o a W K Q else E) := by
  refine step_app_rd u8 W hgd s x t ho 5 _ 1 ht infoU8 rfl okr oks hok v xs.length (bV xs) hs hown A c ys hx hrd (by omega) (by omega) ?_
  intro v' w' cs h1 h2 h3 h4
  have e := u8_reps h2
  subst e
  refine h v' w' ?_ h3 h4
  rw [OwnB, List.length_append, bV_append]
  exact h1

theorem step_appB_new {ops : Array Oper} {o : Oper} {a : Act} {K : Act → World → Prop} {Q : Exit → Act → World → Prop} {E : Prop} (v : Value) (xs ys : List UInt8) (okr : Nat → Prop) (W : World) (cs : Array Value) (t : TypeId) (hgd : o.guard = none) (s x : Operand)
    (ho : o.op = .call { callee := .builtin .append, args := #[s, x], argTypes := #[t, t] }) (ht : Tryd.prog.underlying t = some (.slice 5))
    (hs : a.eval s = v) (g : Nat) (hx : a.eval x = .slice (some ⟨g, 0, none⟩) ys.length ys.length) (hgW : W.heap.size = g) (hcs : cs.toList = bV ys) (hok : ∀ k, W.heap.size ≤ k → okr k) (hown : OwnB okr W v xs)
    (hbytes : xs.length + ys.length ≤ 140737488355328)
    (h : ∀ v' w', OwnB okr w' v' (xs ++ ys) → W.grownBy w' (rowOf v) → (rowOf v' = rowOf v ∨ rowOf v' = some (W.heap.size + 1)) → K (a.put o.dst v') w') : (if Region.wanted o (yielded ops a.tmps) = true then Oper.wp Tryd.prog o a (W.alloc (.cells cs 5)) K Q else E) := by
  refine step_app_new W hgd s x t ho 5 (.int .u8 0) 1 1 ht infoU8 rfl (by omega) okr hok cs ys.length (by rw [Nat.mul_one, ← Array.length_toList, hcs, bV_length]) (by rw [hcs]; intro u hu; simp only [bV, List.mem_map] at hu; obtain ⟨b, _, rfl⟩ := hu; rfl) v xs.length (bV xs) hs hown g hx hgW (by omega) (by omega) ?_
  intro v' w' h1 h2 h3
  refine h v' w' ?_ h2 h3
  rw [OwnB, List.length_append, bV_append, ← hcs]
  exact h1

theorem step_appX {ops : Array Oper} {o : Oper} {a : Act} {K : Act → World → Prop} {Q : Exit → Act → World → Prop} {E : Prop} {α : Type} (d : Rep α) (B : Nat) (oke : Nat → Prop) (x : α) (v : Value) (xs : List α) (W : World) (cs : Array Value) (t e : TypeId) (z : Value) (bytes : Nat) (hgd : o.guard = none) (s y : Operand)
    (ho : o.op = .call { callee := .builtin .append, args := #[s, y], argTypes := #[t, t] }) (ht : Tryd.prog.underlying t = some (.slice e)) (hinfo : (Tryd.prog.info? e).map (fun i => (i.zero, i.size, i.bytes)) = some (some z, d.sz, bytes)) (hzs : z.cells.size = d.sz)
    (hs : a.eval s = v) (g : Nat) (hy : a.eval y = .slice (some ⟨g, 0, none⟩) 1 1) (hgW : W.heap.size = g) (hB : B ≤ W.heap.size) (hown : OwnX d B oke W e v xs) (hK : d.K (fun k => oke k ∧ some k ≠ rowOf v) W x cs.toList)
    (hbytes : (xs.length + 1) * bytes ≤ 140737488355328) (hb0 : 0 < bytes)
    (h : ∀ A' c' w', OwnX d B oke w' e (.slice A' (xs ++ [x]).length c') (xs ++ [x]) → Below B W w' → W.grownBy w' (rowOf v) → (xs ++ [x]).length ≤ c' → c' ≤ maxCap → K (a.put o.dst (.slice A' (xs ++ [x]).length c')) w') :
    (if Region.wanted o (yielded ops a.tmps) = true then Oper.wp Tryd.prog o a (W.alloc (.cells cs e)) K Q else E) := by
  obtain ⟨c0, hown, hr⟩ := hown
  have hK1 : d.K (fun k => oke k ∧ some k ≠ rowOf v) (W.alloc (.cells cs e)) x cs.toList := d.move (fun k hk _ => heap_alloc_lt _ _ hk) hK
  refine step_app_new W hgd s y t ho e z d.sz bytes ht hinfo hzs d.pos (fun k => B ≤ k) (fun k hk => Nat.le_trans hB hk) cs 1 (by rw [Nat.one_mul, ← Array.length_toList, d.len hK]) (d.one hK) v xs.length c0 hs hown g hy hgW hbytes hb0 ?_
  intro v' w' h1 h2 h3
  have hb : Below B W w' := (Below.refl B W).grown h2 hB (fun k hk => (hown.row k hk).1)
  have hsz := h2.size
  have hlen : (xs ++ [x]).length = xs.length + 1 := by simp
  rw [← hlen] at h1
  obtain ⟨A', c', rfl, hl, hc⟩ := h1.form
  refine h A' c' w' ⟨c0 ++ cs.toList, h1, ?_⟩ hb h2 hl hc
  have r1 : Reps d (fun k => oke k ∧ some k ≠ rowOf v ∧ k < W.heap.size) W (xs ++ [x]) (c0 ++ cs.toList) := (hr.append (Reps.single hK)).weak fun k hk h => ⟨h.1, h.2, hk⟩
  refine (r1.move fun k hk h => h2.block k hk h.2.1).weak ?_
  rintro k _ ⟨h5, h6, h7⟩
  refine ⟨h5, ?_⟩
  rcases h3 with h3 | h3
  · rw [h3]; exact h6
  · rw [h3]; intro e; injection e with e; omega

end Go.Proofs.YtpdjahejcdmopaaDoor
