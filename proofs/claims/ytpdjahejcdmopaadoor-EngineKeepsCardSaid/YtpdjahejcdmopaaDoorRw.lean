/- Rows of the call's own that grow (append), among the boxes of a walk's state. -/
import Derived.Test.YtpdjahejcdmopaaDoorSt
namespace Go.Proofs.YtpdjahejcdmopaaDoor
open Go.RowKit
set_option linter.unusedVariables false
/-- The slice v has n elements of sz cells each, and they lie in the row Lr (nothing, or one box). -/
def RowIs (T : TypeId) (sz : Nat) (Lr : List Bx) (v : Value) (n : Nat) (xs : List Value) : Prop :=
  xs.length = n * sz ∧ ((n = 0 ∧ (∃ A, v = .slice A 0 0) ∧ Lr = []) ∨ ∃ g cap cur, v = .slice (some ⟨g, 0, none⟩) n cap ∧ Lr = [⟨g, cur, T⟩] ∧ 0 < cap ∧ n ≤ cap ∧ cap ≤ maxLen ∧ cur.length = cap * sz ∧ cur.take (n * sz) = xs)
theorem RowIs.nil (T : TypeId) (sz : Nat) : RowIs T sz [] (.slice none 0 0) 0 [] := ⟨by simp, .inl ⟨rfl, ⟨none, rfl⟩, rfl⟩⟩
theorem RowIs.form {T : TypeId} {sz : Nat} {Lr : List Bx} {v : Value} {n : Nat} {xs : List Value} (h : RowIs T sz Lr v n xs) : ∃ A c, v = .slice A n c ∧ n ≤ c ∧ c ≤ maxCap := by
  rcases h.2 with ⟨rfl, ⟨A, rfl⟩, _⟩ | ⟨g, cap, cur, rfl, _, _, h1, h2, _⟩
  · exact ⟨A, 0, rfl, Nat.le_refl _, by simp [maxCap]⟩
  · exact ⟨_, cap, rfl, h1, h2⟩
section
variable {w0 w w' : World} {L Lr : List Bx} {D : List Dat} {T : TypeId} {sz : Nat} {v : Value} {n : Nat} {xs : List Value}
/-- Some of the boxes. -/
theorem St.sub (h : St w0 w L D) (L' : List Bx) (hs : L'.Sublist L) : St w0 w L' D :=
  ⟨h.below, fun x hx => h.box x (hs.subset hx), h.nodup.sublist (hs.map _), fun d hd => d.move (fun k hk ho => ⟨rfl, fun x hx => ho x (hs.subset hx)⟩) (h.dat d hd)⟩
theorem St.own (h : St w0 w (L ++ Lr) D) (hR : RowIs T sz Lr v n xs) : Own (fun k => w0.heap.size ≤ k) w T sz v n xs := by
  refine ⟨hR.1, ?_⟩
  rcases hR.2 with ⟨rfl, ⟨A, rfl⟩, rfl⟩ | ⟨g, cap, cur, rfl, rfl, h0, h1, h2, h3, h4⟩
  · exact .inl ⟨rfl, A, rfl⟩
  · have hb := h.box ⟨g, cur, T⟩ (by simp)
    exact .inr ⟨g, cap, cur.toArray, rfl, h0, hb.2, hb.1, h1, h2, by simpa using h3, h4⟩
theorem St.grown (h : St w0 w (L ++ Lr) D) (hR : RowIs T sz Lr v n xs) {v' : Value} {n' : Nat} {xs' : List Value} (hown : Own (fun k => w0.heap.size ≤ k) w' T sz v' n' xs') (hg : w.grownBy w' (rowOf v))
    (hr : rowOf v' = rowOf v ∨ ∃ q, w.heap.size ≤ q ∧ rowOf v' = some q) : ∃ Lr', RowIs T sz Lr' v' n' xs' ∧ St w0 w' (L ++ Lr') D := by
  -- what the old row's block is
  have hrow : ∀ k, rowOf v = some k → k < w.heap.size ∧ w0.heap.size ≤ k ∧ ∃ cur, Lr = [⟨k, cur, T⟩] := by
    intro k hk
    rcases hR.2 with ⟨rfl, ⟨A, rfl⟩, rfl⟩ | ⟨g, cap, cur, rfl, rfl, h0, h1, h2, h3, h4⟩
    · cases A <;> simp [rowOf] at hk
    · obtain ⟨c, rfl⟩ : ∃ c, cap = c + 1 := ⟨cap - 1, by omega⟩
      simp only [rowOf, Option.some.injEq] at hk
      subst hk
      have hb := h.box ⟨g, cur, T⟩ (by simp)
      exact ⟨hb.1.lt, hb.2, cur, rfl⟩
  have hbelow : Below w0.heap.size w0 w' := h.below.grown hg h.below.size fun k hk => (hrow k hk).2.1
  have hkeep : ∀ k, k < w.heap.size → Off (L ++ Lr) k → w'.heap[k]? = w.heap[k]? := by
    intro k hk ho
    refine hg.block k hk fun e => ?_
    obtain ⟨_, _, cur, rfl⟩ := hrow k e.symm
    exact ho ⟨k, cur, T⟩ (by simp) rfl
  have hL : ∀ x ∈ L, Has w' x ∧ w0.heap.size ≤ x.b := by
    intro x hx
    have hb := h.box x (List.mem_append_left _ hx)
    refine ⟨(hg.block x.b hb.1.lt fun e => ?_).trans hb.1, hb.2⟩
    obtain ⟨_, _, cur, rfl⟩ := hrow x.b e.symm
    have hn := h.nodup
    rw [List.map_append, List.nodup_append] at hn
    exact hn.2.2 x.b (List.mem_map_of_mem hx) x.b (by simp) rfl
  have hndL : (L.map Bx.b).Nodup := by
    have hn := h.nodup
    rw [List.map_append, List.nodup_append] at hn
    exact hn.1
  obtain ⟨hlen, hcase⟩ := hown
  rcases hcase with ⟨rfl, A, rfl⟩ | ⟨g, cap, cur, rfl, h0, hgk, hh, h1, h2, h3, h4⟩
  · refine ⟨[], ⟨hlen, .inl ⟨rfl, ⟨A, rfl⟩, rfl⟩⟩, ?_⟩
    rw [List.append_nil]
    exact ⟨hbelow, hL, hndL, fun d hd => d.move (fun k hk ho => ⟨hkeep k hk ho, fun x hx => ho x (List.mem_append_left _ hx)⟩) (h.dat d hd)⟩
  · obtain ⟨c, rfl⟩ : ∃ c, cap = c + 1 := ⟨cap - 1, by omega⟩
    have hr' : (some g = rowOf v) ∨ w.heap.size ≤ g := by
      rcases hr with hr | ⟨q, hq, hr⟩
      · exact .inl hr
      · simp only [rowOf, Option.some.injEq] at hr
        subst hr
        exact .inr hq
    refine ⟨[⟨g, cur.toList, T⟩], ⟨hlen, .inr ⟨g, c + 1, cur.toList, rfl, rfl, h0, h1, h2, by simpa using h3, h4⟩⟩, hbelow, fun x hx => ?_, ?_, fun d hd => d.move (fun k hk ho => ⟨hkeep k hk ho, fun x hx => ?_⟩) (h.dat d hd)⟩
    · rcases List.mem_append.1 hx with hx | hx
      · exact hL x hx
      · obtain rfl := List.mem_singleton.1 hx
        exact ⟨by simpa [Has] using hh, hgk⟩
    · rw [List.map_append, List.nodup_append]
      refine ⟨hndL, by simp, fun p hp q hq => ?_⟩
      obtain ⟨x, hx, rfl⟩ := List.mem_map.1 hp
      have hqg : q = g := by simpa using hq
      subst hqg
      rcases hr' with hr' | hr'
      · obtain ⟨_, _, cur', rfl⟩ := hrow q hr'.symm
        have hn := h.nodup
        rw [List.map_append, List.nodup_append] at hn
        exact hn.2.2 x.b (List.mem_map_of_mem hx) q (by simp)
      · have := ((h.box x (List.mem_append_left _ hx)).1).lt
        omega
    · rcases List.mem_append.1 hx with hx | hx
      · exact ho x (List.mem_append_left _ hx)
      · obtain rfl := List.mem_singleton.1 hx
        rcases hr' with hr' | hr'
        · obtain ⟨_, _, cur', rfl⟩ := hrow g hr'.symm
          exact ho ⟨g, cur', T⟩ (by simp)
        · show g ≠ k
          omega
/-- A cell of the row. -/
theorem St.cellR (h : St w0 w (L ++ Lr) D) (hR : RowIs T sz Lr v n xs) (j : Nat) (x : Value) (hj : xs[j]? = some x) : ∃ g c, v = .slice (some ⟨g, 0, none⟩) n c ∧ n ≤ c ∧ c ≤ maxCap ∧ w.cell? ⟨g, j, none⟩ = some x ∧ w.frozen? ⟨g, j, none⟩ = false := by
  rcases hR.2 with ⟨rfl, _, _⟩ | ⟨g, cap, cur, rfl, rfl, h0, h1, h2, h3, h4⟩
  · have := lt_of_getElem? hj
    rw [hR.1] at this
    omega
  · have hb : w.heap[g]? = some (.cells cur.toArray T (0, 0)) := (h.box ⟨g, cur, T⟩ (by simp)).1
    refine ⟨g, cap, rfl, h1, h2, ?_, blk_frozen hb _⟩
    rw [blk_cell hb]
    have hjl := lt_of_getElem? hj
    rw [← h4, List.getElem?_take] at hj
    split at hj
    · simpa using hj
    · cases hj
end
section
variable {P : Program} {ops : Array Oper} {rest : List Oper} {o o2 : Oper} {a : Act} {Q : Exit → Act → World → Prop} {w0 w : World} {LL L Lr : List Bx} {D : List Dat} {T : TypeId} {sz : Nat} {v : Value} {n : Nat} {xs : List Value}
/-- append of one element: it is laid, then appended. -/
theorem at_app1 (hS : St w0 w LL D) (L : List Bx) (hLL : LL = L ++ Lr) (hR : RowIs T sz Lr v n xs) {t : TypeId} {parts : Array (Nat × Operand)} {s y : Operand} (hw : Region.wanted o (yielded ops a.tmps) = true) (ho : o.op = .buildSlice t 1 parts) (hgd2 : o2.guard = none)
    (ho2 : o2.op = .call { callee := .builtin .append, args := #[s, y], argTypes := #[t, t] }) (hs : ∀ u, (a.put o.dst u).eval s = v) (hy : ∀ u, (a.put o.dst u).eval y = u) (ht : P.underlying t = some (.slice T)) (cs : List Value) (hcs : cs.length = sz) (h1 : cs.all (·.oneCell') = true)
    (hrun : ∀ W, (Instr.buildSlice t 1 (parts.map fun (i, x) => (i, a.eval x))).run P W = .ok (.slice (some ⟨W.heap.size, 0, none⟩) 1 1) (W.alloc (.cells cs.toArray T)))
    (z : Value) (bytes : Nat) (hinfo : (P.info? T).map (fun i => (i.zero, i.size, i.bytes)) = some (some z, sz, bytes)) (hzs : z.cells.size = sz) (hsz : 0 < sz) (hbytes : (n + 1) * bytes ≤ 140737488355328) (hb0 : 0 < bytes)
    (h : ∀ A' c' w' Lr' u, RowIs T sz Lr' (.slice A' (n + 1) c') (n + 1) (xs ++ cs) → n + 1 ≤ c' → c' ≤ maxCap → St w0 w' (L ++ Lr') D → wpList P ops Q rest ((a.put o.dst u).put o2.dst (.slice A' (n + 1) c')) w') : wpList P ops Q (o :: o2 :: rest) a w := by
  subst hLL
  refine step_run (v := .slice (some ⟨w.heap.size, 0, none⟩) 1 1) (w1 := w.alloc (.cells cs.toArray T)) hw ?_ ?_
  · unfold execOp
    rw [ho]
    simp [hrun]
  have hown := hS.own hR
  refine wpList_app_new w hgd2 s y t ho2 T z sz bytes ht hinfo hzs hsz (fun k => w0.heap.size ≤ k) (fun k hk => Nat.le_trans hS.below.size hk) cs.toArray 1 (by simp [hcs]) (fun u hu => List.all_eq_true.1 h1 u (by simpa using hu)) v n xs (hs _) hown _ (hy _) rfl hbytes hb0 ?_
  intro v' w' h2 h3 h4
  obtain ⟨Lr', hR', hS'⟩ := hS.grown hR h2 h3 (h4.imp id fun e => ⟨_, Nat.le_succ _, e⟩)
  obtain ⟨A', c', rfl, q1, q2⟩ := hR'.form
  exact h A' c' w' Lr' _ (by simpa using hR') q1 q2 hS'
end
end Go.Proofs.YtpdjahejcdmopaaDoor
