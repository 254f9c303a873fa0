/- engine.Put. -/
import Derived.Test.YtpdjahejcdmopaaDoorEngD
import Derived.Test.YtpdjahejcdmopaaDoorReg
import Derived.Deep.RegionHeld3
namespace Go.Proofs.YtpdjahejcdmopaaDoor
open Go.RowKit
set_option linter.unusedVariables false
set_option linter.unusedSimpArgs false
def Sec.zero : Sec := ⟨[], 0, 0⟩
def Sec.put (s : Sec) (data : List UInt8) (cas : Int) (now : UInt64) : Sec × Option Int :=
  if s.may = true ∧ data.length ≤ 100 then
    if 0 ≤ cas ∧ cas ≠ s.last.toNat then (Sec.zero, some 20)
    else if s.last.toNat = 4294967295 then (Sec.zero, some 19)
    else (⟨if s.mx < s.l.length + 1 then (s.l ++ [(⟨s.last + 1, data, now, 0⟩ : Ver)]).tail else s.l ++ [(⟨s.last + 1, data, now, 0⟩ : Ver)], s.last + 1, s.mx⟩, none)
  else (Sec.zero, some 1)
/-- What a call answers that answers a secret and an error. -/
def SecAns (B : Nat) (p : Sec × Option Int) (e : Ending) (w' : World) : Prop :=
  ∃ A c, e = .returned (.tuple #[.agg #[.slice A p.1.l.length c, .int .u32 (p.1.last.toNat : Int), .int .i64 p.1.mx], errV p.2]) ∧ p.1.l.length ≤ c ∧ c ≤ maxCap ∧ Rd verK (fun k => B ≤ k) w' A p.1.l
theorem SecAns.none (B : Nat) (n : Int) (w' : World) : SecAns B (Sec.zero, some n) (.returned (.tuple #[.agg #[.slice none 0 0, .int .u32 0, .int .i64 0], .iface 69 (.int .i64 n)])) w' :=
  by
  refine ⟨Option.none, 0, rfl, Nat.le_refl _, by simp [maxCap], Rd.nil _ _ _ _⟩
theorem put_elem (s : Sec) (data : List UInt8) (now : UInt64) (hl1 : (s.last + 1).toNat = s.last.toNat + 1) (ok : Nat → Prop) (W : World) (A4 : Option Addr) (c4 : Nat) (hl4 : data.length ≤ c4) (hc4 : c4 ≤ maxCap) (h : Rd u8 ok W A4 data) :
    verK.K ok W ⟨s.last + 1, data, now, 0⟩ [.int .u32 ((s.last.toNat : Int) + 1), .slice A4 data.length c4, .int .u64 (now.toNat : Int), .int .i64 0] := by
  refine ⟨A4, c4, ?_, hl4, hc4, h, by simp [I64]⟩
  have : (((s.last + 1).toNat : Nat) : Int) = (s.last.toNat : Int) + 1 := by omega
  simp only [this]
theorem own_fresh {C B : Nat} {w4 w3 : World} {A4 : Option Addr} {c4 : Nat} {data : List UInt8} {v3 : Value} {l : List Ver} {oke : Nat → Prop} (h4 : OwnB (fun k => C ≤ k) w4 (.slice A4 data.length c4) data) (h3 : OwnX verK B oke w3 42 v3 l) (hC : w3.heap.size ≤ C) :
    Rd u8 (fun k => C ≤ k ∧ some k ≠ rowOf v3) w4 A4 data := by
  obtain ⟨_, _, e1, _, _, h⟩ := h4.rd
  cases e1
  refine h.weak fun k _ hk => ⟨hk, fun e => ?_⟩
  obtain ⟨cs, ho, _⟩ := h3
  have := (ho.row k e.symm).2
  omega
theorem OwnX.weak' {α : Type} {d : Rep α} {B : Nat} {oke oke' : Nat → Prop} {w : World} {e : Nat} {v : Value} {l : List α} (h : OwnX d B oke w e v l) (hm : ∀ k, k < w.heap.size → oke k → oke' k) : OwnX d B oke' w e v l := by
  obtain ⟨cs, ho, hr⟩ := h
  exact ⟨cs, ho, hr.weak fun k hk hk' => ⟨hm k hk hk'.1, hk'.2⟩⟩
theorem OwnX.row_ne {α : Type} {d : Rep α} {B : Nat} {oke : Nat → Prop} {w : World} {e : Nat} {v : Value} {l : List α} (h : OwnX d B oke w e v l) {q : Nat} {cs : Array Value} {e' : Nat} {fr : Nat × Nat} (hbx : w.heap[q]? = some (.cells cs e' fr)) (hne : e' ≠ e) : some q ≠ rowOf v := by
  obtain ⟨_, ho, _⟩ := h
  intro hq
  rcases ho.2 with ⟨_, A, rfl⟩ | ⟨g, cap, cur, rfl, hc0, hg, hh, _⟩
  · cases A <;> simp [rowOf] at hq
  · obtain ⟨c, rfl⟩ : ∃ c, cap = c + 1 := ⟨cap - 1, by omega⟩
    simp [rowOf] at hq
    subst hq
    rw [hbx] at hh
    injection hh with hh
    injection hh with _ hh
    exact hne hh
theorem OwnX.set_box {α : Type} {d : Rep α} {B : Nat} {oke : Nat → Prop} {w : World} {e : Nat} {v : Value} {l : List α} (h : OwnX d B oke w e v l) {q o : Nat} {cs : Array Value} {e' : Nat} {fr : Nat × Nat} (hbx : w.heap[q]? = some (.cells cs e' fr)) (hne : e' ≠ e) (hq : ¬ oke q) (u : Value) : OwnX d B oke (w.setCell ⟨q, o, none⟩ u) e v l := by
  have hr' := h.row_ne hbx hne
  obtain ⟨cs', ho, hr⟩ := h
  exact ⟨cs', ho.move (fun k hk => heap_set_ne w _ u (fun e => hr' (by rw [hk]; exact congrArg some e.symm))), hr.setCell _ (fun h => hq h.1) u⟩
theorem put_ans {B : Nat} {w' : World} (s : Sec) (L : List Ver) (n : Nat) (hn : L.length = n) (hl1 : (s.last + 1).toNat = s.last.toNat + 1) (A : Option Addr) (c : Nat) (hc : n ≤ c) (hcc : c ≤ maxCap) (h : Rd verK (fun k => B ≤ k) w' A L) :
    SecAns B ((⟨L, s.last + 1, s.mx⟩ : Sec), none) (.returned (.tuple #[.agg #[.slice A n c, .int .u32 ((s.last.toNat : Int) + 1), .int .i64 s.mx], .nilIface])) w' := by
  subst hn
  have : (((s.last + 1).toNat : Nat) : Int) = (s.last.toNat : Int) + 1 := by omega
  exact ⟨A, c, by simp only [this, errV], hc, hcc, h⟩
theorem delete_n (B : Nat) (oke : Nat → Prop) (l : List Ver) (n m : Nat) (hn : l.length = n) (hm : l.tail.length = m) (A : Option Addr) (c : Nat) (w : World) (hB : B ≤ w.heap.size) (hown : OwnX verK B oke w 42 (.slice A n c) l) (hl : 0 < n) (hlen : n ≤ 1000) :
    Calls Tryd.prog 31 #[.slice A n c, .int .i64 0, .int .i64 1] w fun e w' => ∃ A' c', e = .returned (.slice A' m c') ∧ Below B w w' ∧ m ≤ c' ∧ c' ≤ maxCap ∧ OwnX verK B oke w' 42 (.slice A' m c') l.tail ∧ (∀ k, k < w.heap.size → some k ≠ rowOf (.slice A n c) → w'.heap[k]? = w.heap[k]?) := by
  subst hn; subst hm
  exact delete_calls B oke l A c w hB hown hl hlen
set_option maxRecDepth 10000 in
set_option maxHeartbeats 1000000 in
theorem put_ok1 (ok okd : Nat → Prop) (s : Sec) (data : List UInt8) (now : UInt64) (A Ad : Option Addr) (c cd : Nat) (w : World) (hr : Rd verK ok w A s.l) (hc : s.l.length ≤ c) (hcc : c ≤ maxCap)
    (hrd : Rd u8 okd w Ad data) (hcd : data.length ≤ cd) (hccd : cd ≤ maxCap) (hm : s.may = true) (hdl : data.length ≤ 100) (htop : ¬ s.last.toNat = 4294967295) :
    Calls Tryd.prog 11 #[.agg #[.slice A s.l.length c, .int .u32 (s.last.toNat : Int), .int .i64 s.mx], .slice Ad data.length cd, (.int .i64 (s.last.toNat : Int)), .int .u64 (now.toNat : Int)] w fun e w' => SecAns w.heap.size (s.put data (s.last.toNat : Int) now) e w' ∧ Below w.heap.size w w' := by
  refine calls_hide fun R HR => ?_
  have HC := Lib.hid (fun (W : World) (hb : Below w.heap.size w W) => hr.below hb)
  have HD := Lib.hid (fun (W : World) (hb : Below w.heap.size w W) => hrd.below hb)
  have hlen : data.length ≤ 9223372036854775807 := Nat.le_trans hcd hccd
  have HR0 := Lib.hid hr
  clear hr hrd
  have hla := s.last.toNat_lt
  have d0 : decide ((100 : Int) < (data.length : Int)) = false := by simp; omega
  have HM := Lib.hid hm
  clear hm
  have hca : ¬ (0 ≤ (s.last.toNat : Int) ∧ (s.last.toNat : Int) ≠ s.last.toNat) := fun h => h.2 rfl
  have hc0 : 0 ≤ (s.last.toNat : Int) := by omega
  have hput : s.put data (s.last.toNat : Int) now = (⟨if s.mx < s.l.length + 1 then (s.l ++ [(⟨s.last + 1, data, now, 0⟩ : Ver)]).tail else s.l ++ [(⟨s.last + 1, data, now, 0⟩ : Ver)], s.last + 1, s.mx⟩, none) := by
    unfold Sec.put; rw [if_pos ⟨HM.out, hdl⟩, if_neg hca, if_neg htop]
  have HP := Lib.hid hput
  clear hput
  have t0 : ((s.last.toNat : Int) == 4294967295) = false := by simp; omega
  have hl1 : (s.last + 1).toNat = s.last.toNat + 1 := by rw [UInt32.toNat_add]; simp; omega
  obtain ⟨hhead, hvs⟩ := (Sec.may_iff s).1 HM.out
  have hh := of_decide_eq_true hhead
  have hl8 : s.l.length ≤ 8 := by omega
  have hds : ∀ v ∈ s.l, v.data.length ≤ 1000 := by
    intro v hv
    obtain ⟨i, hi⟩ := List.getElem?_of_mem hv
    have := of_decide_eq_true (hvs i v hi).1
    omega
  have HDS := Lib.hid hds
  have HHD := Lib.hid hh
  have HTOP := Lib.hid htop
  have HL1 := Lib.hid hl1
  have hla' : s.last.toNat + 1 < 4294967296 := by omega
  clear hds hh hhead hvs htop hl1
  go_enter Tryd.func11, Tryd.ntmps11
  go_wp2_with (first | (go_at_call 9; (refine (check_yes ok s A c _ HM.out (HC.out _ (by repeat (first | with_reducible exact Below.refl _ _ | assumption | refine Below.alloc ?_ (by first | exact Nat.le_refl _ | omega | (simp; done) | (simp; omega)) _ | refine Below.setCell ?_ (by first | exact Nat.le_refl _ | (simp; done) | (simp; omega)) _ | refine Below.drew ?_))) hc hcc).mono ?_; rintro e w2 ⟨rfl, hb2⟩; obtain ⟨hX2, hY2⟩ := bcell hb2; have hs2 : w.heap.size + 1 + 1 ≤ w2.heap.size := (by simpa using hb2.size); have hs2' : w.heap.size + 1 < w2.heap.size := (by omega); have HB2 := Lib.hid hb2; clear hb2)) | (go_at_call 29; (refine (copied_calls ok s A c _ (HC.out _ (by repeat (first | with_reducible exact Below.refl _ _ | refine below_set ?_ (by first | exact Nat.le_refl _ | omega) _ | refine Below.alloc ?_ (by first | exact Nat.le_refl _ | omega | (simp; done) | (simp; omega)) _ | refine Below.drew ?_ | refine Below.trans ?_ (Below.mono HB2.out (by first | exact Nat.le_refl _ | omega | (simp; done) | (simp; omega))) ))) hc hcc (by omega) HDS.out).mono ?_; rintro e w3 ⟨A3, c3, rfl, hb3, hl3, hc3, hown3⟩; unfold secV; obtain ⟨hX3, hY3⟩ := bcell hb3; have hs3 := hb3.size; have HB3 := Lib.hid hb3; have HO3 := Lib.hid hown3; clear hb3 hown3)))
  have hs3' : w2.heap.size ≤ w3.heap.size := by simpa using hs3
  have hlt3 : w.heap.size + 1 < w3.heap.size := by omega
  have hsz5 : ∀ (W : World), Below (w3.heap.size + 1) (w3.alloc (.cells #[.slice A3 s.l.length c3, .int .u32 ((s.last.toNat : Int) + 1), .int .i64 s.mx] 32)) W → w3.heap.size + 1 ≤ W.heap.size := fun W h => by have := h.size; simpa using this
  have HSZ5 := Lib.hid hsz5
  clear hsz5
  refine hv_begin (fun W => W.cell? ⟨w3.heap.size, 0, none⟩ = some (.slice A3 s.l.length c3) ∧ W.cell? ⟨w3.heap.size, 1, none⟩ = some (.int .u32 ((s.last.toNat : Int) + 1))) 11 (by kernel_rfl) ?_
  have HS : (fun W : World => W.cell? ⟨w3.heap.size, 0, none⟩ = some (.slice A3 s.l.length c3) ∧ W.cell? ⟨w3.heap.size, 1, none⟩ = some (.int .u32 ((s.last.toNat : Int) + 1))) (w3.alloc (.cells #[.slice A3 s.l.length c3, .int .u32 ((s.last.toNat : Int) + 1), .int .i64 s.mx] 32)).drew := ⟨by simp, by simp⟩
  refine hv_take 0 (v := ?_) (by rfl) (by kernel_rfl) (by kernel_rfl) (by kernel_rfl) (by kernel_rfl) (by intro _ _ _ h; exact h) (.inl ⟨by rfl, fun W hS => ?_⟩) HS ?_; rotate_left; (focus obtain ⟨t0, t1⟩ := hS; go_simp; rfl); (try simp only [Act.put, List.setIfInBounds_toArray, List.set_cons_zero, List.set_cons_succ])
  refine hv_take 1 (v := ?_) (by rfl) (by kernel_rfl) (by kernel_rfl) (by kernel_rfl) (by kernel_rfl) (by intro _ _ _ h; exact h) (.inl ⟨by rfl, fun W hS => ?_⟩) HS ?_; rotate_left; (focus obtain ⟨t0, t1⟩ := hS; go_simp; rfl); (try simp only [Act.put, List.setIfInBounds_toArray, List.set_cons_zero, List.set_cons_succ])
  refine hv_take 2 (v := ?_) (by rfl) (by kernel_rfl) (by kernel_rfl) (by kernel_rfl) (by kernel_rfl) (by intro _ _ _ h; exact h) (.inl ⟨by rfl, fun W hS => ?_⟩) HS ?_; rotate_left; (focus obtain ⟨t0, t1⟩ := hS; go_simp; rfl); (try simp only [Act.put, List.setIfInBounds_toArray, List.set_cons_zero, List.set_cons_succ])
  refine hv_take 3 (v := ?_) (by rfl) (by kernel_rfl) (by kernel_rfl) (by kernel_rfl) (by kernel_rfl) (by intro _ _ _ h; exact h) (.inl ⟨by rfl, fun W hS => ?_⟩) HS ?_; rotate_left; (focus obtain ⟨t0, t1⟩ := hS; go_simp; rfl); (try simp only [Act.put, List.setIfInBounds_toArray, List.set_cons_zero, List.set_cons_succ])
  refine hv_take 4 (v := ?_) (by rfl) (by kernel_rfl) (by kernel_rfl) (by kernel_rfl) (by kernel_rfl) (by intro _ _ _ h; exact h) (.inl ⟨by rfl, fun W hS => ?_⟩) HS ?_; rotate_left; (focus obtain ⟨t0, t1⟩ := hS; go_simp; rfl); (try simp only [Act.put, List.setIfInBounds_toArray, List.set_cons_zero, List.set_cons_succ])
  refine hv_take 6 (v := ?_) (by rfl) (by kernel_rfl) (by kernel_rfl) (by kernel_rfl) (by kernel_rfl) (by intro _ _ _ h; exact h) (.inl ⟨by rfl, fun W hS => ?_⟩) HS ?_; rotate_left; (focus obtain ⟨t0, t1⟩ := hS; go_simp; rfl); (try simp only [Act.put, List.setIfInBounds_toArray, List.set_cons_zero, List.set_cons_succ])
  refine hv_only 5 (by kernel_rfl) (by rfl) (fun K hK => ?_)
  go_simp
  refine (cloneB_calls okd data _ _ _ (((HD.out _ (by repeat (first | with_reducible exact Below.refl _ _ | refine below_set ?_ (by first | exact Nat.le_refl _ | omega) _ | refine Below.alloc ?_ (by first | exact Nat.le_refl _ | omega | (simp; done) | (simp; omega)) _ | refine Below.drew ?_ | refine Below.trans ?_ (Below.mono HB2.out (by first | exact Nat.le_refl _ | omega | (simp; done) | (simp; omega))) | refine Below.trans ?_ (Below.mono HB3.out (by first | exact Nat.le_refl _ | omega | (simp; done) | (simp; omega))) ))).alloc _).drew) hcd hccd (by omega)).mono ?_
  rintro e w4 ⟨A4, c4, rfl, hb4, hl4, hc4, ho4⟩
  obtain ⟨hX4, hY4⟩ := bcell hb4
  have hs4 : w3.heap.size + 1 ≤ w4.heap.size := by simpa using hb4.size
  have HB4 := Lib.hid hb4
  have HO4 := Lib.hid ho4
  have HX4 := Lib.hid hX4
  clear hb4 ho4 hX4 hY4
  have K4 : w4.heap[w3.heap.size]? = some (.cells #[.slice A3 s.l.length c3, .int .u32 ((s.last.toNat : Int) + 1), .int .i64 s.mx] 32) := by
    rw [HB4.out.block _ (by simp)]
    exact heap_alloc_at _ _ _ rfl
  have k0 : w4.cell? ⟨w3.heap.size, 0, none⟩ = some (.slice A3 s.l.length c3) := (blk_cell K4 0).trans rfl
  have k1 : w4.cell? ⟨w3.heap.size, 1, none⟩ = some (.int .u32 ((s.last.toNat : Int) + 1)) := (blk_cell K4 1).trans rfl
  clear HS
  refine hK _ _ (fun _ => ⟨k0, k1⟩) ?_
  clear hK K
  have HS := (⟨k0, k1⟩ : w4.cell? ⟨w3.heap.size, 0, none⟩ = some (.slice A3 s.l.length c3) ∧ w4.cell? ⟨w3.heap.size, 1, none⟩ = some (.int .u32 ((s.last.toNat : Int) + 1)))
  (try simp only [Act.put, List.setIfInBounds_toArray, List.set_cons_zero, List.set_cons_succ])
  refine hv_take 7 (v := ?_) (by rfl) (by kernel_rfl) (by kernel_rfl) (by kernel_rfl) (by kernel_rfl) (by intro _ _ _ h; exact h) (.inl ⟨by rfl, fun W hS => ?_⟩) HS ?_; rotate_left; (focus obtain ⟨t0, t1⟩ := hS; go_simp; rfl); (try simp only [Act.put, List.setIfInBounds_toArray, List.set_cons_zero, List.set_cons_succ])
  refine hv_only 8 (by kernel_rfl) (by rfl) (fun K hK => ?_)
  go_simp
  have hlt4 : w3.heap.size < w4.heap.size := by omega
  clear HS
  refine hK _ _ (fun _ => ?_) ?_
  · exact ⟨(cell_of_heap (heap_alloc_lt _ _ hlt4)).trans k0, (cell_of_heap (heap_alloc_lt _ _ hlt4)).trans k1⟩
  clear hK K
  (try simp only [Act.put, List.setIfInBounds_toArray, List.set_cons_zero, List.set_cons_succ])
  refine hv_only 9 (by kernel_rfl) (by rfl) (fun K hK => ?_)
  refine step_appX verK w2.heap.size (fun k => w2.heap.size ≤ k ∧ k ≠ w3.heap.size) (⟨s.last + 1, data, now, 0⟩ : Ver) (.slice A3 s.l.length c3) s.l _ _ 30 42 _ 48 rfl _ _ rfl Tryd.underlying30 infoVer rfl rfl _ rfl rfl (by omega) ?own ?elem (by omega) (by omega) ?_
  · exact (((HO3.out.weak' (fun k hk h => ⟨h, by omega⟩)).below (C := w3.heap.size) (((Below.refl _ _).alloc (Nat.le_refl _) _).drew) (Nat.le_refl _))).below HB4.out (by simp)
  · exact put_elem s data now HL1.out _ _ _ _ hl4 hc4 ((own_fresh HO4.out HO3.out (by simp)).weak (fun k _ hk => ⟨⟨by have := hk.1; simp at this; omega, by have := hk.1; simp at this; omega⟩, hk.2⟩))
  intro A5 c5 w5 ho5 hb5 hg5 hl5 hc5
  have hrow3 : some w3.heap.size ≠ rowOf (.slice A3 s.l.length c3) := fun e => by
    obtain ⟨_, ho, _⟩ := HO3.out
    have := (ho.row _ e.symm).2
    omega
  have K5 := (hg5.block w3.heap.size (by omega) hrow3).trans K4
  have g0 : w5.cell? ⟨w3.heap.size, 0, none⟩ = some (.slice A3 s.l.length c3) := (blk_cell K5 0).trans rfl
  have g1 : w5.cell? ⟨w3.heap.size, 1, none⟩ = some (.int .u32 ((s.last.toNat : Int) + 1)) := (blk_cell K5 1).trans rfl
  have g2 : w5.cell? ⟨w3.heap.size, 2, none⟩ = some (.int .i64 s.mx) := (blk_cell K5 2).trans rfl
  have g3 : w5.frozen? ⟨w3.heap.size, 0, none⟩ = false := blk_frozen K5 0
  have hs5 : w4.heap.size ≤ w5.heap.size := hb5.size
  have HB5 := Lib.hid hb5
  have HO5 := Lib.hid ho5
  have HK5 := Lib.hid K5
  clear hb5 ho5 hg5 k0 k1 K4 K5 hrow3
  refine hK _ _ (fun _ => ⟨g0, g1⟩) ?_
  clear hK K
  have HS := (⟨g0, g1⟩ : w5.cell? ⟨w3.heap.size, 0, none⟩ = some (.slice A3 s.l.length c3) ∧ w5.cell? ⟨w3.heap.size, 1, none⟩ = some (.int .u32 ((s.last.toNat : Int) + 1)))
  (try simp only [Act.put, List.setIfInBounds_toArray, List.set_cons_zero, List.set_cons_succ])
  refine hv_take 10 (v := ?_) (by rfl) (by kernel_rfl) (by kernel_rfl) (by kernel_rfl) (by kernel_rfl) (by intro _ _ _ h; exact h) (.inl ⟨by rfl, fun W hS => ?_⟩) HS ?_; rotate_left; (focus obtain ⟨t0, t1⟩ := hS; go_simp; rfl); (try simp only [Act.put, List.setIfInBounds_toArray, List.set_cons_zero, List.set_cons_succ])
  refine hv_only 11 (by kernel_rfl) (by rfl) (fun K hK => ?_)
  go_simp
  refine hK _ _ (fun h => absurd rfl h) ?_
  clear hK K HS
  (try simp only [Act.put, List.setIfInBounds_toArray, List.set_cons_zero, List.set_cons_succ])
  refine hv_done (by kernel_rfl) ?_
  have hOX : OwnX verK w2.heap.size (fun k => w2.heap.size ≤ k ∧ k ≠ w3.heap.size) (w5.setCell ⟨w3.heap.size, 0, none⟩ (.slice A5 (s.l.length + 1) c5)) 42 (.slice A5 (s.l.length + 1) c5) (s.l ++ [⟨s.last + 1, data, now, 0⟩]) := by
    have := HO5.out.set_box (o := 0) HK5.out (by decide) (fun h => h.2 rfl) (.slice A5 (s.l.length + 1) c5)
    rwa [show (s.l ++ [(⟨s.last + 1, data, now, 0⟩ : Ver)]).length = s.l.length + 1 by simp] at this
  have hlen1 : (s.l ++ [(⟨s.last + 1, data, now, 0⟩ : Ver)]).length = s.l.length + 1 := by simp
  rename_i K0 hK0
  refine hK0 _ _ ?_
  clear hK0 K0
  have K6 := heap_setCell_eq (o := 0) HK5.out (.slice A5 (s.l.length + 1) c5)
  have B2 : w2.heap[w.heap.size + 1]? = some (.cells #[.slice none 0 0, .int .u32 0, .int .i64 0] 32) := by
    rw [HB2.out.block _ (by simp)]
    exact heap_alloc_at _ _ _ (by simp)
  have B4 : w4.heap[w.heap.size + 1]? = some (.cells #[.slice none 0 0, .int .u32 0, .int .i64 0] 32) := by
    rw [HB4.out.block _ (by simp; omega)]
    exact (heap_alloc_lt _ _ (by omega)).trans ((HB3.out.block _ (by omega)).trans B2)
  have B6 : (w5.setCell ⟨w3.heap.size, 0, none⟩ (.slice A5 (s.l.length + 1) c5)).heap[w.heap.size + 1]? = some (.cells #[.slice none 0 0, .int .u32 0, .int .i64 0] 32) := by
    rw [heap_set_ne _ _ _ (by simp; omega), HB5.out.block _ (by omega)]
    exact B4
  have hs6 : w3.heap.size < (w5.setCell ⟨w3.heap.size, 0, none⟩ (.slice A5 (s.l.length + 1) c5)).heap.size := by rw [size_set]; omega
  have hb6 : Below w.heap.size w (w5.setCell ⟨w3.heap.size, 0, none⟩ (.slice A5 (s.l.length + 1) c5)) := by
    have b2 := HB2.out
    have b3 := HB3.out
    have b4 := HB4.out
    have b5 := HB5.out
    refine below_set ?_ (by omega) _
    refine Below.trans ?_ (b5.mono (by omega))
    refine Below.trans ?_ (b4.mono (by simp; omega))
    refine Below.drew (Below.alloc ?_ (by omega) _)
    refine Below.trans ?_ (b3.mono (by omega))
    refine Below.trans ?_ (b2.mono (by simp; omega))
    exact ((Below.refl _ _).alloc (Nat.le_refl _) _).alloc (by simp) _
  generalize hw6 : w5.setCell ⟨w3.heap.size, 0, none⟩ (.slice A5 (s.l.length + 1) c5) = w6 at *
  clear hw6
  have HOX := Lib.hid hOX
  have HK6 := Lib.hid K6
  have HB6 := Lib.hid hb6
  have HBB := Lib.hid B6
  have hlt2 : w.heap.size + 1 < w2.heap.size := by omega
  have q0 : w6.cell? ⟨w3.heap.size, 0, none⟩ = some (.slice A5 (s.l.length + 1) c5) := (blk_cell K6 0).trans rfl
  have q1 : w6.cell? ⟨w3.heap.size, 1, none⟩ = some (.int .u32 ((s.last.toNat : Int) + 1)) := (blk_cell K6 1).trans rfl
  have q2 : w6.cell? ⟨w3.heap.size, 2, none⟩ = some (.int .i64 s.mx) := (blk_cell K6 2).trans rfl
  have q3 : w6.frozen? ⟨w3.heap.size, 0, none⟩ = false := blk_frozen K6 0
  clear hOX K6 hb6 B2 B4 B6 g0 g1 g2 g3 HK5 HB5 HB4 HB3 HB2 HX4 HO4 HO3 HO5 hX2 hY2 hX3 hY3
  by_cases hgt : s.mx < (s.l.length : Int) + 1
  · have d5 : decide (s.mx < (s.l.length : Int) + 1) = true := by simpa using hgt
    have HGT := Lib.hid hgt
    clear hgt
    go_wp2_with (go_at_call 31; (refine (delete_n w2.heap.size (fun k => w2.heap.size ≤ k ∧ k ≠ w3.heap.size) _ (s.l.length + 1) s.l.length hlen1 (by simp) A5 c5 _ (by omega) HOX.out (by omega) (by omega)).mono ?_; rintro e w7 ⟨A7, c7, rfl, hb7, hl7, hc7, ho7, hk7⟩; have hs7 : w6.heap.size ≤ w7.heap.size := hb7.size; have K7 := (hk7 _ hs6 (HOX.out.row_ne HK6.out (by decide))).trans HK6.out; have B7 := (hb7.block _ hlt2).trans HBB.out; have t0 : w7.cell? ⟨w3.heap.size, 0, none⟩ = some (.slice A5 (s.l.length + 1) c5) := (blk_cell K7 0).trans rfl; have t1 : w7.cell? ⟨w3.heap.size, 1, none⟩ = some (.int .u32 ((s.last.toNat : Int) + 1)) := (blk_cell K7 1).trans rfl; have t2 : w7.cell? ⟨w3.heap.size, 2, none⟩ = some (.int .i64 s.mx) := (blk_cell K7 2).trans rfl; have t3 : w7.frozen? ⟨w3.heap.size, 0, none⟩ = false := blk_frozen K7 0; have t4 := blk_frozen B7; have t5 := blk_cell B7; have HO7 := Lib.hid ho7; have HK7 := Lib.hid K7; have HB7 := Lib.hid hb7; clear hb7 ho7 hk7 K7 B7))
    refine bodyPost_ret (v := .tuple #[.agg #[.slice A7 s.l.length c7, .int .u32 ((s.last.toNat : Int) + 1), .int .i64 s.mx], .nilIface]) (by simp [results, Tryd.results11, go_sem, t5]) rfl (HR.out _ _ ⟨?_, ?_⟩)
    · rw [HP.out, if_pos HGT.out]
      refine put_ans s _ s.l.length (by simp) HL1.out A7 c7 hl7 hc7 ?_
      have h1 := HO7.out.set_box (o := 0) HK7.out (by decide) (fun h => h.2 rfl) (.slice A7 s.l.length c7)
      obtain ⟨_, _, e1, _, _, h2⟩ := h1.rd
      simp only [Value.slice.injEq] at e1
      obtain ⟨rfl, _, rfl⟩ := e1
      exact (((h2.setCell _ (by simp; omega) _).setCell _ (by simp; omega) _).setCell _ (by simp; omega) _).weak (fun k _ hk => by omega)
    · exact below_set (below_set (below_set (below_set (HB6.out.trans (HB7.out.mono (by omega))) (by omega) _) (by omega) _) (by omega) _) (by omega) _
  · have d5 : decide (s.mx < (s.l.length : Int) + 1) = false := by simpa using hgt
    have HGT := Lib.hid hgt
    clear hgt
    have t4 := blk_frozen HBB.out
    have t5 := blk_cell HBB.out
    go_wp2
    refine bodyPost_ret (v := .tuple #[.agg #[.slice A5 (s.l.length + 1) c5, .int .u32 ((s.last.toNat : Int) + 1), .int .i64 s.mx], .nilIface]) (by simp [results, Tryd.results11, go_sem, t5]) rfl (HR.out _ _ ⟨?_, ?_⟩)
    · rw [HP.out, if_neg (Int.not_lt.2 HGT.out)]
      refine put_ans s _ (s.l.length + 1) (by simp) HL1.out A5 c5 (by simpa using hl5) hc5 ?_
      obtain ⟨_, _, e1, _, _, h2⟩ := HOX.out.rd
      simp only [Value.slice.injEq] at e1
      obtain ⟨rfl, _, rfl⟩ := e1
      exact (((h2.setCell _ (by simp; omega) _).setCell _ (by simp; omega) _).setCell _ (by simp; omega) _).weak (fun k _ hk => by omega)
    · exact below_set (below_set (below_set HB6.out (by omega) _) (by omega) _) (by omega) _
set_option maxRecDepth 10000 in
set_option maxHeartbeats 1000000 in
theorem put_ok2 (ok okd : Nat → Prop) (s : Sec) (data : List UInt8) (cas : Int) (now : UInt64) (A Ad : Option Addr) (c cd : Nat) (w : World) (hr : Rd verK ok w A s.l) (hc : s.l.length ≤ c) (hcc : c ≤ maxCap)
    (hrd : Rd u8 okd w Ad data) (hcd : data.length ≤ cd) (hccd : cd ≤ maxCap) (hcas : I64 cas) (hm : s.may = true) (hdl : data.length ≤ 100) (htop : ¬ s.last.toNat = 4294967295) (hc0 : ¬ 0 ≤ cas) :
    Calls Tryd.prog 11 #[.agg #[.slice A s.l.length c, .int .u32 (s.last.toNat : Int), .int .i64 s.mx], .slice Ad data.length cd, .int .i64 cas, .int .u64 (now.toNat : Int)] w fun e w' => SecAns w.heap.size (s.put data cas now) e w' ∧ Below w.heap.size w w' := by
  refine calls_hide fun R HR => ?_
  have HC := Lib.hid (fun (W : World) (hb : Below w.heap.size w W) => hr.below hb)
  have HD := Lib.hid (fun (W : World) (hb : Below w.heap.size w W) => hrd.below hb)
  have hlen : data.length ≤ 9223372036854775807 := Nat.le_trans hcd hccd
  have HR0 := Lib.hid hr
  clear hr hrd
  have hla := s.last.toNat_lt
  have d0 : decide ((100 : Int) < (data.length : Int)) = false := by simp; omega
  have HM := Lib.hid hm
  clear hm
  have hca : ¬ (0 ≤ cas ∧ cas ≠ s.last.toNat) := fun h => hc0 h.1
  have hput : s.put data (cas) now = (⟨if s.mx < s.l.length + 1 then (s.l ++ [(⟨s.last + 1, data, now, 0⟩ : Ver)]).tail else s.l ++ [(⟨s.last + 1, data, now, 0⟩ : Ver)], s.last + 1, s.mx⟩, none) := by
    unfold Sec.put; rw [if_pos ⟨HM.out, hdl⟩, if_neg hca, if_neg htop]
  have HP := Lib.hid hput
  clear hput
  have t0 : ((s.last.toNat : Int) == 4294967295) = false := by simp; omega
  have hl1 : (s.last + 1).toNat = s.last.toNat + 1 := by rw [UInt32.toNat_add]; simp; omega
  obtain ⟨hhead, hvs⟩ := (Sec.may_iff s).1 HM.out
  have hh := of_decide_eq_true hhead
  have hl8 : s.l.length ≤ 8 := by omega
  have hds : ∀ v ∈ s.l, v.data.length ≤ 1000 := by
    intro v hv
    obtain ⟨i, hi⟩ := List.getElem?_of_mem hv
    have := of_decide_eq_true (hvs i v hi).1
    omega
  have HDS := Lib.hid hds
  have HHD := Lib.hid hh
  have HTOP := Lib.hid htop
  have HL1 := Lib.hid hl1
  have hla' : s.last.toNat + 1 < 4294967296 := by omega
  clear hds hh hhead hvs htop hl1
  go_enter Tryd.func11, Tryd.ntmps11
  go_wp2_with (first | (go_at_call 9; (refine (check_yes ok s A c _ HM.out (HC.out _ (by repeat (first | with_reducible exact Below.refl _ _ | assumption | refine Below.alloc ?_ (by first | exact Nat.le_refl _ | omega | (simp; done) | (simp; omega)) _ | refine Below.setCell ?_ (by first | exact Nat.le_refl _ | (simp; done) | (simp; omega)) _ | refine Below.drew ?_))) hc hcc).mono ?_; rintro e w2 ⟨rfl, hb2⟩; obtain ⟨hX2, hY2⟩ := bcell hb2; have hs2 : w.heap.size + 1 + 1 ≤ w2.heap.size := (by simpa using hb2.size); have hs2' : w.heap.size + 1 < w2.heap.size := (by omega); have HB2 := Lib.hid hb2; clear hb2)) | (go_at_call 29; (refine (copied_calls ok s A c _ (HC.out _ (by repeat (first | with_reducible exact Below.refl _ _ | refine below_set ?_ (by first | exact Nat.le_refl _ | omega) _ | refine Below.alloc ?_ (by first | exact Nat.le_refl _ | omega | (simp; done) | (simp; omega)) _ | refine Below.drew ?_ | refine Below.trans ?_ (Below.mono HB2.out (by first | exact Nat.le_refl _ | omega | (simp; done) | (simp; omega))) ))) hc hcc (by omega) HDS.out).mono ?_; rintro e w3 ⟨A3, c3, rfl, hb3, hl3, hc3, hown3⟩; unfold secV; obtain ⟨hX3, hY3⟩ := bcell hb3; have hs3 := hb3.size; have HB3 := Lib.hid hb3; have HO3 := Lib.hid hown3; clear hb3 hown3)))
  have hs3' : w2.heap.size ≤ w3.heap.size := by simpa using hs3
  have hlt3 : w.heap.size + 1 < w3.heap.size := by omega
  have hsz5 : ∀ (W : World), Below (w3.heap.size + 1) (w3.alloc (.cells #[.slice A3 s.l.length c3, .int .u32 ((s.last.toNat : Int) + 1), .int .i64 s.mx] 32)) W → w3.heap.size + 1 ≤ W.heap.size := fun W h => by have := h.size; simpa using this
  have HSZ5 := Lib.hid hsz5
  clear hsz5
  refine hv_begin (fun W => W.cell? ⟨w3.heap.size, 0, none⟩ = some (.slice A3 s.l.length c3) ∧ W.cell? ⟨w3.heap.size, 1, none⟩ = some (.int .u32 ((s.last.toNat : Int) + 1))) 11 (by kernel_rfl) ?_
  have HS : (fun W : World => W.cell? ⟨w3.heap.size, 0, none⟩ = some (.slice A3 s.l.length c3) ∧ W.cell? ⟨w3.heap.size, 1, none⟩ = some (.int .u32 ((s.last.toNat : Int) + 1))) (w3.alloc (.cells #[.slice A3 s.l.length c3, .int .u32 ((s.last.toNat : Int) + 1), .int .i64 s.mx] 32)).drew := ⟨by simp, by simp⟩
  refine hv_take 0 (v := ?_) (by rfl) (by kernel_rfl) (by kernel_rfl) (by kernel_rfl) (by kernel_rfl) (by intro _ _ _ h; exact h) (.inl ⟨by rfl, fun W hS => ?_⟩) HS ?_; rotate_left; (focus obtain ⟨t0, t1⟩ := hS; go_simp; rfl); (try simp only [Act.put, List.setIfInBounds_toArray, List.set_cons_zero, List.set_cons_succ])
  refine hv_take 1 (v := ?_) (by rfl) (by kernel_rfl) (by kernel_rfl) (by kernel_rfl) (by kernel_rfl) (by intro _ _ _ h; exact h) (.inl ⟨by rfl, fun W hS => ?_⟩) HS ?_; rotate_left; (focus obtain ⟨t0, t1⟩ := hS; go_simp; rfl); (try simp only [Act.put, List.setIfInBounds_toArray, List.set_cons_zero, List.set_cons_succ])
  refine hv_take 2 (v := ?_) (by rfl) (by kernel_rfl) (by kernel_rfl) (by kernel_rfl) (by kernel_rfl) (by intro _ _ _ h; exact h) (.inl ⟨by rfl, fun W hS => ?_⟩) HS ?_; rotate_left; (focus obtain ⟨t0, t1⟩ := hS; go_simp; rfl); (try simp only [Act.put, List.setIfInBounds_toArray, List.set_cons_zero, List.set_cons_succ])
  refine hv_take 3 (v := ?_) (by rfl) (by kernel_rfl) (by kernel_rfl) (by kernel_rfl) (by kernel_rfl) (by intro _ _ _ h; exact h) (.inl ⟨by rfl, fun W hS => ?_⟩) HS ?_; rotate_left; (focus obtain ⟨t0, t1⟩ := hS; go_simp; rfl); (try simp only [Act.put, List.setIfInBounds_toArray, List.set_cons_zero, List.set_cons_succ])
  refine hv_take 4 (v := ?_) (by rfl) (by kernel_rfl) (by kernel_rfl) (by kernel_rfl) (by kernel_rfl) (by intro _ _ _ h; exact h) (.inl ⟨by rfl, fun W hS => ?_⟩) HS ?_; rotate_left; (focus obtain ⟨t0, t1⟩ := hS; go_simp; rfl); (try simp only [Act.put, List.setIfInBounds_toArray, List.set_cons_zero, List.set_cons_succ])
  refine hv_take 6 (v := ?_) (by rfl) (by kernel_rfl) (by kernel_rfl) (by kernel_rfl) (by kernel_rfl) (by intro _ _ _ h; exact h) (.inl ⟨by rfl, fun W hS => ?_⟩) HS ?_; rotate_left; (focus obtain ⟨t0, t1⟩ := hS; go_simp; rfl); (try simp only [Act.put, List.setIfInBounds_toArray, List.set_cons_zero, List.set_cons_succ])
  refine hv_only 5 (by kernel_rfl) (by rfl) (fun K hK => ?_)
  go_simp
  refine (cloneB_calls okd data _ _ _ (((HD.out _ (by repeat (first | with_reducible exact Below.refl _ _ | refine below_set ?_ (by first | exact Nat.le_refl _ | omega) _ | refine Below.alloc ?_ (by first | exact Nat.le_refl _ | omega | (simp; done) | (simp; omega)) _ | refine Below.drew ?_ | refine Below.trans ?_ (Below.mono HB2.out (by first | exact Nat.le_refl _ | omega | (simp; done) | (simp; omega))) | refine Below.trans ?_ (Below.mono HB3.out (by first | exact Nat.le_refl _ | omega | (simp; done) | (simp; omega))) ))).alloc _).drew) hcd hccd (by omega)).mono ?_
  rintro e w4 ⟨A4, c4, rfl, hb4, hl4, hc4, ho4⟩
  obtain ⟨hX4, hY4⟩ := bcell hb4
  have hs4 : w3.heap.size + 1 ≤ w4.heap.size := by simpa using hb4.size
  have HB4 := Lib.hid hb4
  have HO4 := Lib.hid ho4
  have HX4 := Lib.hid hX4
  clear hb4 ho4 hX4 hY4
  have K4 : w4.heap[w3.heap.size]? = some (.cells #[.slice A3 s.l.length c3, .int .u32 ((s.last.toNat : Int) + 1), .int .i64 s.mx] 32) := by
    rw [HB4.out.block _ (by simp)]
    exact heap_alloc_at _ _ _ rfl
  have k0 : w4.cell? ⟨w3.heap.size, 0, none⟩ = some (.slice A3 s.l.length c3) := (blk_cell K4 0).trans rfl
  have k1 : w4.cell? ⟨w3.heap.size, 1, none⟩ = some (.int .u32 ((s.last.toNat : Int) + 1)) := (blk_cell K4 1).trans rfl
  clear HS
  refine hK _ _ (fun _ => ⟨k0, k1⟩) ?_
  clear hK K
  have HS := (⟨k0, k1⟩ : w4.cell? ⟨w3.heap.size, 0, none⟩ = some (.slice A3 s.l.length c3) ∧ w4.cell? ⟨w3.heap.size, 1, none⟩ = some (.int .u32 ((s.last.toNat : Int) + 1)))
  (try simp only [Act.put, List.setIfInBounds_toArray, List.set_cons_zero, List.set_cons_succ])
  refine hv_take 7 (v := ?_) (by rfl) (by kernel_rfl) (by kernel_rfl) (by kernel_rfl) (by kernel_rfl) (by intro _ _ _ h; exact h) (.inl ⟨by rfl, fun W hS => ?_⟩) HS ?_; rotate_left; (focus obtain ⟨t0, t1⟩ := hS; go_simp; rfl); (try simp only [Act.put, List.setIfInBounds_toArray, List.set_cons_zero, List.set_cons_succ])
  refine hv_only 8 (by kernel_rfl) (by rfl) (fun K hK => ?_)
  go_simp
  have hlt4 : w3.heap.size < w4.heap.size := by omega
  clear HS
  refine hK _ _ (fun _ => ?_) ?_
  · exact ⟨(cell_of_heap (heap_alloc_lt _ _ hlt4)).trans k0, (cell_of_heap (heap_alloc_lt _ _ hlt4)).trans k1⟩
  clear hK K
  (try simp only [Act.put, List.setIfInBounds_toArray, List.set_cons_zero, List.set_cons_succ])
  refine hv_only 9 (by kernel_rfl) (by rfl) (fun K hK => ?_)
  refine step_appX verK w2.heap.size (fun k => w2.heap.size ≤ k ∧ k ≠ w3.heap.size) (⟨s.last + 1, data, now, 0⟩ : Ver) (.slice A3 s.l.length c3) s.l _ _ 30 42 _ 48 rfl _ _ rfl Tryd.underlying30 infoVer rfl rfl _ rfl rfl (by omega) ?own ?elem (by omega) (by omega) ?_
  · exact (((HO3.out.weak' (fun k hk h => ⟨h, by omega⟩)).below (C := w3.heap.size) (((Below.refl _ _).alloc (Nat.le_refl _) _).drew) (Nat.le_refl _))).below HB4.out (by simp)
  · exact put_elem s data now HL1.out _ _ _ _ hl4 hc4 ((own_fresh HO4.out HO3.out (by simp)).weak (fun k _ hk => ⟨⟨by have := hk.1; simp at this; omega, by have := hk.1; simp at this; omega⟩, hk.2⟩))
  intro A5 c5 w5 ho5 hb5 hg5 hl5 hc5
  have hrow3 : some w3.heap.size ≠ rowOf (.slice A3 s.l.length c3) := fun e => by
    obtain ⟨_, ho, _⟩ := HO3.out
    have := (ho.row _ e.symm).2
    omega
  have K5 := (hg5.block w3.heap.size (by omega) hrow3).trans K4
  have g0 : w5.cell? ⟨w3.heap.size, 0, none⟩ = some (.slice A3 s.l.length c3) := (blk_cell K5 0).trans rfl
  have g1 : w5.cell? ⟨w3.heap.size, 1, none⟩ = some (.int .u32 ((s.last.toNat : Int) + 1)) := (blk_cell K5 1).trans rfl
  have g2 : w5.cell? ⟨w3.heap.size, 2, none⟩ = some (.int .i64 s.mx) := (blk_cell K5 2).trans rfl
  have g3 : w5.frozen? ⟨w3.heap.size, 0, none⟩ = false := blk_frozen K5 0
  have hs5 : w4.heap.size ≤ w5.heap.size := hb5.size
  have HB5 := Lib.hid hb5
  have HO5 := Lib.hid ho5
  have HK5 := Lib.hid K5
  clear hb5 ho5 hg5 k0 k1 K4 K5 hrow3
  refine hK _ _ (fun _ => ⟨g0, g1⟩) ?_
  clear hK K
  have HS := (⟨g0, g1⟩ : w5.cell? ⟨w3.heap.size, 0, none⟩ = some (.slice A3 s.l.length c3) ∧ w5.cell? ⟨w3.heap.size, 1, none⟩ = some (.int .u32 ((s.last.toNat : Int) + 1)))
  (try simp only [Act.put, List.setIfInBounds_toArray, List.set_cons_zero, List.set_cons_succ])
  refine hv_take 10 (v := ?_) (by rfl) (by kernel_rfl) (by kernel_rfl) (by kernel_rfl) (by kernel_rfl) (by intro _ _ _ h; exact h) (.inl ⟨by rfl, fun W hS => ?_⟩) HS ?_; rotate_left; (focus obtain ⟨t0, t1⟩ := hS; go_simp; rfl); (try simp only [Act.put, List.setIfInBounds_toArray, List.set_cons_zero, List.set_cons_succ])
  refine hv_only 11 (by kernel_rfl) (by rfl) (fun K hK => ?_)
  go_simp
  refine hK _ _ (fun h => absurd rfl h) ?_
  clear hK K HS
  (try simp only [Act.put, List.setIfInBounds_toArray, List.set_cons_zero, List.set_cons_succ])
  refine hv_done (by kernel_rfl) ?_
  have hOX : OwnX verK w2.heap.size (fun k => w2.heap.size ≤ k ∧ k ≠ w3.heap.size) (w5.setCell ⟨w3.heap.size, 0, none⟩ (.slice A5 (s.l.length + 1) c5)) 42 (.slice A5 (s.l.length + 1) c5) (s.l ++ [⟨s.last + 1, data, now, 0⟩]) := by
    have := HO5.out.set_box (o := 0) HK5.out (by decide) (fun h => h.2 rfl) (.slice A5 (s.l.length + 1) c5)
    rwa [show (s.l ++ [(⟨s.last + 1, data, now, 0⟩ : Ver)]).length = s.l.length + 1 by simp] at this
  have hlen1 : (s.l ++ [(⟨s.last + 1, data, now, 0⟩ : Ver)]).length = s.l.length + 1 := by simp
  rename_i K0 hK0
  refine hK0 _ _ ?_
  clear hK0 K0
  have K6 := heap_setCell_eq (o := 0) HK5.out (.slice A5 (s.l.length + 1) c5)
  have B2 : w2.heap[w.heap.size + 1]? = some (.cells #[.slice none 0 0, .int .u32 0, .int .i64 0] 32) := by
    rw [HB2.out.block _ (by simp)]
    exact heap_alloc_at _ _ _ (by simp)
  have B4 : w4.heap[w.heap.size + 1]? = some (.cells #[.slice none 0 0, .int .u32 0, .int .i64 0] 32) := by
    rw [HB4.out.block _ (by simp; omega)]
    exact (heap_alloc_lt _ _ (by omega)).trans ((HB3.out.block _ (by omega)).trans B2)
  have B6 : (w5.setCell ⟨w3.heap.size, 0, none⟩ (.slice A5 (s.l.length + 1) c5)).heap[w.heap.size + 1]? = some (.cells #[.slice none 0 0, .int .u32 0, .int .i64 0] 32) := by
    rw [heap_set_ne _ _ _ (by simp; omega), HB5.out.block _ (by omega)]
    exact B4
  have hs6 : w3.heap.size < (w5.setCell ⟨w3.heap.size, 0, none⟩ (.slice A5 (s.l.length + 1) c5)).heap.size := by rw [size_set]; omega
  have hb6 : Below w.heap.size w (w5.setCell ⟨w3.heap.size, 0, none⟩ (.slice A5 (s.l.length + 1) c5)) := by
    have b2 := HB2.out
    have b3 := HB3.out
    have b4 := HB4.out
    have b5 := HB5.out
    refine below_set ?_ (by omega) _
    refine Below.trans ?_ (b5.mono (by omega))
    refine Below.trans ?_ (b4.mono (by simp; omega))
    refine Below.drew (Below.alloc ?_ (by omega) _)
    refine Below.trans ?_ (b3.mono (by omega))
    refine Below.trans ?_ (b2.mono (by simp; omega))
    exact ((Below.refl _ _).alloc (Nat.le_refl _) _).alloc (by simp) _
  generalize hw6 : w5.setCell ⟨w3.heap.size, 0, none⟩ (.slice A5 (s.l.length + 1) c5) = w6 at *
  clear hw6
  have HOX := Lib.hid hOX
  have HK6 := Lib.hid K6
  have HB6 := Lib.hid hb6
  have HBB := Lib.hid B6
  have hlt2 : w.heap.size + 1 < w2.heap.size := by omega
  have q0 : w6.cell? ⟨w3.heap.size, 0, none⟩ = some (.slice A5 (s.l.length + 1) c5) := (blk_cell K6 0).trans rfl
  have q1 : w6.cell? ⟨w3.heap.size, 1, none⟩ = some (.int .u32 ((s.last.toNat : Int) + 1)) := (blk_cell K6 1).trans rfl
  have q2 : w6.cell? ⟨w3.heap.size, 2, none⟩ = some (.int .i64 s.mx) := (blk_cell K6 2).trans rfl
  have q3 : w6.frozen? ⟨w3.heap.size, 0, none⟩ = false := blk_frozen K6 0
  clear hOX K6 hb6 B2 B4 B6 g0 g1 g2 g3 HK5 HB5 HB4 HB3 HB2 HX4 HO4 HO3 HO5 hX2 hY2 hX3 hY3
  by_cases hgt : s.mx < (s.l.length : Int) + 1
  · have d5 : decide (s.mx < (s.l.length : Int) + 1) = true := by simpa using hgt
    have HGT := Lib.hid hgt
    clear hgt
    go_wp2_with (go_at_call 31; (refine (delete_n w2.heap.size (fun k => w2.heap.size ≤ k ∧ k ≠ w3.heap.size) _ (s.l.length + 1) s.l.length hlen1 (by simp) A5 c5 _ (by omega) HOX.out (by omega) (by omega)).mono ?_; rintro e w7 ⟨A7, c7, rfl, hb7, hl7, hc7, ho7, hk7⟩; have hs7 : w6.heap.size ≤ w7.heap.size := hb7.size; have K7 := (hk7 _ hs6 (HOX.out.row_ne HK6.out (by decide))).trans HK6.out; have B7 := (hb7.block _ hlt2).trans HBB.out; have t0 : w7.cell? ⟨w3.heap.size, 0, none⟩ = some (.slice A5 (s.l.length + 1) c5) := (blk_cell K7 0).trans rfl; have t1 : w7.cell? ⟨w3.heap.size, 1, none⟩ = some (.int .u32 ((s.last.toNat : Int) + 1)) := (blk_cell K7 1).trans rfl; have t2 : w7.cell? ⟨w3.heap.size, 2, none⟩ = some (.int .i64 s.mx) := (blk_cell K7 2).trans rfl; have t3 : w7.frozen? ⟨w3.heap.size, 0, none⟩ = false := blk_frozen K7 0; have t4 := blk_frozen B7; have t5 := blk_cell B7; have HO7 := Lib.hid ho7; have HK7 := Lib.hid K7; have HB7 := Lib.hid hb7; clear hb7 ho7 hk7 K7 B7))
    refine bodyPost_ret (v := .tuple #[.agg #[.slice A7 s.l.length c7, .int .u32 ((s.last.toNat : Int) + 1), .int .i64 s.mx], .nilIface]) (by simp [results, Tryd.results11, go_sem, t5]) rfl (HR.out _ _ ⟨?_, ?_⟩)
    · rw [HP.out, if_pos HGT.out]
      refine put_ans s _ s.l.length (by simp) HL1.out A7 c7 hl7 hc7 ?_
      have h1 := HO7.out.set_box (o := 0) HK7.out (by decide) (fun h => h.2 rfl) (.slice A7 s.l.length c7)
      obtain ⟨_, _, e1, _, _, h2⟩ := h1.rd
      simp only [Value.slice.injEq] at e1
      obtain ⟨rfl, _, rfl⟩ := e1
      exact (((h2.setCell _ (by simp; omega) _).setCell _ (by simp; omega) _).setCell _ (by simp; omega) _).weak (fun k _ hk => by omega)
    · exact below_set (below_set (below_set (below_set (HB6.out.trans (HB7.out.mono (by omega))) (by omega) _) (by omega) _) (by omega) _) (by omega) _
  · have d5 : decide (s.mx < (s.l.length : Int) + 1) = false := by simpa using hgt
    have HGT := Lib.hid hgt
    clear hgt
    have t4 := blk_frozen HBB.out
    have t5 := blk_cell HBB.out
    go_wp2
    refine bodyPost_ret (v := .tuple #[.agg #[.slice A5 (s.l.length + 1) c5, .int .u32 ((s.last.toNat : Int) + 1), .int .i64 s.mx], .nilIface]) (by simp [results, Tryd.results11, go_sem, t5]) rfl (HR.out _ _ ⟨?_, ?_⟩)
    · rw [HP.out, if_neg (Int.not_lt.2 HGT.out)]
      refine put_ans s _ (s.l.length + 1) (by simp) HL1.out A5 c5 (by simpa using hl5) hc5 ?_
      obtain ⟨_, _, e1, _, _, h2⟩ := HOX.out.rd
      simp only [Value.slice.injEq] at e1
      obtain ⟨rfl, _, rfl⟩ := e1
      exact (((h2.setCell _ (by simp; omega) _).setCell _ (by simp; omega) _).setCell _ (by simp; omega) _).weak (fun k _ hk => by omega)
    · exact below_set (below_set (below_set HB6.out (by omega) _) (by omega) _) (by omega) _
set_option maxRecDepth 10000 in
set_option maxHeartbeats 1000000 in
theorem put_calls (ok okd : Nat → Prop) (s : Sec) (data : List UInt8) (cas : Int) (now : UInt64) (A Ad : Option Addr) (c cd : Nat) (w : World) (hr : Rd verK ok w A s.l) (hc : s.l.length ≤ c) (hcc : c ≤ maxCap)
    (hrd : Rd u8 okd w Ad data) (hcd : data.length ≤ cd) (hccd : cd ≤ maxCap) (hcas : I64 cas) :
    Calls Tryd.prog 11 #[.agg #[.slice A s.l.length c, .int .u32 (s.last.toNat : Int), .int .i64 s.mx], .slice Ad data.length cd, .int .i64 cas, .int .u64 (now.toNat : Int)] w fun e w' => SecAns w.heap.size (s.put data cas now) e w' ∧ Below w.heap.size w w' := by
  refine calls_hide fun R HR => ?_
  have HC := Lib.hid (fun (W : World) (hb : Below w.heap.size w W) => hr.below hb)
  have HD := Lib.hid (fun (W : World) (hb : Below w.heap.size w W) => hrd.below hb)
  have hlen : data.length ≤ 9223372036854775807 := Nat.le_trans hcd hccd
  have HR0 := Lib.hid hr
  have HRD0 := Lib.hid hrd
  clear hr hrd
  have hla := s.last.toNat_lt
  by_cases hm : s.may = true
  · have HM := Lib.hid hm
    clear hm
    by_cases hdl : data.length ≤ 100
    · have d0 : decide ((100 : Int) < (data.length : Int)) = false := by simp; omega
      by_cases hca : 0 ≤ cas ∧ cas ≠ s.last.toNat
      · have hp : s.put data cas now = (Sec.zero, some 20) := by unfold Sec.put; rw [if_pos ⟨HM.out, hdl⟩, if_pos hca]
        have HP := Lib.hid hp
        clear hp
        obtain ⟨hc1, hc2⟩ := hca
        obtain ⟨hc3, hc4⟩ := hcas
        have c0 : (cas != (s.last.toNat : Int)) = true := by simp; omega
        have HC2 := Lib.hid hc2
        clear hc2
        go_enter Tryd.func11, Tryd.ntmps11
        go_wp2_with (go_at_call 9; (refine (check_yes ok s A c _ HM.out (HC.out _ (by repeat (first | with_reducible exact Below.refl _ _ | assumption | refine Below.alloc ?_ (by first | exact Nat.le_refl _ | omega | (simp; done) | (simp; omega)) _ | refine Below.setCell ?_ (by first | exact Nat.le_refl _ | (simp; done) | (simp; omega)) _ | refine Below.drew ?_))) hc hcc).mono ?_; rintro e w2 ⟨rfl, hb2⟩; obtain ⟨hX2, hY2⟩ := bcell hb2; have hs2 : w.heap.size + 1 + 1 ≤ w2.heap.size := (by simpa using hb2.size); have HB2 := Lib.hid hb2; clear hb2))
        refine bodyPost_ret (v := .tuple #[.agg #[.slice none 0 0, .int .u32 0, .int .i64 0], .iface 69 (.int .i64 20)]) (by simp [results, Tryd.results11, go_sem, hX2]) rfl (HR.out _ _ ⟨by rw [HP.out]; exact SecAns.none _ 20 _, by repeat (first | with_reducible exact Below.refl _ _ | refine below_set ?_ (by first | exact Nat.le_refl _ | omega) _ | refine Below.alloc ?_ (by first | exact Nat.le_refl _ | omega | (simp; done) | (simp; omega)) _ | refine Below.drew ?_ | refine Below.trans ?_ (Below.mono HB2.out (by first | exact Nat.le_refl _ | omega | (simp; done) | (simp; omega))) )⟩)
      · by_cases htop : s.last.toNat = 4294967295
        · have hp : s.put data cas now = (Sec.zero, some 19) := by unfold Sec.put; rw [if_pos ⟨HM.out, hdl⟩, if_neg hca, if_pos htop]
          have HP := Lib.hid hp
          clear hp
          have t0 : ((s.last.toNat : Int) == 4294967295) = true := by simp; omega
          have HT := Lib.hid htop
          clear htop
          by_cases hc0 : 0 ≤ cas
          · obtain rfl : cas = (s.last.toNat : Int) := Classical.byContradiction fun h => hca ⟨hc0, h⟩
            clear hca
            go_enter Tryd.func11, Tryd.ntmps11
            go_wp2_with (go_at_call 9; (refine (check_yes ok s A c _ HM.out (HC.out _ (by repeat (first | with_reducible exact Below.refl _ _ | assumption | refine Below.alloc ?_ (by first | exact Nat.le_refl _ | omega | (simp; done) | (simp; omega)) _ | refine Below.setCell ?_ (by first | exact Nat.le_refl _ | (simp; done) | (simp; omega)) _ | refine Below.drew ?_))) hc hcc).mono ?_; rintro e w2 ⟨rfl, hb2⟩; obtain ⟨hX2, hY2⟩ := bcell hb2; have hs2 : w.heap.size + 1 + 1 ≤ w2.heap.size := (by simpa using hb2.size); have hs2' : w.heap.size + 1 < w2.heap.size := (by omega); have HB2 := Lib.hid hb2; clear hb2))
            refine bodyPost_ret (v := .tuple #[.agg #[.slice none 0 0, .int .u32 0, .int .i64 0], .iface 69 (.int .i64 19)]) (by simp [results, Tryd.results11, go_sem, hX2]) rfl (HR.out _ _ ⟨by rw [HP.out]; exact SecAns.none _ 19 _, by repeat (first | with_reducible exact Below.refl _ _ | refine below_set ?_ (by first | exact Nat.le_refl _ | omega) _ | refine Below.alloc ?_ (by first | exact Nat.le_refl _ | omega | (simp; done) | (simp; omega)) _ | refine Below.drew ?_ | refine Below.trans ?_ (Below.mono HB2.out (by first | exact Nat.le_refl _ | omega | (simp; done) | (simp; omega))) )⟩)
          · clear hca
            go_enter Tryd.func11, Tryd.ntmps11
            go_wp2_with (go_at_call 9; (refine (check_yes ok s A c _ HM.out (HC.out _ (by repeat (first | with_reducible exact Below.refl _ _ | assumption | refine Below.alloc ?_ (by first | exact Nat.le_refl _ | omega | (simp; done) | (simp; omega)) _ | refine Below.setCell ?_ (by first | exact Nat.le_refl _ | (simp; done) | (simp; omega)) _ | refine Below.drew ?_))) hc hcc).mono ?_; rintro e w2 ⟨rfl, hb2⟩; obtain ⟨hX2, hY2⟩ := bcell hb2; have hs2 : w.heap.size + 1 + 1 ≤ w2.heap.size := (by simpa using hb2.size); have hs2' : w.heap.size + 1 < w2.heap.size := (by omega); have HB2 := Lib.hid hb2; clear hb2))
            refine bodyPost_ret (v := .tuple #[.agg #[.slice none 0 0, .int .u32 0, .int .i64 0], .iface 69 (.int .i64 19)]) (by simp [results, Tryd.results11, go_sem, hX2]) rfl (HR.out _ _ ⟨by rw [HP.out]; exact SecAns.none _ 19 _, by repeat (first | with_reducible exact Below.refl _ _ | refine below_set ?_ (by first | exact Nat.le_refl _ | omega) _ | refine Below.alloc ?_ (by first | exact Nat.le_refl _ | omega | (simp; done) | (simp; omega)) _ | refine Below.drew ?_ | refine Below.trans ?_ (Below.mono HB2.out (by first | exact Nat.le_refl _ | omega | (simp; done) | (simp; omega))) )⟩)
        · by_cases hc0 : 0 ≤ cas
          · obtain rfl : cas = (s.last.toNat : Int) := Classical.byContradiction fun h => hca ⟨hc0, h⟩
            exact (put_ok1 ok okd s data now A Ad c cd w HR0.out hc hcc HRD0.out hcd hccd HM.out hdl htop).mono fun e w' h => HR.out e w' h
          · exact (put_ok2 ok okd s data cas now A Ad c cd w HR0.out hc hcc HRD0.out hcd hccd hcas HM.out hdl htop hc0).mono fun e w' h => HR.out e w' h
    · have hp : s.put data cas now = (Sec.zero, some 1) := by unfold Sec.put; rw [if_neg (fun h => hdl h.2)]
      have d0 : decide ((100 : Int) < (data.length : Int)) = true := by simp; omega
      have HP := Lib.hid hp
      clear hp
      go_enter Tryd.func11, Tryd.ntmps11
      go_wp2_with (go_at_call 9; (refine (check_yes ok s A c _ HM.out (HC.out _ (by repeat (first | with_reducible exact Below.refl _ _ | assumption | refine Below.alloc ?_ (by first | exact Nat.le_refl _ | omega | (simp; done) | (simp; omega)) _ | refine Below.setCell ?_ (by first | exact Nat.le_refl _ | (simp; done) | (simp; omega)) _ | refine Below.drew ?_))) hc hcc).mono ?_; rintro e w2 ⟨rfl, hb2⟩; obtain ⟨hX2, hY2⟩ := bcell hb2; have hs2 : w.heap.size + 1 + 1 ≤ w2.heap.size := (by simpa using hb2.size); have HB2 := Lib.hid hb2; clear hb2))
      refine bodyPost_ret (v := .tuple #[.agg #[.slice none 0 0, .int .u32 0, .int .i64 0], .iface 69 (.int .i64 1)]) (by simp [results, Tryd.results11, go_sem, hX2]) rfl (HR.out _ _ ⟨by rw [HP.out]; exact SecAns.none _ 1 _, by repeat (first | with_reducible exact Below.refl _ _ | refine below_set ?_ (by first | exact Nat.le_refl _ | omega) _ | refine Below.alloc ?_ (by first | exact Nat.le_refl _ | omega | (simp; done) | (simp; omega)) _ | refine Below.drew ?_ | refine Below.trans ?_ (Below.mono HB2.out (by first | exact Nat.le_refl _ | omega | (simp; done) | (simp; omega))) )⟩)
  · have hp : s.put data cas now = (Sec.zero, some 1) := by unfold Sec.put; rw [if_neg (fun h => hm h.1)]
    have HP := Lib.hid hp
    have HM := Lib.hid hm
    clear hm hp
    go_enter Tryd.func11, Tryd.ntmps11
    go_wp2_with (go_at_call 9; (refine (check_no ok s A c _ HM.out (HC.out _ (by repeat (first | with_reducible exact Below.refl _ _ | assumption | refine Below.alloc ?_ (by first | exact Nat.le_refl _ | omega | (simp; done) | (simp; omega)) _ | refine Below.setCell ?_ (by first | exact Nat.le_refl _ | (simp; done) | (simp; omega)) _ | refine Below.drew ?_))) hc hcc).mono ?_; rintro e w2 ⟨rfl, hb2⟩; obtain ⟨hX2, hY2⟩ := bcell hb2; have hs2 : w.heap.size + 1 + 1 ≤ w2.heap.size := (by simpa using hb2.size); have HB2 := Lib.hid hb2; clear hb2))
    refine bodyPost_ret (v := .tuple #[.agg #[.slice none 0 0, .int .u32 0, .int .i64 0], .iface 69 (.int .i64 1)]) (by simp [results, Tryd.results11, go_sem, hX2]) rfl (HR.out _ _ ⟨by rw [HP.out]; exact SecAns.none _ 1 _, by repeat (first | with_reducible exact Below.refl _ _ | refine below_set ?_ (by first | exact Nat.le_refl _ | omega) _ | refine Below.alloc ?_ (by first | exact Nat.le_refl _ | omega | (simp; done) | (simp; omega)) _ | refine Below.drew ?_ | refine Below.trans ?_ (Below.mono HB2.out (by first | exact Nat.le_refl _ | omega | (simp; done) | (simp; omega))) )⟩)
end Go.Proofs.YtpdjahejcdmopaaDoor
