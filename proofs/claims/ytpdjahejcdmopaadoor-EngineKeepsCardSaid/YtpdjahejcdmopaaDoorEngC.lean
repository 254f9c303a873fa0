/- engine.find and what it calls, engine.Get, engine.New. -/
import Derived.Test.YtpdjahejcdmopaaDoorEngB
namespace Go.Proofs.YtpdjahejcdmopaaDoor
open Go.RowKit
set_option linter.unusedVariables false
/-- The place of a number in a secret's list. -/
def placeOf (l : List Ver) (n : Nat) : Option Nat := l.findIdx? (fun v => v.n.toNat == n)
set_option maxHeartbeats 400000 in
theorem find1_calls (x : Ver) (A : Option Addr) (c p : Nat) (m : Nat) (w : World) (hp : w.cell? ⟨p, 0, none⟩ = some (.int .u32 (m : Int))) :
    Calls Tryd.prog 41 #[.agg #[.int .u32 (x.n.toNat : Int), .slice A x.data.length c, .int .u64 (x.at_.toNat : Int), .int .i64 x.st], .pointer (some ⟨p, 0, none⟩)] w fun e w' => e = .returned (.bool (x.n.toNat == m)) ∧ Below w.heap.size w w' := by
  have hlt := cell_lt hp
  have hne : p ≠ w.heap.size := by omega
  refine calls_hide fun R HR => ?_
  go_enter Tryd.func41, Tryd.ntmps41
  go_wp2
  refine HR.out _ _ ⟨?_, by repeat (first | with_reducible exact Below.refl _ _ | assumption | refine Below.alloc ?_ (by first | exact Nat.le_refl _ | omega | (simp; done) | (simp; omega)) _ | refine Below.setCell ?_ (by first | exact Nat.le_refl _ | (simp; done) | (simp; omega)) _ | refine Below.drew ?_)⟩
  rw [← beq_int]; rfl
set_option maxHeartbeats 1000000 in
theorem indexFunc_calls (ok : Nat → Prop) (l : List Ver) (A : Option Addr) (c p m : Nat) (w : World) (hr : Rd verK ok w A l) (hc : l.length ≤ c) (hcc : c ≤ maxCap) (hp : w.cell? ⟨p, 0, none⟩ = some (.int .u32 (m : Int))) :
    Calls Tryd.prog 40 #[.slice A l.length c, .func (.func 41) #[] #[.pointer (some ⟨p, 0, none⟩)]] w fun e w' => e = .returned (.int .i64 (match placeOf l m with | some i => (i : Int) | none => -1)) ∧ Below w.heap.size w w' := by
  refine calls_hide fun R HR => ?_
  have HC := Lib.hid hr
  clear hr
  have hlen : l.length ≤ 9223372036854775807 := Nat.le_trans hc hcc
  have hlt := cell_lt hp
  go_enter Tryd.func40, Tryd.ntmps40
  go_wp2_with (fail)
  go_loopg [8] l.length (fun gk i wr => ∃ k : Nat, k ≤ l.length ∧ l.length ≤ k + gk ∧ i = .int .i64 k ∧ Below w.heap.size w wr ∧ Hid (∀ j v, j < k → l[j]? = some v → (v.n.toNat == m) = false))
  case atStart => exact ⟨0, Nat.zero_le _, by omega, rfl, Below.refl _ _, fun j v h => by omega⟩
  case round =>
    obtain ⟨k, hk, hgk, rfl, hb, HDONE⟩ := hrel
    have HB := Lib.hid hb
    obtain ⟨hX, hY⟩ := bcell hb
    have hs1 : w.heap.size ≤ wr.heap.size := hb.size
    clear hb
    by_cases hltk : k < l.length
    · obtain ⟨x, hxk⟩ : ∃ x, l[k]? = some x := ⟨_, List.getElem?_eq_getElem hltk⟩
      obtain ⟨b, o, A1, c1, rfl, hbs, _, q0, q1, q2, q3, hl1, hc1, _, _⟩ := HC.out.ver k x hxk
      have HX := Lib.hid hxk
      clear hxk
      have arm := find1_calls x A1 c1 p m wr (by rw [hX p 0 hlt]; exact hp)
      have ARM := Lib.hid arm
      clear arm
      by_cases hm : (x.n.toNat == m) = true
      · have hpl : placeOf l m = some k := by
          refine List.findIdx?_eq_some_iff_getElem.2 ⟨hltk, ?_, fun j hj => ?_⟩
          · have := HX.out; rw [List.getElem?_eq_getElem hltk] at this; injection this with this; rw [this]; exact hm
          · have := HDONE.out j _ hj (List.getElem?_eq_getElem (by omega)); rw [this]; simp
        have HPL := Lib.hid hpl
        clear hpl
        go_wp2_with (go_at_call 41; (refine ARM.out.mono ?_; rintro e w2 ⟨rfl, hb2⟩; have HB2 := Lib.hid hb2; clear hb2))
        refine HR.out _ _ ⟨?_, HB.out.trans (HB2.out.mono hs1)⟩
        rw [HPL.out]; rfl
      · have hm' : (x.n.toNat == m) = false := by simpa using hm
        clear hm
        go_wp2_with (go_at_call 41; (refine ARM.out.mono ?_; rintro e w2 ⟨rfl, hb2⟩; have HB2 := Lib.hid hb2; clear hb2))
        go_roundg (gk - 1)
        case measure => omega
        case rel =>
          refine ⟨k + 1, by omega, by omega, by go_num, HB.out.trans (HB2.out.mono hs1), fun j v hj hv => ?_⟩
          rcases Nat.lt_or_ge j k with h | h
          · exact HDONE.out j v h hv
          · obtain rfl : j = k := by omega
            obtain rfl : x = v := by have := HX.out.symm.trans hv; simpa using this
            exact hm'
    · have hpl : placeOf l m = none := by
        refine List.findIdx?_eq_none_iff.2 fun v hv => ?_
        obtain ⟨j, hj⟩ := List.getElem?_of_mem hv
        exact HDONE.out j v (by have := lt_of_getElem? hj; omega) hj
      have HPL := Lib.hid hpl
      clear hpl
      go_wp2
      refine HR.out _ _ ⟨?_, HB.out⟩
      rw [HPL.out]; rfl

/-! ### Check, told apart; New -/
theorem check_yes (ok : Nat → Prop) (s : Sec) (A : Option Addr) (c : Nat) (w : World) (hm : s.may = true) (hr : Rd verK ok w A s.l) (hc : s.l.length ≤ c) (hcc : c ≤ maxCap) :
    Calls Tryd.prog 9 #[.agg #[.slice A s.l.length c, .int .u32 (s.last.toNat : Int), .int .i64 s.mx]] w fun e w' => e = .returned .nilIface ∧ Below w.heap.size w w' :=
  (check_calls ok s A c w hr hc hcc).mono fun e w' ⟨h1, h2⟩ => ⟨by rw [h1, Sec.err_yes hm]; rfl, h2⟩
theorem check_no (ok : Nat → Prop) (s : Sec) (A : Option Addr) (c : Nat) (w : World) (hm : ¬ s.may = true) (hr : Rd verK ok w A s.l) (hc : s.l.length ≤ c) (hcc : c ≤ maxCap) :
    Calls Tryd.prog 9 #[.agg #[.slice A s.l.length c, .int .u32 (s.last.toNat : Int), .int .i64 s.mx]] w fun e w' => e = .returned (.iface 69 (.int .i64 1)) ∧ Below w.heap.size w w' :=
  (check_calls ok s A c w hr hc hcc).mono fun e w' ⟨h1, h2⟩ => ⟨by rw [h1, Sec.err_no hm]; rfl, h2⟩
def Sec.find (s : Sec) (n : Nat) : Nat × Option Int := if s.may then (match placeOf s.l (if n = 0 then s.last.toNat else n) with | some i => (i, none) | none => (0, some 5)) else (0, some 1)
set_option maxHeartbeats 1000000 in
theorem find_calls (ok : Nat → Prop) (s : Sec) (n : UInt32) (A : Option Addr) (c : Nat) (w : World) (hr : Rd verK ok w A s.l) (hc : s.l.length ≤ c) (hcc : c ≤ maxCap) :
    Calls Tryd.prog 32 #[.agg #[.slice A s.l.length c, .int .u32 (s.last.toNat : Int), .int .i64 s.mx], .int .u32 (n.toNat : Int)] w fun e w' => e = .returned (.tuple #[.int .i64 ((s.find n.toNat).1 : Int), errV (s.find n.toNat).2]) ∧ Below w.heap.size w w' := by
  refine calls_hide fun R HR => ?_
  have HC := Lib.hid hr
  clear hr
  have hrd : ∀ W : World, Below w.heap.size w W → Rd verK ok W A s.l := fun W hb => HC.out.below hb
  have HRD := Lib.hid hrd
  clear hrd
  by_cases hm : s.may = true
  · have HM := Lib.hid hm
    clear hm
    have fin : ∀ o, placeOf s.l (if n.toNat = 0 then s.last.toNat else n.toNat) = o → s.find n.toNat = (match o with | some i => (i, none) | none => (0, some 5)) := by
      rintro o rfl; unfold Sec.find; rw [if_pos HM.out]
    have FIN := Lib.hid fin
    clear fin
    have key : ∀ (m : Nat) (r : Int), Hid ((if n.toNat = 0 then s.last.toNat else n.toNat) = m) → (∀ (W : World) (p : Nat), Below w.heap.size w W → W.cell? ⟨p, 0, none⟩ = some (.int .u32 (m : Int)) →
        Calls Tryd.prog 40 #[.slice A s.l.length c, .func (.func 41) #[] #[.pointer (some ⟨p, 0, none⟩)]] W fun e w' => e = .returned (.int .i64 r) ∧ Below W.heap.size W w') →
        (∀ w', Below w.heap.size w w' → R (.returned (.tuple #[.int .i64 (if r < 0 then 0 else r), if r < 0 then .iface 69 (.int .i64 5) else .nilIface])) w') →
        Calls Tryd.prog 32 #[.agg #[.slice A s.l.length c, .int .u32 (s.last.toNat : Int), .int .i64 s.mx], .int .u32 (n.toNat : Int)] w R := by
      intro m r HMM arm fin
      have ARM := Lib.hid arm
      have FIN := Lib.hid fin
      clear arm fin
      by_cases hn : n.toNat = 0
      · have hb0 : ((n.toNat : Int) == 0) = true := by rw [hn]; rfl
        have hms : s.last.toNat = m := by have := HMM.out; rw [if_pos hn] at this; exact this
        subst hms
        clear hn
        by_cases hr0 : r < 0
        all_goals
          go_enter Tryd.func32, Tryd.ntmps32
          go_wp2_with (first | (go_at_call 9; (refine (check_yes ok s A c _ HM.out (HRD.out _ (by repeat (first | with_reducible exact Below.refl _ _ | assumption | refine Below.alloc ?_ (by first | exact Nat.le_refl _ | omega | (simp; done) | (simp; omega)) _ | refine Below.setCell ?_ (by first | exact Nat.le_refl _ | (simp; done) | (simp; omega)) _ | refine Below.drew ?_))) hc hcc).mono ?_; rintro e w2 ⟨rfl, hb2⟩; obtain ⟨hX2, hY2⟩ := bcell hb2; have hs2 : w.heap.size + 1 + 1 ≤ w2.heap.size := (by simpa using hb2.size); have HB2 := Lib.hid hb2; clear hb2)) | (go_at_call 40; (refine (ARM.out _ (w.heap.size + 1) ?_ ?_).mono ?_; rotate_left 2; rintro e w3 ⟨rfl, hb3⟩; have HB3 := Lib.hid hb3; clear hb3)))
          · have hb : Below w.heap.size w w3 := ((((Below.refl _ _).alloc (Nat.le_refl _) _).alloc (by simp) _).trans (below_set (HB2.out.mono (by simp; omega)) (by omega) _)).trans (HB3.out.mono (by rw [size_set]; omega))
            have := FIN.out w3 hb
            first | (rw [if_pos hr0, if_pos hr0] at this; exact this) | (rw [if_neg (by omega), if_neg (by omega)] at this; exact this)
          · exact (((Below.refl _ _).alloc (Nat.le_refl _) _).alloc (by simp) _).trans (below_set (HB2.out.mono (by simp; omega)) (by omega) _)
          · refine World.cell?_setCell_same _ _ _ (u := .int .u32 (n.toNat : Int)) ?_
            rw [hX2 _ _ (by simp)]; simp
      · have hb0 : ((n.toNat : Int) == 0) = false := by simpa using hn
        have hms : n.toNat = m := by have := HMM.out; rw [if_neg hn] at this; exact this
        subst hms
        clear hn
        by_cases hr0 : r < 0
        all_goals
          go_enter Tryd.func32, Tryd.ntmps32
          go_wp2_with (first | (go_at_call 9; (refine (check_yes ok s A c _ HM.out (HRD.out _ (by repeat (first | with_reducible exact Below.refl _ _ | assumption | refine Below.alloc ?_ (by first | exact Nat.le_refl _ | omega | (simp; done) | (simp; omega)) _ | refine Below.setCell ?_ (by first | exact Nat.le_refl _ | (simp; done) | (simp; omega)) _ | refine Below.drew ?_))) hc hcc).mono ?_; rintro e w2 ⟨rfl, hb2⟩; obtain ⟨hX2, hY2⟩ := bcell hb2; have hs2 : w.heap.size + 1 + 1 ≤ w2.heap.size := (by simpa using hb2.size); have HB2 := Lib.hid hb2; clear hb2)) | (go_at_call 40; (refine (ARM.out _ (w.heap.size + 1) ?_ ?_).mono ?_; rotate_left 2; rintro e w3 ⟨rfl, hb3⟩; have HB3 := Lib.hid hb3; clear hb3)))
          · have hb : Below w.heap.size w w3 := ((((Below.refl _ _).alloc (Nat.le_refl _) _).alloc (by simp) _).trans (HB2.out.mono (by simp; omega))).trans (HB3.out.mono (by omega))
            have := FIN.out w3 hb
            first | (rw [if_pos hr0, if_pos hr0] at this; exact this) | (rw [if_neg (by omega), if_neg (by omega)] at this; exact this)
          · exact (((Below.refl _ _).alloc (Nat.le_refl _) _).alloc (by simp) _).trans (HB2.out.mono (by simp; omega))
          · rw [hX2 _ _ (by simp)]; simp
    cases hpl : placeOf s.l (if n.toNat = 0 then s.last.toNat else n.toNat) with
    | none =>
      refine key _ (-1) rfl (fun W p hb hp => ?_) (fun w' hb => HR.out _ _ ⟨?_, hb⟩)
      · have := indexFunc_calls ok s.l A c p _ W (HRD.out W hb) hc hcc hp
        rw [hpl] at this; exact this
      · rw [FIN.out none hpl]; rfl
    | some i =>
      refine key _ (i : Int) rfl (fun W p hb hp => ?_) (fun w' hb => HR.out _ _ ⟨?_, hb⟩)
      · have := indexFunc_calls ok s.l A c p _ W (HRD.out W hb) hc hcc hp
        rw [hpl] at this; exact this
      · rw [FIN.out (some i) hpl, if_neg (by omega), if_neg (by omega)]; rfl
  · have HM := Lib.hid hm
    clear hm
    have hf : s.find n.toNat = (0, some 1) := by unfold Sec.find; rw [if_neg HM.out]
    have HF := Lib.hid hf
    clear hf
    go_enter Tryd.func32, Tryd.ntmps32
    go_wp2_with (go_at_call 9; (refine (check_no ok s A c _ HM.out (HRD.out _ (by repeat (first | with_reducible exact Below.refl _ _ | assumption | refine Below.alloc ?_ (by first | exact Nat.le_refl _ | omega | (simp; done) | (simp; omega)) _ | refine Below.setCell ?_ (by first | exact Nat.le_refl _ | (simp; done) | (simp; omega)) _ | refine Below.drew ?_))) hc hcc).mono ?_; rintro e w2 ⟨rfl, hb2⟩; have HB2 := Lib.hid hb2; clear hb2))
    refine HR.out _ _ ⟨by rw [HF.out]; rfl, ?_⟩
    exact (((Below.refl _ _).alloc (Nat.le_refl _) _).alloc (by simp) _).trans (HB2.out.mono (by simp; omega))
end Go.Proofs.YtpdjahejcdmopaaDoor
