/- Versions and secrets (layer 30): what they are, how they read, what may be; the walks of (Version).may, Check and New. -/
import Derived.Test.YtpdjahejcdmopaaDoorNum
import Derived.Test.YtpdjahejcdmopaaDoorBase
namespace Go.Proofs.YtpdjahejcdmopaaDoor
open Go.RowKit

structure Ver where
  n : UInt32
  data : List UInt8
  at_ : UInt64
  st : Int
structure Sec where
  l : List Ver
  last : UInt32
  mx : Int
def Ver.cells (x : Ver) (A : Option Addr) (c : Nat) : List Value := [.int .u32 (x.n.toNat : Int), .slice A x.data.length c, .int .u64 (x.at_.toNat : Int), .int .i64 x.st]
def verK : Rep Ver where
  sz := 4
  K := fun ok w x cs => ∃ A c, cs = [.int .u32 (x.n.toNat : Int), .slice A x.data.length c, .int .u64 (x.at_.toNat : Int), .int .i64 x.st] ∧ x.data.length ≤ c ∧ c ≤ maxCap ∧ Rd u8 ok w A x.data ∧ I64 x.st
  pos := by omega
  len := by rintro _ _ _ _ ⟨_, _, rfl, _⟩; rfl
  one := by
    rintro _ _ _ _ ⟨_, _, rfl, _⟩ u hu
    simp at hu
    rcases hu with rfl | rfl | rfl | rfl <;> rfl
  move := by
    rintro ok w w' x cs hm ⟨A, c, h, hl, hc, hr, hi⟩
    exact ⟨A, c, h, hl, hc, hr.move hm, hi⟩
  weak := by
    rintro ok ok' w x cs hm ⟨A, c, h, hl, hc, hr, hi⟩
    exact ⟨A, c, h, hl, hc, hr.weak hm, hi⟩
theorem Rd.ver {ok : Nat → Prop} {w : World} {A : Option Addr} {xs : List Ver} (h : Rd verK ok w A xs) (j : Nat) (x : Ver) (hx : xs[j]? = some x) :
    ∃ b o A1 c1, A = some ⟨b, o, none⟩ ∧ b < w.heap.size ∧ ok b ∧ w.cell? ⟨b, o + j * 4, none⟩ = some (.int .u32 (x.n.toNat : Int)) ∧ w.cell? ⟨b, o + j * 4 + 1, none⟩ = some (.slice A1 x.data.length c1) ∧
      w.cell? ⟨b, o + j * 4 + 2, none⟩ = some (.int .u64 (x.at_.toNat : Int)) ∧ w.cell? ⟨b, o + j * 4 + 3, none⟩ = some (.int .i64 x.st) ∧ x.data.length ≤ c1 ∧ c1 ≤ 9223372036854775807 ∧ Rd u8 ok w A1 x.data ∧ I64 x.st := by
  obtain ⟨b, o, cs, hA, hb, ⟨A1, c1, rfl, h1, h2, h3, h4⟩, hc⟩ := h j x hx
  exact ⟨b, o, A1, c1, hA, cell_lt (hc 0 _ rfl), hb, hc 0 _ rfl, hc 1 _ rfl, hc 2 _ rfl, hc 3 _ rfl, h1, h2, h3, h4⟩

def Ver.may (v : Ver) : Bool := decide (0 ≤ v.st ∧ v.st ≤ 2 ∧ v.data.length ≤ 100 ∧ (v.st = 2 → v.data.length = 0))
def Sec.num (s : Sec) (i : Nat) : Nat := s.last.toNat - s.l.length + i + 1
def Sec.head (s : Sec) : Bool := decide (1 ≤ s.mx ∧ s.mx ≤ 8 ∧ (s.l.length : Int) ≤ s.mx ∧ s.l.length ≤ s.last.toNat ∧ (s.last.toNat = 0 ↔ s.l.length = 0))
def Sec.may (s : Sec) : Bool := s.head && (s.l.zipIdx.all fun (v, i) => v.may && v.n.toNat == s.num i)
theorem Sec.may_iff (s : Sec) : s.may = true ↔ s.head = true ∧ ∀ i v, s.l[i]? = some v → v.may = true ∧ v.n.toNat = s.num i := by
  unfold Sec.may
  rw [Bool.and_eq_true, List.all_eq_true]
  refine and_congr_right fun _ => ⟨fun h i v hv => ?_, fun h p hp => ?_⟩
  · have := h (v, i) (List.mem_zipIdx_iff_getElem?.2 hv)
    simpa using this
  · have := h p.2 p.1 (List.mem_zipIdx_iff_getElem?.1 hp)
    simpa using this

set_option maxHeartbeats 400000 in
theorem verMay_calls (n : Int) (A : Option Addr) (l c : Nat) (at_ : Int) (st : Int) (w : World) (hl : l ≤ 9223372036854775807) :
    Calls Tryd.prog 28 #[.agg #[.int .u32 n, .slice A l c, .int .u64 at_, .int .i64 st]] w fun e w' => e = .returned (.bool (decide (0 ≤ st ∧ st ≤ 2 ∧ l ≤ 100 ∧ (st = 2 → l = 0)))) ∧ Below w.heap.size w w' := by
  refine calls_hide fun R HR => ?_
  go_enter Tryd.func28, Tryd.ntmps28
  by_cases h0 : 0 ≤ st
  · by_cases h2 : st ≤ 2
    · by_cases hl1 : l ≤ 100
      · by_cases hs : st = 2
        · subst hs
          by_cases hl0 : l = 0
          · subst hl0
            go_wp2
            all_goals (refine HR.out _ _ ⟨by simp, by repeat (first | with_reducible exact Below.refl _ _ | assumption | refine Below.alloc ?_ (by first | exact Nat.le_refl _ | omega | (simp; done) | (simp; omega)) _ | refine Below.setCell ?_ (by first | exact Nat.le_refl _ | (simp; done) | (simp; omega)) _ | refine Below.drew ?_)⟩)
          · go_wp2
            all_goals (refine HR.out _ _ ⟨by simp [hl1, hl0], by repeat (first | with_reducible exact Below.refl _ _ | assumption | refine Below.alloc ?_ (by first | exact Nat.le_refl _ | omega | (simp; done) | (simp; omega)) _ | refine Below.setCell ?_ (by first | exact Nat.le_refl _ | (simp; done) | (simp; omega)) _ | refine Below.drew ?_)⟩)
        · go_wp2
          all_goals (refine HR.out _ _ ⟨by simp; try omega, by repeat (first | with_reducible exact Below.refl _ _ | assumption | refine Below.alloc ?_ (by first | exact Nat.le_refl _ | omega | (simp; done) | (simp; omega)) _ | refine Below.setCell ?_ (by first | exact Nat.le_refl _ | (simp; done) | (simp; omega)) _ | refine Below.drew ?_)⟩)
      · go_wp2
        all_goals (refine HR.out _ _ ⟨by simp; try omega, by repeat (first | with_reducible exact Below.refl _ _ | assumption | refine Below.alloc ?_ (by first | exact Nat.le_refl _ | omega | (simp; done) | (simp; omega)) _ | refine Below.setCell ?_ (by first | exact Nat.le_refl _ | (simp; done) | (simp; omega)) _ | refine Below.drew ?_)⟩)
    · go_wp2
      all_goals (refine HR.out _ _ ⟨by simp; try omega, by repeat (first | with_reducible exact Below.refl _ _ | assumption | refine Below.alloc ?_ (by first | exact Nat.le_refl _ | omega | (simp; done) | (simp; omega)) _ | refine Below.setCell ?_ (by first | exact Nat.le_refl _ | (simp; done) | (simp; omega)) _ | refine Below.drew ?_)⟩)
  · go_wp2
    all_goals (refine HR.out _ _ ⟨by simp; try omega, by repeat (first | with_reducible exact Below.refl _ _ | assumption | refine Below.alloc ?_ (by first | exact Nat.le_refl _ | omega | (simp; done) | (simp; omega)) _ | refine Below.setCell ?_ (by first | exact Nat.le_refl _ | (simp; done) | (simp; omega)) _ | refine Below.drew ?_)⟩)

theorem verMay_ver (v : Ver) (A : Option Addr) (c : Nat) (w : World) (hl : v.data.length ≤ 9223372036854775807) :
    Calls Tryd.prog 28 #[.agg #[.int .u32 (v.n.toNat : Int), .slice A v.data.length c, .int .u64 (v.at_.toNat : Int), .int .i64 v.st]] w fun e w' => e = .returned (.bool v.may) ∧ Below w.heap.size w w' :=
  verMay_calls _ _ _ _ _ _ _ hl
theorem Ver.may_eq (v : Ver) : decide (0 ≤ v.st ∧ v.st ≤ 2 ∧ v.data.length ≤ 100 ∧ (v.st = 2 → v.data.length = 0)) = v.may := rfl
/-- What Check answers. -/
def Sec.err (s : Sec) : Option Int := if s.may then none else some 1
theorem Sec.err_no {s : Sec} (h : ¬ s.may = true) : s.err = some 1 := by simp [Sec.err, h]
theorem Sec.err_yes {s : Sec} (h : s.may = true) : s.err = none := by simp [Sec.err, h]
theorem Sec.not_head {s : Sec} (h : s.head = false) : ¬ s.may = true := by simp [Sec.may, h]
set_option maxHeartbeats 600000 in
theorem check_calls (ok : Nat → Prop) (s : Sec) (A : Option Addr) (c : Nat) (w : World) (hr : Rd verK ok w A s.l) (hc : s.l.length ≤ c) (hcc : c ≤ maxCap) :
    Calls Tryd.prog 9 #[.agg #[.slice A s.l.length c, .int .u32 (s.last.toNat : Int), .int .i64 s.mx]] w fun e w' => e = .returned (errV s.err) ∧ Below w.heap.size w w' := by
  refine calls_hide fun R HR => ?_
  have hlen : s.l.length ≤ 9223372036854775807 := Nat.le_trans hc hcc
  have hla := s.last.toNat_lt
  have no : s.head = false → ∀ w', Below w.heap.size w w' → R (.returned (.iface 69 (.int .i64 1))) w' := fun h w' hb => HR.out _ _ ⟨by rw [Sec.err_no (Sec.not_head h)]; rfl, hb⟩
  have NO := Lib.hid no
  clear no
  have hd : s.head = decide (1 ≤ s.mx ∧ s.mx ≤ 8 ∧ (s.l.length : Int) ≤ s.mx ∧ s.l.length ≤ s.last.toNat ∧ (s.last.toNat = 0 ↔ s.l.length = 0)) := rfl
  have HD := Lib.hid hd
  clear hd
  have HC := Lib.hid hr
  clear hr
  have HI := Lib.hid (Sec.may_iff s)
  by_cases h1 : s.mx < 1
  · go_enter Tryd.func9, Tryd.ntmps9
    go_wp2
    all_goals exact NO.out (by rw [HD.out]; simp; omega) _ (by repeat (first | with_reducible exact Below.refl _ _ | assumption | refine Below.alloc ?_ (by first | exact Nat.le_refl _ | omega | (simp; done) | (simp; omega)) _ | refine Below.setCell ?_ (by first | exact Nat.le_refl _ | (simp; done) | (simp; omega)) _ | refine Below.drew ?_))
  by_cases h2 : 8 < s.mx
  · go_enter Tryd.func9, Tryd.ntmps9
    go_wp2
    all_goals exact NO.out (by rw [HD.out]; simp; omega) _ (by repeat (first | with_reducible exact Below.refl _ _ | assumption | refine Below.alloc ?_ (by first | exact Nat.le_refl _ | omega | (simp; done) | (simp; omega)) _ | refine Below.setCell ?_ (by first | exact Nat.le_refl _ | (simp; done) | (simp; omega)) _ | refine Below.drew ?_))
  by_cases h3 : s.mx < (s.l.length : Int)
  · go_enter Tryd.func9, Tryd.ntmps9
    go_wp2
    all_goals exact NO.out (by rw [HD.out]; simp; omega) _ (by repeat (first | with_reducible exact Below.refl _ _ | assumption | refine Below.alloc ?_ (by first | exact Nat.le_refl _ | omega | (simp; done) | (simp; omega)) _ | refine Below.setCell ?_ (by first | exact Nat.le_refl _ | (simp; done) | (simp; omega)) _ | refine Below.drew ?_))
  by_cases h4 : (s.last.toNat : Int) < (s.l.length : Int)
  · go_enter Tryd.func9, Tryd.ntmps9
    go_wp2
    all_goals exact NO.out (by rw [HD.out]; simp; omega) _ (by repeat (first | with_reducible exact Below.refl _ _ | assumption | refine Below.alloc ?_ (by first | exact Nat.le_refl _ | omega | (simp; done) | (simp; omega)) _ | refine Below.setCell ?_ (by first | exact Nat.le_refl _ | (simp; done) | (simp; omega)) _ | refine Below.drew ?_))
  simp only [Int.not_lt] at h1 h2 h3 h4
  by_cases h5 : (s.last.toNat = 0 ↔ s.l.length = 0)
  · have h5b := nz_same h5
    have hhead : s.head = true := by rw [HD.out]; exact decide_eq_true ⟨h1, h2, h3, by omega, h5⟩
    have HH := Lib.hid hhead
    clear h5 hhead
    have e1 : decide (s.mx < 1) = false := by simp; omega
    have e2 : decide (8 < s.mx) = false := by simp; omega
    have e3 : decide (s.mx < (s.l.length : Int)) = false := by simp; omega
    have e4 : decide (s.last.toNat < s.l.length) = false := by simp; omega
    go_enter Tryd.func9, Tryd.ntmps9
    go_wp2_with (fail)
    go_loopg [44] s.l.length (fun gk i wr => ∃ k : Nat, k ≤ s.l.length ∧ s.l.length ≤ k + gk ∧ i = .int .i64 k ∧ Below (w.heap.size + 1) (w.alloc (.cells #[.slice A s.l.length c, .int .u32 (s.last.toNat : Int), .int .i64 s.mx] 32)) wr ∧
      (∀ j v, j < k → s.l[j]? = some v → v.may = true ∧ v.n.toNat = s.num j))
    case atStart => exact ⟨0, Nat.zero_le _, by omega, rfl, Below.refl _ _, fun j v h => by omega⟩
    case round =>
      obtain ⟨k, hk, hgk, rfl, hb, hdone⟩ := hrel
      have HDONE := Lib.hid hdone
      clear hdone
      have HB := Lib.hid hb
      by_cases hlt : k < s.l.length
      · obtain ⟨v, hvk⟩ : ∃ v, s.l[k]? = some v := ⟨_, List.getElem?_eq_getElem hlt⟩
        obtain ⟨b, o, A1, c1, rfl, hbs, _, q0, q1, q2, q3, hl1, hc1, _, _⟩ := HC.out.ver k v hvk
        have HVK := Lib.hid hvk
        clear hvk
        have hbs' : b < w.heap.size + 1 := by omega
        obtain ⟨hX, hY⟩ := bcell hb
        have hs1 : w.heap.size < wr.heap.size := by have := hb.size; simp at this; omega
        have hs2 : w.heap.size ≤ wr.heap.size := Nat.le_of_lt hs1
        clear hb
        have NOT := Lib.hid (fun (h : ¬ (v.may = true ∧ v.n.toNat = s.num k)) => show ¬ s.may = true from fun hm => h ((HI.out.1 hm).2 k v HVK.out))
        by_cases hv : v.may = true
        · go_wp2_with (go_at_call 28; refine (verMay_ver v _ _ _ (by omega)).mono ?_; rintro e w' ⟨rfl, hb2⟩; obtain ⟨hX2, hY2⟩ := bcell hb2; have HB2 := Lib.hid hb2; clear hb2)
          · have ht : ((v.n.toNat : Int) != (s.last.toNat : Int) - (s.l.length : Int) + (k : Int) + 1) = true := by assumption
            refine HR.out _ _ ⟨?_, ?_⟩
            · rw [Sec.err_no (NOT.out fun h => ?_)]
              · rfl
              · have := h.2; unfold Sec.num at this; simp at ht; omega
            · exact ((Below.refl _ _).alloc (Nat.le_refl _) _).trans ((HB.out.mono (by omega)).trans (((Below.refl _ _).alloc hs2 _).trans (HB2.out.mono (by simp; omega))))
          · have ht : ((v.n.toNat : Int) != (s.last.toNat : Int) - (s.l.length : Int) + (k : Int) + 1) = false := by assumption
            go_roundg (gk - 1)
            case measure => omega
            case rel =>
              refine ⟨k + 1, by omega, by omega, by go_num, HB.out.trans (((Below.refl _ _).alloc (by omega) _).trans (HB2.out.mono (by simp; omega))), fun j v' hj hv' => ?_⟩
              rcases Nat.lt_or_ge j k with h | h
              · exact HDONE.out j v' h hv'
              · obtain rfl : j = k := by omega
                obtain rfl : v = v' := by have := HVK.out.symm.trans hv'; simpa using this
                refine ⟨hv, ?_⟩
                unfold Sec.num; simp at ht; omega
        · have hv' : v.may = false := by simpa using hv
          clear hv
          go_wp2_with (go_at_call 28; refine (verMay_ver v _ _ _ (by omega)).mono ?_; rintro e w' ⟨rfl, hb2⟩; obtain ⟨hX2, hY2⟩ := bcell hb2; have HB2 := Lib.hid hb2; clear hb2)
          all_goals refine HR.out _ _ ⟨?_, ?_⟩
          · rw [Sec.err_no (NOT.out fun h => by rw [h.1] at hv'; cases hv')]
            rfl
          · exact ((Below.refl _ _).alloc (Nat.le_refl _) _).trans ((HB.out.mono (by omega)).trans (((Below.refl _ _).alloc hs2 _).trans (HB2.out.mono (by simp; omega))))
      · go_wp2
        all_goals refine HR.out _ _ ⟨?_, ?_⟩
        · rw [Sec.err_yes (HI.out.2 ⟨HH.out, fun i v hv => HDONE.out i v (by
            have : i < s.l.length := by
              rcases Nat.lt_or_ge i s.l.length with h' | h'
              · exact h'
              · rw [List.getElem?_eq_none h'] at hv; cases hv
            omega) hv⟩)]
          rfl
        · exact ((Below.refl _ _).alloc (Nat.le_refl _) _).trans (HB.out.mono (by omega))
  · have h5b := nz_other h5
    have H5 := Lib.hid h5
    clear h5
    go_enter Tryd.func9, Tryd.ntmps9
    go_wp2
    all_goals exact NO.out (by rw [HD.out]; exact decide_eq_false fun h => H5.out h.2.2.2.2) _ (by repeat (first | with_reducible exact Below.refl _ _ | assumption | refine Below.alloc ?_ (by first | exact Nat.le_refl _ | omega | (simp; done) | (simp; omega)) _ | refine Below.setCell ?_ (by first | exact Nat.le_refl _ | (simp; done) | (simp; omega)) _ | refine Below.drew ?_))
end Go.Proofs.YtpdjahejcdmopaaDoor
