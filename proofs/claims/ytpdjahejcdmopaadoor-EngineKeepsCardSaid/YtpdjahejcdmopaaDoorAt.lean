/- The contracts at values that are told: what the laws' walks meet. -/
import Derived.Test.YtpdjahejcdmopaaDoorBig
import Derived.Laws.IdiomStrings
import Derived.Laws.BytesArg
namespace Go.Proofs.YtpdjahejcdmopaaDoor
open Go.RowKit
set_option linter.unusedVariables false
set_option linter.unusedSimpArgs false
/-- The bytes as a string. -/
theorem conv_str {ok : Nat → Prop} {w : World} {A : Option Addr} {xs : List UInt8} (h : Rd u8 ok w A xs) (n : Nat) (hn : xs.length = n) (c : Nat) (dst : TypeId) (hd : Tryd.prog.underlying dst = some .string) :
    (convert 26 dst (.slice A n c)).run Tryd.prog w = .ok (.string ⟨xs.toArray⟩) w := by
  subst hn
  cases A with
  | none =>
    obtain rfl := h.nilA
    exact run_convert_bytes_nil w 26 5 Tryd.underlying26 Tryd.underlying5 _ _ dst hd
  | some a =>
    refine run_convert_bytes_back w 26 dst 5 a c xs Tryd.underlying26 Tryd.underlying5 hd fun j hj => ?_
    obtain ⟨b, o, e, _, _, hc⟩ := h.byte j xs[j] (List.getElem?_eq_getElem hj)
    cases e
    have hplain : (⟨b, o, none⟩ : Addr).add j = ⟨b, o + j, none⟩ := by unfold Addr.add; split <;> simp_all
    rw [hplain]
    exact hc
theorem new_at (mx : Int) (hmx : I64 mx) (s' : Sec) (eo : Option Int) (hput : Sec.new mx = (s', eo)) (ln' : Nat) (li' mi' : Int) (h1 : s'.l.length = ln') (h2 : (s'.last.toNat : Int) = li') (h3 : s'.mx = mi') (w : World) :
    Calls Tryd.prog 20 #[.int .i64 mx] w fun e w' => ∃ A' c', e = .returned (.tuple #[.agg #[.slice A' ln' c', .int .u32 li', .int .i64 mi'], errV eo]) ∧ ln' ≤ c' ∧ c' ≤ maxCap ∧ Rd verK (fun k => w.heap.size ≤ k) w' A' s'.l ∧ Below w.heap.size w w' := by
  subst h1; subst h2; subst h3
  refine (new_calls mx hmx w).mono fun e w' h => ?_
  rw [hput] at h
  obtain ⟨⟨A', c', q1, q2, q3, q4⟩, hb⟩ := h
  exact ⟨A', c', q1, q2, q3, q4, hb⟩
theorem put_at (s : Sec) (data : List UInt8) (cas : Int) (now : UInt64) (s' : Sec) (eo : Option Int) (hput : s.put data cas now = (s', eo)) (ln dn ln' : Nat) (li mi ni li' mi' : Int) (g1 : s.l.length = ln) (g2 : (s.last.toNat : Int) = li) (g3 : s.mx = mi) (g4 : data.length = dn) (g5 : (now.toNat : Int) = ni)
    (h1 : s'.l.length = ln') (h2 : (s'.last.toNat : Int) = li') (h3 : s'.mx = mi') (ok okd : Nat → Prop) (A Ad : Option Addr) (c cd : Nat) (w : World) (hr : Rd verK ok w A s.l) (hc : ln ≤ c) (hcc : c ≤ maxCap) (hrd : Rd u8 okd w Ad data) (hcd : dn ≤ cd) (hccd : cd ≤ maxCap) (hcas : I64 cas) :
    Calls Tryd.prog 11 #[.agg #[.slice A ln c, .int .u32 li, .int .i64 mi], .slice Ad dn cd, .int .i64 cas, .int .u64 ni] w fun e w' => ∃ A' c', e = .returned (.tuple #[.agg #[.slice A' ln' c', .int .u32 li', .int .i64 mi'], errV eo]) ∧ ln' ≤ c' ∧ c' ≤ maxCap ∧ Rd verK (fun k => w.heap.size ≤ k) w' A' s'.l ∧ Below w.heap.size w w' := by
  subst h1; subst h2; subst h3; subst g1; subst g2; subst g3; subst g4; subst g5
  refine (put_calls ok okd s data cas now A Ad c cd w hr hc hcc hrd hcd hccd hcas).mono fun e w' h => ?_
  rw [hput] at h
  obtain ⟨⟨A', c', q1, q2, q3, q4⟩, hb⟩ := h
  exact ⟨A', c', q1, q2, q3, q4, hb⟩
theorem get_at (s : Sec) (n : UInt32) (v : Ver) (eo : Option Int) (hget : s.get n.toNat = (v, eo)) (ln : Nat) (li mi ni : Int) (g1 : s.l.length = ln) (g2 : (s.last.toNat : Int) = li) (g3 : s.mx = mi) (g4 : (n.toNat : Int) = ni) (vn va : Int) (vl : Nat) (h1 : (v.n.toNat : Int) = vn) (h2 : v.data.length = vl) (h3 : (v.at_.toNat : Int) = va) (vs : Int) (h4 : v.st = vs)
    (ok : Nat → Prop) (A : Option Addr) (c : Nat) (w : World) (hr : Rd verK ok w A s.l) (hc : ln ≤ c) (hcc : c ≤ maxCap) :
    Calls Tryd.prog 12 #[.agg #[.slice A ln c, .int .u32 li, .int .i64 mi], .int .u32 ni] w fun e w' => ∃ A' c', e = .returned (.tuple #[.agg #[.int .u32 vn, .slice A' vl c', .int .u64 va, .int .i64 vs], errV eo]) ∧ vl ≤ c' ∧ c' ≤ maxCap ∧ Rd u8 (fun k => w.heap.size ≤ k) w' A' v.data ∧ Below w.heap.size w w' := by
  subst g1; subst g2; subst g3; subst g4; subst h1; subst h2; subst h3; subst h4
  refine (get_calls ok s n A c w hr hc hcc).mono fun e w' h => ?_
  rw [hget] at h
  obtain ⟨⟨A', c', q1, q2, q3, q4⟩, hb⟩ := h
  exact ⟨A', c', q1, q2, q3, q4, hb⟩
theorem del_at (s : Sec) (n : UInt32) (s' : Sec) (eo : Option Int) (hset : s.setSt n.toNat 1 = (s', eo)) (ln ln' : Nat) (li mi ni li' mi' : Int) (g1 : s.l.length = ln) (g2 : (s.last.toNat : Int) = li) (g3 : s.mx = mi) (g4 : (n.toNat : Int) = ni) (h1 : s'.l.length = ln') (h2 : (s'.last.toNat : Int) = li') (h3 : s'.mx = mi')
    (ok : Nat → Prop) (A : Option Addr) (c : Nat) (w : World) (hr : Rd verK ok w A s.l) (hc : ln ≤ c) (hcc : c ≤ maxCap) :
    Calls Tryd.prog 16 #[.agg #[.slice A ln c, .int .u32 li, .int .i64 mi], .int .u32 ni] w fun e w' => ∃ A' c', e = .returned (.tuple #[.agg #[.slice A' ln' c', .int .u32 li', .int .i64 mi'], errV eo]) ∧ ln' ≤ c' ∧ c' ≤ maxCap ∧ Rd verK (fun k => w.heap.size ≤ k) w' A' s'.l ∧ Below w.heap.size w w' := by
  subst h1; subst h2; subst h3; subst g1; subst g2; subst g3; subst g4
  refine (delv_calls ok s n A c w hr hc hcc).mono fun e w' h => ?_
  rw [hset] at h
  obtain ⟨⟨A', c', q1, q2, q3, q4⟩, hb⟩ := h
  exact ⟨A', c', q1, q2, q3, q4, hb⟩
/-- The secrets that sure comes by. -/
def s0 : Sec := ⟨[], 0, 2⟩
def s1 : Sec := ⟨[⟨1, [97], 1, 0⟩], 1, 2⟩
def s2 : Sec := ⟨[⟨1, [97], 1, 0⟩, ⟨2, [98], 2, 0⟩], 2, 2⟩
def s3 : Sec := ⟨[⟨2, [98], 2, 0⟩, ⟨3, [99], 3, 0⟩], 3, 2⟩
def s4 : Sec := ⟨[⟨2, [98], 2, 0⟩, ⟨3, [99], 3, 1⟩], 3, 2⟩
theorem new_s0 : Sec.new 2 = (s0, none) := by rfl
theorem put_s1 : s0.put [97] 0 1 = (s1, none) := by kernel_rfl
theorem put_s2 : s1.put [98] (-1) 2 = (s2, none) := by kernel_rfl
theorem put_s3 : s2.put [99] 2 3 = (s3, none) := by kernel_rfl
theorem get_s3 : s3.get (2 : UInt32).toNat = (⟨2, [98], 2, 0⟩, none) := by kernel_rfl
theorem get_s3b : s3.get (1 : UInt32).toNat = (Ver.zero, some 5) := by kernel_rfl
theorem del_s4 : s3.setSt (0 : UInt32).toNat 1 = (s4, none) := by kernel_rfl
theorem get_s4 : s4.get (3 : UInt32).toNat = (Ver.zero, some 21) := by kernel_rfl
theorem put_no : s2.put [] 1 3 = (Sec.zero, some 20) := by kernel_rfl
end Go.Proofs.YtpdjahejcdmopaaDoor
