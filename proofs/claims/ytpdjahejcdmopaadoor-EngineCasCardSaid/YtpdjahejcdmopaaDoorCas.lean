/- EngineCas: walked, whatever comes in. -/
import Derived.Test.YtpdjahejcdmopaaDoorCasP
import Derived.Test.YtpdjahejcdmopaaDoorSure
namespace Go.Proofs.YtpdjahejcdmopaaDoor
open Go.RowKit
set_option linter.unusedVariables false
set_option linter.unusedSimpArgs false
set_option maxRecDepth 10000 in
set_option maxHeartbeats 4000000 in
theorem cas_big (ok oka okb : Nat → Prop) (s : Sec) (x y : List UInt8) (A Ax Ay : Option Addr) (c cx cy : Nat) (ca cb : Int) (na nb ta tb : Int) (w : World) (hg : EVar w)
    (hr : Rd verK ok w A s.l) (hc : s.l.length ≤ c) (hcc : c ≤ maxCap) (hl : s.l.length * 48 ≤ 140737488355328) (hrx : Rd u8 oka w Ax x) (hcx : x.length ≤ cx) (hccx : cx ≤ maxCap) (hry : Rd u8 okb w Ay y) (hcy : y.length ≤ cy) (hccy : cy ≤ maxCap) (h0 : s.big = true) :
    Calls Tryd.prog 3 #[.agg #[.slice A s.l.length c, .int .u32 (s.last.toNat : Int), .int .i64 s.mx], .agg #[.slice Ax x.length cx, .int .i64 ca, .int .u32 na, .int .u64 ta], .agg #[.slice Ay y.length cy, .int .i64 cb, .int .u32 nb, .int .u64 tb]] w fun e w' => e = .returned (.bool true) ∧ Below w.heap.size w w' := by
  refine calls_hide fun R HR => ?_
  have HG := Lib.hid hg
  clear hg
  have hS := ((((St.begin w).arg (Dat.rd verK A s.l) hr).arg (Dat.rd u8 Ay y) hry).arg (Dat.rd u8 Ax x) hrx)
  have hF := hS.facts
  dsimp only [Facts] at hF
  clear hr hrx hry
  revert HR HG
  generalize hw0 : w = w0 at hS ⊢
  clear hw0
  intro HR HG
  have hlx : x.length ≤ 9223372036854775807 := Nat.le_trans hcx hccx
  have hly : y.length ≤ 9223372036854775807 := Nat.le_trans hcy hccy
  have hll : s.l.length ≤ 9223372036854775807 := Nat.le_trans hc hcc
  have hlb : s.last.toNat < 4294967296 := s.last.toNat_lt
  go_enter Tryd.func3, Tryd.ntmps3
  go_wp2_with (first | ((refine at_alloc hS 32 [.slice none 0 0, .int .u32 0, .int .i64 0] (by kernel_rfl) rfl rfl ?_); clear hF hS; intro b w hS; ((try dsimp only [putL, List.set] at hS); have hF := hS.facts; dsimp only [Facts] at hF)) | ((refine at_alloc hS 42 [.int .u32 0, .slice none 0 0, .int .u64 0, .int .i64 0] (by kernel_rfl) rfl rfl ?_); clear hF hS; intro b w hS; ((try dsimp only [putL, List.set] at hS); have hF := hS.facts; dsimp only [Facts] at hF)) | ((refine at_box hS rfl rfl rfl ?_); clear hF hS; intro b w hS; ((try dsimp only [putL, List.set] at hS); have hF := hS.facts; dsimp only [Facts] at hF)) | ((first | (refine at_store hS 0 rfl rfl rfl rfl rfl (by kernel_rfl) (Nat.le_of_ble_eq_true rfl) rfl ?_) | (refine at_store hS 1 rfl rfl rfl rfl rfl (by kernel_rfl) (Nat.le_of_ble_eq_true rfl) rfl ?_) | (refine at_store hS 2 rfl rfl rfl rfl rfl (by kernel_rfl) (Nat.le_of_ble_eq_true rfl) rfl ?_) | (refine at_store hS 3 rfl rfl rfl rfl rfl (by kernel_rfl) (Nat.le_of_ble_eq_true rfl) rfl ?_) | (refine at_store hS 4 rfl rfl rfl rfl rfl (by kernel_rfl) (Nat.le_of_ble_eq_true rfl) rfl ?_) | (refine at_store hS 5 rfl rfl rfl rfl rfl (by kernel_rfl) (Nat.le_of_ble_eq_true rfl) rfl ?_)); clear hF hS; intro w hS; ((try dsimp only [putL, List.set] at hS); have hF := hS.facts; dsimp only [Facts] at hF)) | ((go_at_call 7); (refine (give_calls _ s _ _ _ (hS.rd 2 rfl) hc hcc hl).mono ?_); rintro e w ⟨A1, c1, rfl, hl1, hc1, hr1, hb1⟩; have hT := hS.callRo hb1 hr1; clear hF hS hb1 hr1; have hS := hT; clear hT; (try simp only [errV]); have hF := hS.facts; dsimp only [Facts] at hF) | (go_at_call 8; (refine (big_calls _ s _ _ _ (hS.rd 3 rfl) hc hcc).mono ?_); rintro e w ⟨rfl, hb⟩; have hT := hS.call hb; clear hF hS hb; have hS := hT; clear hT; have hF := hS.facts; dsimp only [Facts] at hF) | (go_at_call 10; (refine (sure_calls _ (HG.out.below hS.below)).mono ?_); rintro e w ⟨rfl, hb⟩; have hT := hS.call hb; clear hF hS hb; have hS := hT; clear hT; have hF := hS.facts; dsimp only [Facts] at hF))
  exact HR.out _ _ ⟨rfl, hS.below⟩
set_option maxRecDepth 10000 in
set_option maxHeartbeats 4000000 in
theorem cas_x (ok oka okb : Nat → Prop) (s : Sec) (x y : List UInt8) (A Ax Ay : Option Addr) (c cx cy : Nat) (ca cb : Int) (na nb ta tb : Int) (w : World) (hg : EVar w)
    (hr : Rd verK ok w A s.l) (hc : s.l.length ≤ c) (hcc : c ≤ maxCap) (hl : s.l.length * 48 ≤ 140737488355328) (hrx : Rd u8 oka w Ax x) (hcx : x.length ≤ cx) (hccx : cx ≤ maxCap) (hry : Rd u8 okb w Ay y) (hcy : y.length ≤ cy) (hccy : cy ≤ maxCap) (h0 : s.big = false) (h1 : decide ((100 : Int) < (x.length : Int)) = true) :
    Calls Tryd.prog 3 #[.agg #[.slice A s.l.length c, .int .u32 (s.last.toNat : Int), .int .i64 s.mx], .agg #[.slice Ax x.length cx, .int .i64 ca, .int .u32 na, .int .u64 ta], .agg #[.slice Ay y.length cy, .int .i64 cb, .int .u32 nb, .int .u64 tb]] w fun e w' => e = .returned (.bool true) ∧ Below w.heap.size w w' := by
  refine calls_hide fun R HR => ?_
  have HG := Lib.hid hg
  clear hg
  have hS := ((((St.begin w).arg (Dat.rd verK A s.l) hr).arg (Dat.rd u8 Ay y) hry).arg (Dat.rd u8 Ax x) hrx)
  have hF := hS.facts
  dsimp only [Facts] at hF
  clear hr hrx hry
  revert HR HG
  generalize hw0 : w = w0 at hS ⊢
  clear hw0
  intro HR HG
  have hlx : x.length ≤ 9223372036854775807 := Nat.le_trans hcx hccx
  have hly : y.length ≤ 9223372036854775807 := Nat.le_trans hcy hccy
  have hll : s.l.length ≤ 9223372036854775807 := Nat.le_trans hc hcc
  have hlb : s.last.toNat < 4294967296 := s.last.toNat_lt
  go_enter Tryd.func3, Tryd.ntmps3
  go_wp2_with (first | ((refine at_alloc hS 32 [.slice none 0 0, .int .u32 0, .int .i64 0] (by kernel_rfl) rfl rfl ?_); clear hF hS; intro b w hS; ((try dsimp only [putL, List.set] at hS); have hF := hS.facts; dsimp only [Facts] at hF)) | ((refine at_alloc hS 42 [.int .u32 0, .slice none 0 0, .int .u64 0, .int .i64 0] (by kernel_rfl) rfl rfl ?_); clear hF hS; intro b w hS; ((try dsimp only [putL, List.set] at hS); have hF := hS.facts; dsimp only [Facts] at hF)) | ((refine at_box hS rfl rfl rfl ?_); clear hF hS; intro b w hS; ((try dsimp only [putL, List.set] at hS); have hF := hS.facts; dsimp only [Facts] at hF)) | ((first | (refine at_store hS 0 rfl rfl rfl rfl rfl (by kernel_rfl) (Nat.le_of_ble_eq_true rfl) rfl ?_) | (refine at_store hS 1 rfl rfl rfl rfl rfl (by kernel_rfl) (Nat.le_of_ble_eq_true rfl) rfl ?_) | (refine at_store hS 2 rfl rfl rfl rfl rfl (by kernel_rfl) (Nat.le_of_ble_eq_true rfl) rfl ?_) | (refine at_store hS 3 rfl rfl rfl rfl rfl (by kernel_rfl) (Nat.le_of_ble_eq_true rfl) rfl ?_) | (refine at_store hS 4 rfl rfl rfl rfl rfl (by kernel_rfl) (Nat.le_of_ble_eq_true rfl) rfl ?_) | (refine at_store hS 5 rfl rfl rfl rfl rfl (by kernel_rfl) (Nat.le_of_ble_eq_true rfl) rfl ?_)); clear hF hS; intro w hS; ((try dsimp only [putL, List.set] at hS); have hF := hS.facts; dsimp only [Facts] at hF)) | ((go_at_call 7); (refine (give_calls _ s _ _ _ (hS.rd 2 rfl) hc hcc hl).mono ?_); rintro e w ⟨A1, c1, rfl, hl1, hc1, hr1, hb1⟩; have hT := hS.callRo hb1 hr1; clear hF hS hb1 hr1; have hS := hT; clear hT; (try simp only [errV]); have hF := hS.facts; dsimp only [Facts] at hF) | (go_at_call 8; (refine (big_calls _ s _ _ _ (hS.rd 3 rfl) hc hcc).mono ?_); rintro e w ⟨rfl, hb⟩; have hT := hS.call hb; clear hF hS hb; have hS := hT; clear hT; have hF := hS.facts; dsimp only [Facts] at hF) | (go_at_call 10; (refine (sure_calls _ (HG.out.below hS.below)).mono ?_); rintro e w ⟨rfl, hb⟩; have hT := hS.call hb; clear hF hS hb; have hS := hT; clear hT; have hF := hS.facts; dsimp only [Facts] at hF))
  exact HR.out _ _ ⟨rfl, hS.below⟩
set_option maxRecDepth 10000 in
set_option maxHeartbeats 4000000 in
theorem cas_y (ok oka okb : Nat → Prop) (s : Sec) (x y : List UInt8) (A Ax Ay : Option Addr) (c cx cy : Nat) (ca cb : Int) (na nb ta tb : Int) (w : World) (hg : EVar w)
    (hr : Rd verK ok w A s.l) (hc : s.l.length ≤ c) (hcc : c ≤ maxCap) (hl : s.l.length * 48 ≤ 140737488355328) (hrx : Rd u8 oka w Ax x) (hcx : x.length ≤ cx) (hccx : cx ≤ maxCap) (hry : Rd u8 okb w Ay y) (hcy : y.length ≤ cy) (hccy : cy ≤ maxCap) (h0 : s.big = false) (h1 : decide ((100 : Int) < (x.length : Int)) = false) (h2 : decide ((100 : Int) < (y.length : Int)) = true) :
    Calls Tryd.prog 3 #[.agg #[.slice A s.l.length c, .int .u32 (s.last.toNat : Int), .int .i64 s.mx], .agg #[.slice Ax x.length cx, .int .i64 ca, .int .u32 na, .int .u64 ta], .agg #[.slice Ay y.length cy, .int .i64 cb, .int .u32 nb, .int .u64 tb]] w fun e w' => e = .returned (.bool true) ∧ Below w.heap.size w w' := by
  refine calls_hide fun R HR => ?_
  have HG := Lib.hid hg
  clear hg
  have hS := ((((St.begin w).arg (Dat.rd verK A s.l) hr).arg (Dat.rd u8 Ay y) hry).arg (Dat.rd u8 Ax x) hrx)
  have hF := hS.facts
  dsimp only [Facts] at hF
  clear hr hrx hry
  revert HR HG
  generalize hw0 : w = w0 at hS ⊢
  clear hw0
  intro HR HG
  have hlx : x.length ≤ 9223372036854775807 := Nat.le_trans hcx hccx
  have hly : y.length ≤ 9223372036854775807 := Nat.le_trans hcy hccy
  have hll : s.l.length ≤ 9223372036854775807 := Nat.le_trans hc hcc
  have hlb : s.last.toNat < 4294967296 := s.last.toNat_lt
  go_enter Tryd.func3, Tryd.ntmps3
  go_wp2_with (first | ((refine at_alloc hS 32 [.slice none 0 0, .int .u32 0, .int .i64 0] (by kernel_rfl) rfl rfl ?_); clear hF hS; intro b w hS; ((try dsimp only [putL, List.set] at hS); have hF := hS.facts; dsimp only [Facts] at hF)) | ((refine at_alloc hS 42 [.int .u32 0, .slice none 0 0, .int .u64 0, .int .i64 0] (by kernel_rfl) rfl rfl ?_); clear hF hS; intro b w hS; ((try dsimp only [putL, List.set] at hS); have hF := hS.facts; dsimp only [Facts] at hF)) | ((refine at_box hS rfl rfl rfl ?_); clear hF hS; intro b w hS; ((try dsimp only [putL, List.set] at hS); have hF := hS.facts; dsimp only [Facts] at hF)) | ((first | (refine at_store hS 0 rfl rfl rfl rfl rfl (by kernel_rfl) (Nat.le_of_ble_eq_true rfl) rfl ?_) | (refine at_store hS 1 rfl rfl rfl rfl rfl (by kernel_rfl) (Nat.le_of_ble_eq_true rfl) rfl ?_) | (refine at_store hS 2 rfl rfl rfl rfl rfl (by kernel_rfl) (Nat.le_of_ble_eq_true rfl) rfl ?_) | (refine at_store hS 3 rfl rfl rfl rfl rfl (by kernel_rfl) (Nat.le_of_ble_eq_true rfl) rfl ?_) | (refine at_store hS 4 rfl rfl rfl rfl rfl (by kernel_rfl) (Nat.le_of_ble_eq_true rfl) rfl ?_) | (refine at_store hS 5 rfl rfl rfl rfl rfl (by kernel_rfl) (Nat.le_of_ble_eq_true rfl) rfl ?_)); clear hF hS; intro w hS; ((try dsimp only [putL, List.set] at hS); have hF := hS.facts; dsimp only [Facts] at hF)) | ((go_at_call 7); (refine (give_calls _ s _ _ _ (hS.rd 2 rfl) hc hcc hl).mono ?_); rintro e w ⟨A1, c1, rfl, hl1, hc1, hr1, hb1⟩; have hT := hS.callRo hb1 hr1; clear hF hS hb1 hr1; have hS := hT; clear hT; (try simp only [errV]); have hF := hS.facts; dsimp only [Facts] at hF) | (go_at_call 8; (refine (big_calls _ s _ _ _ (hS.rd 3 rfl) hc hcc).mono ?_); rintro e w ⟨rfl, hb⟩; have hT := hS.call hb; clear hF hS hb; have hS := hT; clear hT; have hF := hS.facts; dsimp only [Facts] at hF) | (go_at_call 10; (refine (sure_calls _ (HG.out.below hS.below)).mono ?_); rintro e w ⟨rfl, hb⟩; have hT := hS.call hb; clear hF hS hb; have hS := hT; clear hT; have hF := hS.facts; dsimp only [Facts] at hF))
  exact HR.out _ _ ⟨rfl, hS.below⟩
set_option maxRecDepth 10000 in
set_option maxHeartbeats 4000000 in
theorem cas_no (ok oka okb : Nat → Prop) (s : Sec) (x y : List UInt8) (A Ax Ay : Option Addr) (c cx cy : Nat) (ca cb : Int) (na nb ta tb : Int) (w : World) (hg : EVar w)
    (hr : Rd verK ok w A s.l) (hc : s.l.length ≤ c) (hcc : c ≤ maxCap) (hl : s.l.length * 48 ≤ 140737488355328) (hrx : Rd u8 oka w Ax x) (hcx : x.length ≤ cx) (hccx : cx ≤ maxCap) (hry : Rd u8 okb w Ay y) (hcy : y.length ≤ cy) (hccy : cy ≤ maxCap) (h0 : s.big = false) (h1 : decide ((100 : Int) < (x.length : Int)) = false) (h2 : decide ((100 : Int) < (y.length : Int)) = false) (hm : Hid (¬ s.may = true)) :
    Calls Tryd.prog 3 #[.agg #[.slice A s.l.length c, .int .u32 (s.last.toNat : Int), .int .i64 s.mx], .agg #[.slice Ax x.length cx, .int .i64 ca, .int .u32 na, .int .u64 ta], .agg #[.slice Ay y.length cy, .int .i64 cb, .int .u32 nb, .int .u64 tb]] w fun e w' => e = .returned (.bool true) ∧ Below w.heap.size w w' := by
  refine calls_hide fun R HR => ?_
  have HG := Lib.hid hg
  clear hg
  have hS := ((((St.begin w).arg (Dat.rd verK A s.l) hr).arg (Dat.rd u8 Ay y) hry).arg (Dat.rd u8 Ax x) hrx)
  have hF := hS.facts
  dsimp only [Facts] at hF
  clear hr hrx hry
  revert HR HG
  generalize hw0 : w = w0 at hS ⊢
  clear hw0
  intro HR HG
  have hlx : x.length ≤ 9223372036854775807 := Nat.le_trans hcx hccx
  have hly : y.length ≤ 9223372036854775807 := Nat.le_trans hcy hccy
  have hll : s.l.length ≤ 9223372036854775807 := Nat.le_trans hc hcc
  have hlb : s.last.toNat < 4294967296 := s.last.toNat_lt
  go_enter Tryd.func3, Tryd.ntmps3
  go_wp2_with (first | ((refine at_alloc hS 32 [.slice none 0 0, .int .u32 0, .int .i64 0] (by kernel_rfl) rfl rfl ?_); clear hF hS; intro b w hS; ((try dsimp only [putL, List.set] at hS); have hF := hS.facts; dsimp only [Facts] at hF)) | ((refine at_alloc hS 42 [.int .u32 0, .slice none 0 0, .int .u64 0, .int .i64 0] (by kernel_rfl) rfl rfl ?_); clear hF hS; intro b w hS; ((try dsimp only [putL, List.set] at hS); have hF := hS.facts; dsimp only [Facts] at hF)) | ((refine at_box hS rfl rfl rfl ?_); clear hF hS; intro b w hS; ((try dsimp only [putL, List.set] at hS); have hF := hS.facts; dsimp only [Facts] at hF)) | ((first | (refine at_store hS 0 rfl rfl rfl rfl rfl (by kernel_rfl) (Nat.le_of_ble_eq_true rfl) rfl ?_) | (refine at_store hS 1 rfl rfl rfl rfl rfl (by kernel_rfl) (Nat.le_of_ble_eq_true rfl) rfl ?_) | (refine at_store hS 2 rfl rfl rfl rfl rfl (by kernel_rfl) (Nat.le_of_ble_eq_true rfl) rfl ?_) | (refine at_store hS 3 rfl rfl rfl rfl rfl (by kernel_rfl) (Nat.le_of_ble_eq_true rfl) rfl ?_) | (refine at_store hS 4 rfl rfl rfl rfl rfl (by kernel_rfl) (Nat.le_of_ble_eq_true rfl) rfl ?_) | (refine at_store hS 5 rfl rfl rfl rfl rfl (by kernel_rfl) (Nat.le_of_ble_eq_true rfl) rfl ?_)); clear hF hS; intro w hS; ((try dsimp only [putL, List.set] at hS); have hF := hS.facts; dsimp only [Facts] at hF)) | ((go_at_call 7); (refine (give_calls _ s _ _ _ (hS.rd 2 rfl) hc hcc hl).mono ?_); rintro e w ⟨A1, c1, rfl, hl1, hc1, hr1, hb1⟩; have hT := hS.callRo hb1 hr1; clear hF hS hb1 hr1; have hS := hT; clear hT; (try simp only [errV]); have hF := hS.facts; dsimp only [Facts] at hF) | (go_at_call 8; (refine (big_calls _ s _ _ _ (hS.rd 3 rfl) hc hcc).mono ?_); rintro e w ⟨rfl, hb⟩; have hT := hS.call hb; clear hF hS hb; have hS := hT; clear hT; have hF := hS.facts; dsimp only [Facts] at hF) | (go_at_call 9; (refine (check_no _ s _ _ _ hm.out (hS.rd 0 rfl) hl1 hc1).mono ?_); rintro e w ⟨rfl, hb⟩; have hT := hS.call hb; clear hF hS hb; have hS := hT; clear hT; have hF := hS.facts; dsimp only [Facts] at hF) | (go_at_call 10; (refine (sure_calls _ (HG.out.below hS.below)).mono ?_); rintro e w ⟨rfl, hb⟩; have hT := hS.call hb; clear hF hS hb; have hS := hT; clear hT; have hF := hS.facts; dsimp only [Facts] at hF))
  exact HR.out _ _ ⟨rfl, hS.below⟩
set_option maxRecDepth 10000 in
set_option maxHeartbeats 4000000 in
theorem cas_late (ok oka okb : Nat → Prop) (s : Sec) (x y : List UInt8) (A Ax Ay : Option Addr) (c cx cy : Nat) (ca cb : Int) (na nb ta tb : Int) (w : World) (hg : EVar w)
    (hr : Rd verK ok w A s.l) (hc : s.l.length ≤ c) (hcc : c ≤ maxCap) (hl : s.l.length * 48 ≤ 140737488355328) (hrx : Rd u8 oka w Ax x) (hcx : x.length ≤ cx) (hccx : cx ≤ maxCap) (hry : Rd u8 okb w Ay y) (hcy : y.length ≤ cy) (hccy : cy ≤ maxCap) (h0 : s.big = false) (h1 : decide ((100 : Int) < (x.length : Int)) = false) (h2 : decide ((100 : Int) < (y.length : Int)) = false) (hm : Hid (s.may = true)) (h3 : decide ((2147483648 : Int) < (s.last.toNat : Int)) = true) :
    Calls Tryd.prog 3 #[.agg #[.slice A s.l.length c, .int .u32 (s.last.toNat : Int), .int .i64 s.mx], .agg #[.slice Ax x.length cx, .int .i64 ca, .int .u32 na, .int .u64 ta], .agg #[.slice Ay y.length cy, .int .i64 cb, .int .u32 nb, .int .u64 tb]] w fun e w' => e = .returned (.bool true) ∧ Below w.heap.size w w' := by
  refine calls_hide fun R HR => ?_
  have HG := Lib.hid hg
  clear hg
  have hS := ((((St.begin w).arg (Dat.rd verK A s.l) hr).arg (Dat.rd u8 Ay y) hry).arg (Dat.rd u8 Ax x) hrx)
  have hF := hS.facts
  dsimp only [Facts] at hF
  clear hr hrx hry
  revert HR HG
  generalize hw0 : w = w0 at hS ⊢
  clear hw0
  intro HR HG
  have hlx : x.length ≤ 9223372036854775807 := Nat.le_trans hcx hccx
  have hly : y.length ≤ 9223372036854775807 := Nat.le_trans hcy hccy
  have hll : s.l.length ≤ 9223372036854775807 := Nat.le_trans hc hcc
  have hlb : s.last.toNat < 4294967296 := s.last.toNat_lt
  go_enter Tryd.func3, Tryd.ntmps3
  go_wp2_with (first | ((refine at_alloc hS 32 [.slice none 0 0, .int .u32 0, .int .i64 0] (by kernel_rfl) rfl rfl ?_); clear hF hS; intro b w hS; ((try dsimp only [putL, List.set] at hS); have hF := hS.facts; dsimp only [Facts] at hF)) | ((refine at_alloc hS 42 [.int .u32 0, .slice none 0 0, .int .u64 0, .int .i64 0] (by kernel_rfl) rfl rfl ?_); clear hF hS; intro b w hS; ((try dsimp only [putL, List.set] at hS); have hF := hS.facts; dsimp only [Facts] at hF)) | ((refine at_box hS rfl rfl rfl ?_); clear hF hS; intro b w hS; ((try dsimp only [putL, List.set] at hS); have hF := hS.facts; dsimp only [Facts] at hF)) | ((first | (refine at_store hS 0 rfl rfl rfl rfl rfl (by kernel_rfl) (Nat.le_of_ble_eq_true rfl) rfl ?_) | (refine at_store hS 1 rfl rfl rfl rfl rfl (by kernel_rfl) (Nat.le_of_ble_eq_true rfl) rfl ?_) | (refine at_store hS 2 rfl rfl rfl rfl rfl (by kernel_rfl) (Nat.le_of_ble_eq_true rfl) rfl ?_) | (refine at_store hS 3 rfl rfl rfl rfl rfl (by kernel_rfl) (Nat.le_of_ble_eq_true rfl) rfl ?_) | (refine at_store hS 4 rfl rfl rfl rfl rfl (by kernel_rfl) (Nat.le_of_ble_eq_true rfl) rfl ?_) | (refine at_store hS 5 rfl rfl rfl rfl rfl (by kernel_rfl) (Nat.le_of_ble_eq_true rfl) rfl ?_)); clear hF hS; intro w hS; ((try dsimp only [putL, List.set] at hS); have hF := hS.facts; dsimp only [Facts] at hF)) | ((go_at_call 7); (refine (give_calls _ s _ _ _ (hS.rd 2 rfl) hc hcc hl).mono ?_); rintro e w ⟨A1, c1, rfl, hl1, hc1, hr1, hb1⟩; have hT := hS.callRo hb1 hr1; clear hF hS hb1 hr1; have hS := hT; clear hT; (try simp only [errV]); have hF := hS.facts; dsimp only [Facts] at hF) | (go_at_call 8; (refine (big_calls _ s _ _ _ (hS.rd 3 rfl) hc hcc).mono ?_); rintro e w ⟨rfl, hb⟩; have hT := hS.call hb; clear hF hS hb; have hS := hT; clear hT; have hF := hS.facts; dsimp only [Facts] at hF) | (go_at_call 9; (refine (check_yes _ s _ _ _ hm.out (hS.rd 0 rfl) hl1 hc1).mono ?_); rintro e w ⟨rfl, hb⟩; have hT := hS.call hb; clear hF hS hb; have hS := hT; clear hT; have hF := hS.facts; dsimp only [Facts] at hF) | (go_at_call 10; (refine (sure_calls _ (HG.out.below hS.below)).mono ?_); rintro e w ⟨rfl, hb⟩; have hT := hS.call hb; clear hF hS hb; have hS := hT; clear hT; have hF := hS.facts; dsimp only [Facts] at hF))
  exact HR.out _ _ ⟨rfl, hS.below⟩
set_option maxRecDepth 10000 in
set_option maxHeartbeats 4000000 in
theorem cas_yes (ok oka okb : Nat → Prop) (s : Sec) (x y : List UInt8) (A Ax Ay : Option Addr) (c cx cy : Nat) (ca cb : Int) (na nb ta tb : Int) (w : World) (hg : EVar w)
    (hr : Rd verK ok w A s.l) (hc : s.l.length ≤ c) (hcc : c ≤ maxCap) (hl : s.l.length * 48 ≤ 140737488355328) (hrx : Rd u8 oka w Ax x) (hcx : x.length ≤ cx) (hccx : cx ≤ maxCap) (hry : Rd u8 okb w Ay y) (hcy : y.length ≤ cy) (hccy : cy ≤ maxCap) (h0 : s.big = false) (h1 : decide ((100 : Int) < (x.length : Int)) = false) (h2 : decide ((100 : Int) < (y.length : Int)) = false) (hm : Hid (s.may = true)) (h3 : decide ((2147483648 : Int) < (s.last.toNat : Int)) = false) :
    Calls Tryd.prog 3 #[.agg #[.slice A s.l.length c, .int .u32 (s.last.toNat : Int), .int .i64 s.mx], .agg #[.slice Ax x.length cx, .int .i64 ca, .int .u32 na, .int .u64 ta], .agg #[.slice Ay y.length cy, .int .i64 cb, .int .u32 nb, .int .u64 tb]] w fun e w' => e = .returned (.bool true) ∧ Below w.heap.size w w' := by
  refine calls_hide fun R HR => ?_
  have HG := Lib.hid hg
  clear hg
  have hS := ((((St.begin w).arg (Dat.rd verK A s.l) hr).arg (Dat.rd u8 Ay y) hry).arg (Dat.rd u8 Ax x) hrx)
  have hF := hS.facts
  dsimp only [Facts] at hF
  clear hr hrx hry
  revert HR HG
  generalize hw0 : w = w0 at hS ⊢
  clear hw0
  intro HR HG
  have hlx : x.length ≤ 9223372036854775807 := Nat.le_trans hcx hccx
  have hly : y.length ≤ 9223372036854775807 := Nat.le_trans hcy hccy
  have hll : s.l.length ≤ 9223372036854775807 := Nat.le_trans hc hcc
  have hlb : s.last.toNat < 4294967296 := s.last.toNat_lt
  obtain ⟨e1, e2, e3, e4, e5⟩ := Sec.cas_two hm.out (x := x) (y := y) (by have := of_decide_eq_false h1; omega) (by have := of_decide_eq_false h2; omega) (by have := of_decide_eq_false h3; omega)
  have H1 := Lib.hid e1
  have H2 := Lib.hid e2
  have H3 := Lib.hid e3
  have H4 := Lib.hid e4
  have H5 := Lib.hid e5
  have hi : I64 (s.last.toNat : Int) := ⟨by omega, by omega⟩
  have hm1 : I64 (-1) := ⟨by omega, by omega⟩
  have hl3 : s.last.toNat ≤ 2147483648 := (by have := of_decide_eq_false h3; omega)
  clear e1 e2 e3 e4 e5
  go_enter Tryd.func3, Tryd.ntmps3
  go_wp2_with (first | ((refine at_alloc hS 32 [.slice none 0 0, .int .u32 0, .int .i64 0] (by kernel_rfl) rfl rfl ?_); clear hF hS; intro b w hS; ((try dsimp only [putL, List.set] at hS); have hF := hS.facts; dsimp only [Facts] at hF)) | ((refine at_alloc hS 42 [.int .u32 0, .slice none 0 0, .int .u64 0, .int .i64 0] (by kernel_rfl) rfl rfl ?_); clear hF hS; intro b w hS; ((try dsimp only [putL, List.set] at hS); have hF := hS.facts; dsimp only [Facts] at hF)) | ((refine at_box hS rfl rfl rfl ?_); clear hF hS; intro b w hS; ((try dsimp only [putL, List.set] at hS); have hF := hS.facts; dsimp only [Facts] at hF)) | ((first | (refine at_store hS 0 rfl rfl rfl rfl rfl (by kernel_rfl) (Nat.le_of_ble_eq_true rfl) rfl ?_) | (refine at_store hS 1 rfl rfl rfl rfl rfl (by kernel_rfl) (Nat.le_of_ble_eq_true rfl) rfl ?_) | (refine at_store hS 2 rfl rfl rfl rfl rfl (by kernel_rfl) (Nat.le_of_ble_eq_true rfl) rfl ?_) | (refine at_store hS 3 rfl rfl rfl rfl rfl (by kernel_rfl) (Nat.le_of_ble_eq_true rfl) rfl ?_) | (refine at_store hS 4 rfl rfl rfl rfl rfl (by kernel_rfl) (Nat.le_of_ble_eq_true rfl) rfl ?_) | (refine at_store hS 5 rfl rfl rfl rfl rfl (by kernel_rfl) (Nat.le_of_ble_eq_true rfl) rfl ?_)); clear hF hS; intro w hS; ((try dsimp only [putL, List.set] at hS); have hF := hS.facts; dsimp only [Facts] at hF)) | ((go_at_call 7); (refine (give_calls _ s _ _ _ (hS.rd 2 rfl) hc hcc hl).mono ?_); rintro e w ⟨A1, c1, rfl, hl1, hc1, hr1, hb1⟩; have hT := hS.callRo hb1 hr1; clear hF hS hb1 hr1; have hS := hT; clear hT; (try simp only [errV]); have hF := hS.facts; dsimp only [Facts] at hF) | (go_at_call 8; (refine (big_calls _ s _ _ _ (hS.rd 3 rfl) hc hcc).mono ?_); rintro e w ⟨rfl, hb⟩; have hT := hS.call hb; clear hF hS hb; have hS := hT; clear hT; have hF := hS.facts; dsimp only [Facts] at hF) | (go_at_call 9; (refine (check_yes _ s _ _ _ hm.out (hS.rd 0 rfl) hl1 hc1).mono ?_); rintro e w ⟨rfl, hb⟩; have hT := hS.call hb; clear hF hS hb; have hS := hT; clear hT; have hF := hS.facts; dsimp only [Facts] at hF) | ((go_at_call_has 11 A1); (refine (put_at s x (s.last.toNat : Int) 1 (s.plus x 1) none H1.out s.l.length x.length _ _ _ 1 _ _ rfl rfl rfl rfl rfl rfl rfl rfl _ _ A1 _ c1 _ _ (hS.rd 0 rfl) hl1 hc1 (hS.rd 1 rfl) hcx hccx hi).mono ?_); rintro e w ⟨A2, c2, rfl, hl2, hc2, hr2, hb2⟩; have hT := hS.callRd hb2 hr2; clear hF hS hb2 hr2; have hS := hT; clear hT; (try simp only [errV]); have hF := hS.facts; dsimp only [Facts] at hF) | ((go_at_call_has 11 (Value.int .i64 (-1))); (refine (put_at (s.plus x 1) y (-1) 1 ((s.plus x 1).plus y 1) none H3.out _ y.length _ _ _ 1 _ _ rfl rfl rfl rfl rfl rfl rfl rfl _ _ A2 _ c2 _ _ (hS.rd 1 rfl) hl2 hc2 (hS.rd 4 rfl) hcy hccy hm1).mono ?_); rintro e w ⟨A4, c4, rfl, hl4, hc4, hr4, hb4⟩; have hT := hS.callRd hb4 hr4; clear hF hS hb4 hr4; have hS := hT; clear hT; (try simp only [errV]); have hF := hS.facts; dsimp only [Facts] at hF) | ((go_at_call_has 11 (Value.int .i64 (s.last.toNat : Int))); (refine (put_at (s.plus x 1) y (s.last.toNat : Int) 1 Sec.zero (some 20) H2.out _ y.length 0 _ _ 1 0 0 rfl rfl rfl rfl rfl rfl rfl rfl _ _ A2 _ c2 _ _ (hS.rd 0 rfl) hl2 hc2 (hS.rd 3 rfl) hcy hccy hi).mono ?_); rintro e w ⟨A3, c3, rfl, hl3, hc3, hr3, hb3⟩; have hT := hS.callRd hb3 hr3; clear hF hS hb3 hr3; have hS := hT; clear hT; (try simp only [errV]); have hF := hS.facts; dsimp only [Facts] at hF) | ((go_at_call 12); (refine (get_at ((s.plus x 1).plus y 1) 0 ⟨s.last + 1 + 1, y, 1, 0⟩ none H4.out _ _ _ 0 rfl rfl rfl rfl ((s.last.toNat : Int) + 2) 1 y.length H5.out rfl rfl 0 rfl _ A4 _ _ (hS.rd 0 rfl) hl4 hc4).mono ?_); rintro e w ⟨A5, c5, rfl, hl5, hc5, hr5, hb5⟩; have hT := hS.callRd hb5 hr5; clear hF hS hb5 hr5; have hS := hT; clear hT; (try simp only [errV]); have hF := hS.facts; dsimp only [Facts] at hF) | (refine at_string hS 0 rfl rfl rfl rfl rfl Tryd.underlying26 Tryd.underlying5 Tryd.underlying9 ?_) | (refine at_string hS 6 rfl rfl rfl rfl rfl Tryd.underlying26 Tryd.underlying5 Tryd.underlying9 ?_) | (go_at_call 13; (refine (num30_hit _ _ (HG.out.below hS.below)).mono ?_); rintro e w ⟨rfl, hb⟩; have hT := hS.call hb; clear hF hS hb; have hS := hT; clear hT; have hF := hS.facts; dsimp only [Facts] at hF) | (go_at_call 10; (refine (sure_calls _ (HG.out.below hS.below)).mono ?_); rintro e w ⟨rfl, hb⟩; have hT := hS.call hb; clear hF hS hb; have hS := hT; clear hT; have hF := hS.facts; dsimp only [Facts] at hF))
  exact HR.out _ _ ⟨rfl, hS.below⟩
end Go.Proofs.YtpdjahejcdmopaaDoor
