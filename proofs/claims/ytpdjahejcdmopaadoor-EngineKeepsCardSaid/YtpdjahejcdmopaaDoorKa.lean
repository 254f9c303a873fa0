/- EngineKeeps: the kinds of its switch, each walked over an opaque frame. -/
import Derived.Test.YtpdjahejcdmopaaDoorKeepP
import Derived.Test.YtpdjahejcdmopaaDoorSure
import Derived.Test.YtpdjahejcdmopaaDoorEngO
import Derived.Test.YtpdjahejcdmopaaDoorW2
namespace Go.Proofs.YtpdjahejcdmopaaDoor
open Go.RowKit
set_option linter.unusedVariables false
set_option linter.unusedSimpArgs false
def strV (d : List UInt8) : Value := .string ⟨d.toArray⟩
theorem undel_at (s : Sec) (n : UInt32) (s' : Sec) (eo : Option Int) (hset : s.setSt n.toNat 0 = (s', eo)) (ln ln' : Nat) (li mi ni li' mi' : Int) (g1 : s.l.length = ln) (g2 : (s.last.toNat : Int) = li) (g3 : s.mx = mi) (g4 : (n.toNat : Int) = ni) (h1 : s'.l.length = ln') (h2 : (s'.last.toNat : Int) = li') (h3 : s'.mx = mi')
    (ok : Nat → Prop) (A : Option Addr) (c : Nat) (w : World) (hr : Rd verK ok w A s.l) (hc : ln ≤ c) (hcc : c ≤ maxCap) :
    Calls Tryd.prog 18 #[.agg #[.slice A ln c, .int .u32 li, .int .i64 mi], .int .u32 ni] w fun e w' => ∃ A' c', e = .returned (.tuple #[.agg #[.slice A' ln' c', .int .u32 li', .int .i64 mi'], errV eo]) ∧ ln' ≤ c' ∧ c' ≤ maxCap ∧ Rd verK (fun k => w.heap.size ≤ k) w' A' s'.l ∧ Below w.heap.size w w' := by
  subst h1; subst h2; subst h3; subst g1; subst g2; subst g3; subst g4
  refine (undel_calls ok s n A c w hr hc hcc).mono fun e w' h => ?_
  rw [hset] at h
  obtain ⟨⟨A', c', q1, q2, q3, q4⟩, hb⟩ := h
  exact ⟨A', c', q1, q2, q3, q4, hb⟩
theorem destroy_at (s : Sec) (n : UInt32) (s' : Sec) (eo : Option Int) (hset : s.setSt n.toNat 2 = (s', eo)) (ln ln' : Nat) (li mi ni li' mi' : Int) (g1 : s.l.length = ln) (g2 : (s.last.toNat : Int) = li) (g3 : s.mx = mi) (g4 : (n.toNat : Int) = ni) (h1 : s'.l.length = ln') (h2 : (s'.last.toNat : Int) = li') (h3 : s'.mx = mi')
    (ok : Nat → Prop) (A : Option Addr) (c : Nat) (w : World) (hr : Rd verK ok w A s.l) (hc : ln ≤ c) (hcc : c ≤ maxCap) :
    Calls Tryd.prog 19 #[.agg #[.slice A ln c, .int .u32 li, .int .i64 mi], .int .u32 ni] w fun e w' => ∃ A' c', e = .returned (.tuple #[.agg #[.slice A' ln' c', .int .u32 li', .int .i64 mi'], errV eo]) ∧ ln' ≤ c' ∧ c' ≤ maxCap ∧ Rd verK (fun k => w.heap.size ≤ k) w' A' s'.l ∧ Below w.heap.size w w' := by
  subst h1; subst h2; subst h3; subst g1; subst g2; subst g3; subst g4
  refine (destroy_calls ok s n A c w hr hc hcc).mono fun e w' h => ?_
  rw [hset] at h
  obtain ⟨⟨A', c', q1, q2, q3, q4⟩, hb⟩ := h
  exact ⟨A', c', q1, q2, q3, q4, hb⟩
noncomputable def keepB2 : Code := (blockOf 2 (Tryd.f5.body.getD .skip)).getD .skip
/-- What lies behind the switch. -/
def AfterB2 (w0 : World) (n k : Nat) (s : Sec) (data : List (List UInt8)) (vA : Value) (b6 b9 b11 b14 : Nat) (c11 : List Value) (A1 : Option Addr) (c1 : Nat) (D : List Dat) (st : List Int) (a' : Act) (w' : World) : Prop :=
  ∃ (data' : List (List UInt8)) (st' : List Int) (s' : Sec) (eo : Option Int) (A' A8' : Option Addr) (c' c8' : Nat) (Lr' : List Bx), Fr a' 280 [(1, vA), (5, .int .i64 n), (6, .pointer (some ⟨b6, 0, none⟩)), (8, .slice A8' data'.length c8'), (9, .pointer (some ⟨b9, 0, none⟩)), (10, .int .i64 k), (14, .pointer (some ⟨b14, 0, none⟩)), (15, errV eo)] ∧
    ((eo = none ∧ Kp n s' data' st') ∨ ((∃ e, eo = some e) ∧ Kp n s data' st')) ∧ data'.length ≤ data.length + 1 ∧ s'.l.length ≤ c' ∧ c' ≤ maxCap ∧ data'.length ≤ c8' ∧ c8' ≤ maxCap ∧ RowIs 9 1 Lr' (.slice A8' data'.length c8') data'.length (data'.map strV) ∧
    St w0 w' (⟨b14, [.slice A' s'.l.length c', .int .u32 (s'.last.toNat : Int), .int .i64 s'.mx], 32⟩ :: ⟨b11, c11, 29⟩ :: ⟨b9, st'.map (Value.int .i64), 60⟩ :: ⟨b6, [.slice A1 s.l.length c1, .int .u32 (s.last.toNat : Int), .int .i64 s.mx], 32⟩ :: Lr')
      (Dat.rd verK A' s'.l :: Dat.rd verK A1 s.l :: D)
/-- What lies ahead of it. -/
structure BeforeB2 (w0 : World) (n k kk : Nat) (x : Ask) (s : Sec) (data : List (List UInt8)) (vA : Value) (b6 b9 b11 b14 : Nat) (A1 A8 Ax : Option Addr) (c1 c8 cx : Nat) (Lr : List Bx) (D : List Dat) (st : List Int) (a : Act) (w : World) : Prop where
  hA : Fr a 280 [(1, vA), (5, .int .i64 n), (6, .pointer (some ⟨b6, 0, none⟩)), (8, .slice A8 data.length c8), (9, .pointer (some ⟨b9, 0, none⟩)), (10, .int .i64 k), (11, .pointer (some ⟨b11, 0, none⟩)), (12, .int .i64 kk), (13, .bool (inW n data.length kk)), (14, .pointer (some ⟨b14, 0, none⟩)), (15, .nilIface), (71, .int .u64 ((x.now.toNat : Int) % 5))]
  hS : St w0 w (⟨b14, [.slice none 0 0, .int .u32 0, .int .i64 0], 32⟩ :: ⟨b11, [.slice Ax x.data.length cx, .int .i64 x.cas, .int .u32 (x.n.toNat : Int), .int .u64 (x.now.toNat : Int)], 29⟩ :: ⟨b9, st.map (Value.int .i64), 60⟩ :: ⟨b6, [.slice A1 s.l.length c1, .int .u32 (s.last.toNat : Int), .int .i64 s.mx], 32⟩ :: Lr) (Dat.rd verK A1 s.l :: Dat.rd u8 Ax x.data :: D)
  hk : Kp n s data st
  hdk : data.length ≤ 39
  hkk : kk ≤ 39
  hdx : x.data.length ≤ 100
  hl1 : s.l.length ≤ c1
  hc1 : c1 ≤ maxCap
  hl8 : data.length ≤ c8
  hc8 : c8 ≤ maxCap
  hlx : x.data.length ≤ cx
  hcx : cx ≤ maxCap
  hrw : RowIs 9 1 Lr (.slice A8 data.length c8) data.length (data.map strV)
section
variable {w0 : World} {n k kk : Nat} {x : Ask} {s : Sec} {data : List (List UInt8)} {vA : Value} {b6 b9 b11 b14 : Nat} {A1 A8 Ax : Option Addr} {c1 c8 cx : Nat} {Lr : List Bx} {D : List Dat} {st : List Int} {a : Act} {w : World} {Q : Exit → Act → World → Prop}
theorem st_map {st : List Int} {j : Nat} {y : Int} (h : st[j]? = some y) : (st.map (Value.int .i64))[j * 1]? = some (.int .i64 y) := by
  rw [Nat.mul_one, List.getElem?_map, h]; rfl
theorem st_map0 {st : List Int} {j : Nat} {y : Int} (h : st[j]? = some y) : (st.map (Value.int .i64))[0 + j * 1]? = some (.int .i64 y) := by
  rw [Nat.zero_add]; exact st_map h
theorem st_put {st : List Int} {j : Nat} (y : Int) : (st.map (Value.int .i64)).set (0 + j * 1) (.int .i64 y) = (st.set j y).map (Value.int .i64) := by
  rw [Nat.zero_add, Nat.mul_one, List.map_set]
set_option maxHeartbeats 1000000 in
theorem keep_k0 (hB : BeforeB2 w0 n k kk x s data vA b6 b9 b11 b14 A1 A8 Ax c1 c8 cx Lr D st a w) (hQ : NoSlot Q) (hq : (x.now.toNat : Int) % 5 = 0)
    (h : ∀ a' w', AfterB2 w0 n k s data vA b6 b9 b11 b14 [.slice Ax x.data.length cx, .int .i64 x.cas, .int .u32 (x.n.toNat : Int), .int .u64 (x.now.toNat : Int)] A1 c1 (Dat.rd u8 Ax x.data :: D) st a' w' → Q .normal a' w') : keepB2.wp Tryd.prog Q a w := by
  obtain ⟨hA, hS, hk, hdk, hkk, hdx, hl1, hc1, hl8, hc8, hlx, hcx, hRW⟩ := hB
  obtain ⟨hn1, hn8⟩ := hk.n1
  have HK := Lib.hid hk
  have HRW := Lib.hid hRW
  clear hk hRW
  unfold keepB2
  conv => arg 2; whnf
  obtain ⟨k1, hk1⟩ : ∃ k1 : Nat, (kk < 1 ∧ k1 = 1) ∨ (1 ≤ kk ∧ k1 = kk) := by
    by_cases hq : kk < 1
    · exact ⟨1, .inl ⟨hq, rfl⟩⟩
    · exact ⟨kk, .inr ⟨by omega, rfl⟩⟩
  obtain ⟨⟨s', eo⟩, hset⟩ : ∃ p, s.setSt k1 1 = p := ⟨_, rfl⟩
  have hni : (((UInt32.ofNat k1).toNat : Nat) : Int) = (k1 : Int) := by rw [UInt32.toNat_ofNat']; omega
  have hset' : s.setSt (UInt32.ofNat k1).toNat 1 = (s', eo) := by
    rw [← hset]; congr 1; omega
  repeat (first | refine c_seq ?_ | refine c_region ?_ | refine c_block ?_ | refine c_yes hA rfl ?_ | refine c_no hA rfl ?_ | refine c_skip ?_ | refine c_exit ?_ | refine c_ret ?_ | refine e_then ?_ | refine e_thenX ?_ | refine e_thenR ?_ | refine e_block ?_ | refine e_blockR ?_ | refine e_blockX ?_ | refine e_blockY rfl ?_)
  ((refine w_ys hA hS (by first | exact y_eql_t rfl rfl rfl (by omega) | exact y_eql_f rfl rfl rfl (by omega)) rfl rfl rfl ?_); clear hA; intro a hA)
  ((refine w_ys hA hS (y_assign rfl rfl) rfl rfl rfl ?_); clear hA; intro a hA)
  refine w_nil ?_
  repeat (first | refine c_seq ?_ | refine c_region ?_ | refine c_block ?_ | refine c_yes hA rfl ?_ | refine c_no hA rfl ?_ | refine c_skip ?_ | refine c_exit ?_ | refine c_ret ?_ | refine e_then ?_ | refine e_thenX ?_ | refine e_thenR ?_ | refine e_block ?_ | refine e_blockR ?_ | refine e_blockX ?_ | refine e_blockY rfl ?_)
  ((refine w_ys hA hS (by first | exact y_boxN 0 rfl rfl rfl Tryd.underlying32 (by rfl) sz32 (by rfl) | exact y_boxN 1 rfl rfl rfl Tryd.underlying32 (by rfl) sz32 (by rfl) | exact y_boxN 2 rfl rfl rfl Tryd.underlying32 (by rfl) sz32 (by rfl) | exact y_boxN 3 rfl rfl rfl Tryd.underlying32 (by rfl) sz32 (by rfl) | exact y_boxN 4 rfl rfl rfl Tryd.underlying32 (by rfl) sz32 (by rfl) | exact y_boxN 5 rfl rfl rfl Tryd.underlying32 (by rfl) sz32 (by rfl)) rfl rfl rfl ?_); clear hA; intro a hA)
  ((refine w_ys hA hS (y_move rfl rfl) rfl rfl rfl ?_); clear hA; intro a hA)
  ((refine w_ys hA hS (y_max (r := (k1 : Int)) rfl rfl rfl (by split <;> omega)) rfl rfl rfl ?_); clear hA; intro a hA)
  ((refine w_ys hA hS (y_conv rfl rfl Tryd.underlying3 Tryd.underlying23 (by simp only [min_u32, max_u32]; omega) (by simp only [min_u32, max_u32]; omega)) rfl rfl rfl ?_); clear hA; intro a hA)
  ((refine w_call hA (f := 16) rfl rfl rfl rfl rfl Tryd.func16 (by kernel_rfl) rfl ?_); (refine (del_at s (UInt32.ofNat k1) _ _ hset' _ _ _ _ _ _ _ rfl rfl rfl hni rfl rfl rfl _ _ _ _ (hS.rd 0 rfl) hl1 hc1).mono ?_); rintro e w ⟨At, ct, rfl, hlt, hct, hrt, hbt⟩; refine ⟨_, rfl, ?_⟩; clear hA; intro a hA; (try dsimp only [errV, secV] at hA); have hT := hS.callRd hbt hrt; clear hS hbt hrt; have hS := hT; clear hT)
  ((refine w_ys hA hS (y_move rfl rfl) rfl rfl rfl ?_); clear hA; intro a hA)
  ((refine w_ys hA hS (y_extract rfl rfl rfl) rfl rfl rfl ?_); clear hA; intro a hA)
  ((refine w_ys hA hS (y_extract rfl rfl rfl) rfl rfl rfl ?_); clear hA; intro a hA)
  ((first | (refine w_store hA hS 0 rfl rfl rfl rfl rfl rfl rfl rfl sz32 rfl (Nat.le_of_ble_eq_true rfl) ?_) | (refine w_store hA hS 1 rfl rfl rfl rfl rfl rfl rfl rfl sz32 rfl (Nat.le_of_ble_eq_true rfl) ?_) | (refine w_store hA hS 2 rfl rfl rfl rfl rfl rfl rfl rfl sz32 rfl (Nat.le_of_ble_eq_true rfl) ?_) | (refine w_store hA hS 3 rfl rfl rfl rfl rfl rfl rfl rfl sz32 rfl (Nat.le_of_ble_eq_true rfl) ?_) | (refine w_store hA hS 4 rfl rfl rfl rfl rfl rfl rfl rfl sz32 rfl (Nat.le_of_ble_eq_true rfl) ?_) | (refine w_store hA hS 5 rfl rfl rfl rfl rfl rfl rfl rfl sz32 rfl (Nat.le_of_ble_eq_true rfl) ?_)); clear hS; intro w hS; (try dsimp only [putL, List.set] at hS))
  ((refine w_ys hA hS (y_assign rfl rfl) rfl rfl rfl ?_); clear hA; intro a hA)
  refine w_nil ?_
  refine e_then ?_
  refine c_cut (fun a' w' => w' = w ∧ Fr a' 280 [(1, vA), (5, .int .i64 n), (6, .pointer (some ⟨b6, 0, none⟩)), (8, .slice A8 data.length c8), (9, .pointer (some ⟨b9, 0, none⟩)), (10, .int .i64 k), (12, .int .i64 k1), (13, .bool (inW n data.length k1)), (14, .pointer (some ⟨b14, 0, none⟩)), (15, errV eo)]) ?_ ?_
  · rcases hk1 with ⟨hlt1, hk1⟩ | ⟨hge, hk1⟩
    · subst hk1
      by_cases q2 : 1 ≤ data.length
      · by_cases q3 : data.length < 1 + n
        · have HW : inW n data.length 1 = true := decide_eq_true ⟨by omega, q2, q3⟩
          repeat (first | refine c_seq ?_ | refine c_region ?_ | refine c_block ?_ | refine c_yes hA rfl ?_ | refine c_no hA rfl ?_ | refine c_skip ?_ | refine c_exit ?_ | refine c_ret ?_ | refine e_then ?_ | refine e_thenX ?_ | refine e_thenR ?_ | refine e_block ?_ | refine e_blockR ?_ | refine e_blockX ?_ | refine e_blockY rfl ?_)
          ((refine w_ys hA hS (y_move rfl rfl) rfl rfl rfl ?_); clear hA; intro a hA)
          ((refine w_ys hA hS (by first | exact y_lss_t rfl rfl rfl (by omega) | exact y_lss_f rfl rfl rfl (by omega)) rfl rfl rfl ?_); clear hA; intro a hA)
          refine w_nil ?_
          repeat (first | refine c_seq ?_ | refine c_region ?_ | refine c_block ?_ | refine c_yes hA rfl ?_ | refine c_no hA rfl ?_ | refine c_skip ?_ | refine c_exit ?_ | refine c_ret ?_ | refine e_then ?_ | refine e_thenX ?_ | refine e_thenR ?_ | refine e_block ?_ | refine e_blockR ?_ | refine e_blockX ?_ | refine e_blockY rfl ?_)
          ((refine w_ys hA hS (y_move rfl rfl) rfl rfl rfl ?_); clear hA; intro a hA)
          ((refine w_ys hA hS (y_len rfl rfl Tryd.underlying59) rfl rfl rfl ?_); clear hA; intro a hA)
          ((refine w_ys hA hS (by first | exact y_geq_t rfl rfl rfl (by omega) | exact y_geq_f rfl rfl rfl (by omega)) rfl rfl rfl ?_); clear hA; intro a hA)
          ((refine w_ys hA hS (y_move rfl rfl) rfl rfl rfl ?_); clear hA; intro a hA)
          (first | ((refine w_skip hA rfl rfl rfl ?_); clear hA; intro a hA) | ((refine w_ys hA hS (y_move rfl rfl) rfl rfl rfl ?_); clear hA; intro a hA))
          (first | ((refine w_skip hA rfl rfl rfl ?_); clear hA; intro a hA) | ((refine w_ys hA hS (y_len rfl rfl Tryd.underlying59) rfl rfl rfl ?_); clear hA; intro a hA))
          (first | ((refine w_skip hA rfl rfl rfl ?_); clear hA; intro a hA) | ((refine w_ys hA hS (y_move rfl rfl) rfl rfl rfl ?_); clear hA; intro a hA))
          (first | ((refine w_skip hA rfl rfl rfl ?_); clear hA; intro a hA) | ((refine w_ys hA hS (y_sub rfl rfl rfl (by rfl) (by simp only [min_i64, max_i64]; omega) (by simp only [min_i64, max_i64]; omega)) rfl rfl rfl ?_); clear hA; intro a hA))
          (first | ((refine w_skip hA rfl rfl rfl ?_); clear hA; intro a hA) | ((refine w_ys hA hS (by first | exact y_gtr_t rfl rfl rfl (by omega) | exact y_gtr_f rfl rfl rfl (by omega)) rfl rfl rfl ?_); clear hA; intro a hA))
          ((refine w_ys hA hS (by first | exact y_pick_t rfl rfl rfl | exact y_pick_f rfl rfl rfl) rfl rfl rfl ?_); clear hA; intro a hA)
          ((refine w_ys hA hS (y_assign rfl rfl) rfl rfl rfl ?_); clear hA; intro a hA)
          refine w_nil ?_
          repeat (first | refine c_seq ?_ | refine c_region ?_ | refine c_block ?_ | refine c_yes hA rfl ?_ | refine c_no hA rfl ?_ | refine c_skip ?_ | refine c_exit ?_ | refine c_ret ?_ | refine e_then ?_ | refine e_thenX ?_ | refine e_thenR ?_ | refine e_block ?_ | refine e_blockR ?_ | refine e_blockX ?_ | refine e_blockY rfl ?_)
          ((refine w_ys hA hS (y_assign rfl rfl) rfl rfl rfl ?_); clear hA; intro a hA)
          refine w_nil ?_
          repeat (first | refine c_seq ?_ | refine c_region ?_ | refine c_block ?_ | refine c_yes hA rfl ?_ | refine c_no hA rfl ?_ | refine c_skip ?_ | refine c_exit ?_ | refine c_ret ?_ | refine e_then ?_ | refine e_thenX ?_ | refine e_thenR ?_ | refine e_block ?_ | refine e_blockR ?_ | refine e_blockX ?_ | refine e_blockY rfl ?_)
          exact ⟨rfl, by rw [HW]; exact hA.keep [1, 5, 6, 8, 9, 10, 12, 13, 14, 15]⟩
        · have HW : inW n data.length 1 = false := decide_eq_false (fun h => q3 h.2.2)
          repeat (first | refine c_seq ?_ | refine c_region ?_ | refine c_block ?_ | refine c_yes hA rfl ?_ | refine c_no hA rfl ?_ | refine c_skip ?_ | refine c_exit ?_ | refine c_ret ?_ | refine e_then ?_ | refine e_thenX ?_ | refine e_thenR ?_ | refine e_block ?_ | refine e_blockR ?_ | refine e_blockX ?_ | refine e_blockY rfl ?_)
          ((refine w_ys hA hS (y_move rfl rfl) rfl rfl rfl ?_); clear hA; intro a hA)
          ((refine w_ys hA hS (by first | exact y_lss_t rfl rfl rfl (by omega) | exact y_lss_f rfl rfl rfl (by omega)) rfl rfl rfl ?_); clear hA; intro a hA)
          refine w_nil ?_
          repeat (first | refine c_seq ?_ | refine c_region ?_ | refine c_block ?_ | refine c_yes hA rfl ?_ | refine c_no hA rfl ?_ | refine c_skip ?_ | refine c_exit ?_ | refine c_ret ?_ | refine e_then ?_ | refine e_thenX ?_ | refine e_thenR ?_ | refine e_block ?_ | refine e_blockR ?_ | refine e_blockX ?_ | refine e_blockY rfl ?_)
          ((refine w_ys hA hS (y_move rfl rfl) rfl rfl rfl ?_); clear hA; intro a hA)
          ((refine w_ys hA hS (y_len rfl rfl Tryd.underlying59) rfl rfl rfl ?_); clear hA; intro a hA)
          ((refine w_ys hA hS (by first | exact y_geq_t rfl rfl rfl (by omega) | exact y_geq_f rfl rfl rfl (by omega)) rfl rfl rfl ?_); clear hA; intro a hA)
          ((refine w_ys hA hS (y_move rfl rfl) rfl rfl rfl ?_); clear hA; intro a hA)
          (first | ((refine w_skip hA rfl rfl rfl ?_); clear hA; intro a hA) | ((refine w_ys hA hS (y_move rfl rfl) rfl rfl rfl ?_); clear hA; intro a hA))
          (first | ((refine w_skip hA rfl rfl rfl ?_); clear hA; intro a hA) | ((refine w_ys hA hS (y_len rfl rfl Tryd.underlying59) rfl rfl rfl ?_); clear hA; intro a hA))
          (first | ((refine w_skip hA rfl rfl rfl ?_); clear hA; intro a hA) | ((refine w_ys hA hS (y_move rfl rfl) rfl rfl rfl ?_); clear hA; intro a hA))
          (first | ((refine w_skip hA rfl rfl rfl ?_); clear hA; intro a hA) | ((refine w_ys hA hS (y_sub rfl rfl rfl (by rfl) (by simp only [min_i64, max_i64]; omega) (by simp only [min_i64, max_i64]; omega)) rfl rfl rfl ?_); clear hA; intro a hA))
          (first | ((refine w_skip hA rfl rfl rfl ?_); clear hA; intro a hA) | ((refine w_ys hA hS (by first | exact y_gtr_t rfl rfl rfl (by omega) | exact y_gtr_f rfl rfl rfl (by omega)) rfl rfl rfl ?_); clear hA; intro a hA))
          ((refine w_ys hA hS (by first | exact y_pick_t rfl rfl rfl | exact y_pick_f rfl rfl rfl) rfl rfl rfl ?_); clear hA; intro a hA)
          ((refine w_ys hA hS (y_assign rfl rfl) rfl rfl rfl ?_); clear hA; intro a hA)
          refine w_nil ?_
          repeat (first | refine c_seq ?_ | refine c_region ?_ | refine c_block ?_ | refine c_yes hA rfl ?_ | refine c_no hA rfl ?_ | refine c_skip ?_ | refine c_exit ?_ | refine c_ret ?_ | refine e_then ?_ | refine e_thenX ?_ | refine e_thenR ?_ | refine e_block ?_ | refine e_blockR ?_ | refine e_blockX ?_ | refine e_blockY rfl ?_)
          ((refine w_ys hA hS (y_assign rfl rfl) rfl rfl rfl ?_); clear hA; intro a hA)
          refine w_nil ?_
          repeat (first | refine c_seq ?_ | refine c_region ?_ | refine c_block ?_ | refine c_yes hA rfl ?_ | refine c_no hA rfl ?_ | refine c_skip ?_ | refine c_exit ?_ | refine c_ret ?_ | refine e_then ?_ | refine e_thenX ?_ | refine e_thenR ?_ | refine e_block ?_ | refine e_blockR ?_ | refine e_blockX ?_ | refine e_blockY rfl ?_)
          exact ⟨rfl, by rw [HW]; exact hA.keep [1, 5, 6, 8, 9, 10, 12, 13, 14, 15]⟩
      · have HW : inW n data.length 1 = false := decide_eq_false (fun h => q2 h.2.1)
        repeat (first | refine c_seq ?_ | refine c_region ?_ | refine c_block ?_ | refine c_yes hA rfl ?_ | refine c_no hA rfl ?_ | refine c_skip ?_ | refine c_exit ?_ | refine c_ret ?_ | refine e_then ?_ | refine e_thenX ?_ | refine e_thenR ?_ | refine e_block ?_ | refine e_blockR ?_ | refine e_blockX ?_ | refine e_blockY rfl ?_)
        ((refine w_ys hA hS (y_move rfl rfl) rfl rfl rfl ?_); clear hA; intro a hA)
        ((refine w_ys hA hS (by first | exact y_lss_t rfl rfl rfl (by omega) | exact y_lss_f rfl rfl rfl (by omega)) rfl rfl rfl ?_); clear hA; intro a hA)
        refine w_nil ?_
        repeat (first | refine c_seq ?_ | refine c_region ?_ | refine c_block ?_ | refine c_yes hA rfl ?_ | refine c_no hA rfl ?_ | refine c_skip ?_ | refine c_exit ?_ | refine c_ret ?_ | refine e_then ?_ | refine e_thenX ?_ | refine e_thenR ?_ | refine e_block ?_ | refine e_blockR ?_ | refine e_blockX ?_ | refine e_blockY rfl ?_)
        ((refine w_ys hA hS (y_move rfl rfl) rfl rfl rfl ?_); clear hA; intro a hA)
        ((refine w_ys hA hS (y_len rfl rfl Tryd.underlying59) rfl rfl rfl ?_); clear hA; intro a hA)
        ((refine w_ys hA hS (by first | exact y_geq_t rfl rfl rfl (by omega) | exact y_geq_f rfl rfl rfl (by omega)) rfl rfl rfl ?_); clear hA; intro a hA)
        ((refine w_ys hA hS (y_move rfl rfl) rfl rfl rfl ?_); clear hA; intro a hA)
        (first | ((refine w_skip hA rfl rfl rfl ?_); clear hA; intro a hA) | ((refine w_ys hA hS (y_move rfl rfl) rfl rfl rfl ?_); clear hA; intro a hA))
        (first | ((refine w_skip hA rfl rfl rfl ?_); clear hA; intro a hA) | ((refine w_ys hA hS (y_len rfl rfl Tryd.underlying59) rfl rfl rfl ?_); clear hA; intro a hA))
        (first | ((refine w_skip hA rfl rfl rfl ?_); clear hA; intro a hA) | ((refine w_ys hA hS (y_move rfl rfl) rfl rfl rfl ?_); clear hA; intro a hA))
        (first | ((refine w_skip hA rfl rfl rfl ?_); clear hA; intro a hA) | ((refine w_ys hA hS (y_sub rfl rfl rfl (by rfl) (by simp only [min_i64, max_i64]; omega) (by simp only [min_i64, max_i64]; omega)) rfl rfl rfl ?_); clear hA; intro a hA))
        (first | ((refine w_skip hA rfl rfl rfl ?_); clear hA; intro a hA) | ((refine w_ys hA hS (by first | exact y_gtr_t rfl rfl rfl (by omega) | exact y_gtr_f rfl rfl rfl (by omega)) rfl rfl rfl ?_); clear hA; intro a hA))
        ((refine w_ys hA hS (by first | exact y_pick_t rfl rfl rfl | exact y_pick_f rfl rfl rfl) rfl rfl rfl ?_); clear hA; intro a hA)
        ((refine w_ys hA hS (y_assign rfl rfl) rfl rfl rfl ?_); clear hA; intro a hA)
        refine w_nil ?_
        repeat (first | refine c_seq ?_ | refine c_region ?_ | refine c_block ?_ | refine c_yes hA rfl ?_ | refine c_no hA rfl ?_ | refine c_skip ?_ | refine c_exit ?_ | refine c_ret ?_ | refine e_then ?_ | refine e_thenX ?_ | refine e_thenR ?_ | refine e_block ?_ | refine e_blockR ?_ | refine e_blockX ?_ | refine e_blockY rfl ?_)
        ((refine w_ys hA hS (y_assign rfl rfl) rfl rfl rfl ?_); clear hA; intro a hA)
        refine w_nil ?_
        repeat (first | refine c_seq ?_ | refine c_region ?_ | refine c_block ?_ | refine c_yes hA rfl ?_ | refine c_no hA rfl ?_ | refine c_skip ?_ | refine c_exit ?_ | refine c_ret ?_ | refine e_then ?_ | refine e_thenX ?_ | refine e_thenR ?_ | refine e_block ?_ | refine e_blockR ?_ | refine e_blockX ?_ | refine e_blockY rfl ?_)
        exact ⟨rfl, by rw [HW]; exact hA.keep [1, 5, 6, 8, 9, 10, 12, 13, 14, 15]⟩
    · subst hk1
      repeat (first | refine c_seq ?_ | refine c_region ?_ | refine c_block ?_ | refine c_yes hA rfl ?_ | refine c_no hA rfl ?_ | refine c_skip ?_ | refine c_exit ?_ | refine c_ret ?_ | refine e_then ?_ | refine e_thenX ?_ | refine e_thenR ?_ | refine e_block ?_ | refine e_blockR ?_ | refine e_blockX ?_ | refine e_blockY rfl ?_)
      ((refine w_ys hA hS (y_move rfl rfl) rfl rfl rfl ?_); clear hA; intro a hA)
      ((refine w_ys hA hS (by first | exact y_lss_t rfl rfl rfl (by omega) | exact y_lss_f rfl rfl rfl (by omega)) rfl rfl rfl ?_); clear hA; intro a hA)
      refine w_nil ?_
      repeat (first | refine c_seq ?_ | refine c_region ?_ | refine c_block ?_ | refine c_yes hA rfl ?_ | refine c_no hA rfl ?_ | refine c_skip ?_ | refine c_exit ?_ | refine c_ret ?_ | refine e_then ?_ | refine e_thenX ?_ | refine e_thenR ?_ | refine e_block ?_ | refine e_blockR ?_ | refine e_blockX ?_ | refine e_blockY rfl ?_)
      exact ⟨rfl, hA.keep [1, 5, 6, 8, 9, 10, 12, 13, 14, 15]⟩
  · clear hA
    rintro a _ ⟨rfl, hA⟩
    obtain ⟨j, hj⟩ : ∃ j, k1 = j + 1 := ⟨k1 - 1, by omega⟩
    have hkj : k1 - 1 = j := by omega
    have hstl := HK.out.stl
    have hj64 : j < 64 := by omega
    by_cases hin : inW n data.length k1 = true
    · obtain ⟨y, hy⟩ : ∃ y, st[j]? = some y := ⟨_, List.getElem?_eq_getElem (by omega)⟩
      rw [hin] at hA
      by_cases hy2 : y = 2
      · subst hy2
        have e1 := HK.out.set_gone hin (by rw [hkj]; exact hy) (t := 1) (by omega)
        rw [hset] at e1
        obtain ⟨rfl, rfl⟩ := Prod.mk.inj e1
        have hA' := hA
        try dsimp only [errV] at hA'
        clear hA
        have hA := hA'
        clear hA'
        repeat (first | refine c_seq ?_ | refine c_region ?_ | refine c_block ?_ | refine c_yes hA rfl ?_ | refine c_no hA rfl ?_ | refine c_skip ?_ | refine c_exit ?_ | refine c_ret ?_ | refine e_then ?_ | refine e_thenX ?_ | refine e_thenR ?_ | refine e_block ?_ | refine e_blockR ?_ | refine e_blockX ?_ | refine e_blockY rfl ?_)
        ((refine w_ys hA hS (y_move rfl rfl) rfl rfl rfl ?_); clear hA; intro a hA)
        ((refine w_ys hA hS (by first | exact y_enil_t rfl rfl Tryd.underlying36 | exact y_enil_f rfl rfl Tryd.underlying36) rfl rfl rfl ?_); clear hA; intro a hA)
        ((refine w_ys hA hS (y_move rfl rfl) rfl rfl rfl ?_); clear hA; intro a hA)
        (first | ((refine w_skip hA rfl rfl rfl ?_); clear hA; intro a hA) | ((refine w_ys hA hS (y_move rfl rfl) rfl rfl rfl ?_); clear hA; intro a hA))
        (first | ((refine w_skip hA rfl rfl rfl ?_); clear hA; intro a hA) | ((refine w_ys hA hS (y_not rfl rfl rfl) rfl rfl rfl ?_); clear hA; intro a hA))
        ((refine w_ys hA hS (by first | exact y_pick_t rfl rfl rfl | exact y_pick_f rfl rfl rfl) rfl rfl rfl ?_); clear hA; intro a hA)
        refine w_nil ?_
        repeat (first | refine c_seq ?_ | refine c_region ?_ | refine c_block ?_ | refine c_yes hA rfl ?_ | refine c_no hA rfl ?_ | refine c_skip ?_ | refine c_exit ?_ | refine c_ret ?_ | refine e_then ?_ | refine e_thenX ?_ | refine e_thenR ?_ | refine e_block ?_ | refine e_blockR ?_ | refine e_blockX ?_ | refine e_blockY rfl ?_)
        ((refine w_ys hA hS (y_move rfl rfl) rfl rfl rfl ?_); clear hA; intro a hA)
        refine w_nil ?_
        repeat (first | refine c_seq ?_ | refine c_region ?_ | refine c_block ?_ | refine c_yes hA rfl ?_ | refine c_no hA rfl ?_ | refine c_skip ?_ | refine c_exit ?_ | refine c_ret ?_ | refine e_then ?_ | refine e_thenX ?_ | refine e_thenR ?_ | refine e_block ?_ | refine e_blockR ?_ | refine e_blockX ?_ | refine e_blockY rfl ?_)
        ((refine d_beginS hS (by kernel_rfl) ?_); clear hS; intro hS)
        ((refine d_take 0 hA hS (by repeat first | exact hQ | refine NoSlot.then ?_ _ | refine NoSlot.block ?_ _ | exact NoSlot.body _ _) rfl (y_move rfl rfl) rfl rfl rfl (by kernel_rfl) (by kernel_rfl) (by kernel_rfl) (by kernel_rfl) ?_); clear hA; intro a hA)
        ((refine d_take 1 hA hS (by repeat first | exact hQ | refine NoSlot.then ?_ _ | refine NoSlot.block ?_ _ | exact NoSlot.body _ _) rfl (by first | exact y_enil_t rfl rfl Tryd.underlying36 | exact y_enil_f rfl rfl Tryd.underlying36) rfl rfl rfl (by kernel_rfl) (by kernel_rfl) (by kernel_rfl) (by kernel_rfl) ?_); clear hA; intro a hA)
        ((refine d_take 2 hA hS (by repeat first | exact hQ | refine NoSlot.then ?_ _ | refine NoSlot.block ?_ _ | exact NoSlot.body _ _) rfl (y_move rfl rfl) rfl rfl rfl (by kernel_rfl) (by kernel_rfl) (by kernel_rfl) (by kernel_rfl) ?_); clear hA; intro a hA)
        ((refine d_take 3 hA hS (by repeat first | exact hQ | refine NoSlot.then ?_ _ | refine NoSlot.block ?_ _ | exact NoSlot.body _ _) rfl (y_sub rfl rfl rfl (by rfl) (by simp only [min_i64, max_i64]; omega) (by simp only [min_i64, max_i64]; omega)) rfl rfl rfl (by kernel_rfl) (by kernel_rfl) (by kernel_rfl) (by kernel_rfl) ?_); clear hA; intro a hA)
        ((refine d_take 4 hA hS (by repeat first | exact hQ | refine NoSlot.then ?_ _ | refine NoSlot.block ?_ _ | exact NoSlot.body _ _) rfl (y_rem (r := (j : Int)) rfl rfl rfl (by omega) (by omega) (by omega)) rfl rfl rfl (by kernel_rfl) (by kernel_rfl) (by kernel_rfl) (by kernel_rfl) ?_); clear hA; intro a hA)
        ((refine d_take 5 hA hS (by repeat first | exact hQ | refine NoSlot.then ?_ _ | refine NoSlot.block ?_ _ | exact NoSlot.body _ _) rfl (y_elemA (j := j) rfl rfl rfl Tryd.underlying60 sz3 (by omega) (by omega) (by omega)) rfl rfl rfl (by kernel_rfl) (by kernel_rfl) (by kernel_rfl) (by kernel_rfl) ?_); clear hA; intro a hA)
        ((refine d_take 6 hA hS (by repeat first | exact hQ | refine NoSlot.then ?_ _ | refine NoSlot.block ?_ _ | exact NoSlot.body _ _) rfl (y_box 2 rfl rfl rfl Tryd.underlying3 (by rfl) (st_map0 hy)) rfl rfl rfl (by kernel_rfl) (by kernel_rfl) (by kernel_rfl) (by kernel_rfl) ?_); clear hA; intro a hA)
        ((refine d_take 7 hA hS (by repeat first | exact hQ | refine NoSlot.then ?_ _ | refine NoSlot.block ?_ _ | exact NoSlot.body _ _) rfl (by first | exact y_neq_t rfl rfl rfl (by omega) | exact y_neq_f rfl rfl rfl (by omega)) rfl rfl rfl (by kernel_rfl) (by kernel_rfl) (by kernel_rfl) (by kernel_rfl) ?_); clear hA; intro a hA)
        ((refine d_take 8 hA hS (by repeat first | exact hQ | refine NoSlot.then ?_ _ | refine NoSlot.block ?_ _ | exact NoSlot.body _ _) rfl (y_bne rfl rfl rfl Tryd.underlying4 (by rfl)) rfl rfl rfl (by kernel_rfl) (by kernel_rfl) (by kernel_rfl) (by kernel_rfl) ?_); clear hA; intro a hA)
        refine d_done (by kernel_rfl) ?_
        repeat (first | refine c_seq ?_ | refine c_region ?_ | refine c_block ?_ | refine c_yes hA rfl ?_ | refine c_no hA rfl ?_ | refine c_skip ?_ | refine c_exit ?_ | refine c_ret ?_ | refine e_then ?_ | refine e_thenX ?_ | refine e_thenR ?_ | refine e_block ?_ | refine e_blockR ?_ | refine e_blockX ?_ | refine e_blockY rfl ?_)
        ((refine w_ys hA hS (y_move rfl rfl) rfl rfl rfl ?_); clear hA; intro a hA)
        ((refine w_ys hA hS (by first | exact y_enil_t rfl rfl Tryd.underlying36 | exact y_enil_f rfl rfl Tryd.underlying36) rfl rfl rfl ?_); clear hA; intro a hA)
        refine w_nil ?_
        repeat (first | refine c_seq ?_ | refine c_region ?_ | refine c_block ?_ | refine c_yes hA rfl ?_ | refine c_no hA rfl ?_ | refine c_skip ?_ | refine c_exit ?_ | refine c_ret ?_ | refine e_then ?_ | refine e_thenX ?_ | refine e_thenR ?_ | refine e_block ?_ | refine e_blockR ?_ | refine e_blockX ?_ | refine e_blockY rfl ?_)
        refine h _ _ ⟨data, st, Sec.zero, some 21, At, A8, ct, c8, Lr, hA.keep [1, 5, 6, 8, 9, 10, 14, 15], .inr ⟨⟨21, rfl⟩, HK.out⟩, by omega, hlt, hct, hl8, hc8, HRW.out, hS⟩
      · obtain ⟨s2, e1, e2⟩ := HK.out.set_ok hin (by rw [hkj]; exact hy) (t := 1) (by omega) (by omega)
        rw [hset] at e1
        obtain ⟨rfl, rfl⟩ := Prod.mk.inj e1
        rw [hkj] at e2
        have hA' := hA
        try dsimp only [errV] at hA'
        clear hA
        have hA := hA'
        clear hA'
        repeat (first | refine c_seq ?_ | refine c_region ?_ | refine c_block ?_ | refine c_yes hA rfl ?_ | refine c_no hA rfl ?_ | refine c_skip ?_ | refine c_exit ?_ | refine c_ret ?_ | refine e_then ?_ | refine e_thenX ?_ | refine e_thenR ?_ | refine e_block ?_ | refine e_blockR ?_ | refine e_blockX ?_ | refine e_blockY rfl ?_)
        ((refine w_ys hA hS (y_move rfl rfl) rfl rfl rfl ?_); clear hA; intro a hA)
        ((refine w_ys hA hS (by first | exact y_enil_t rfl rfl Tryd.underlying36 | exact y_enil_f rfl rfl Tryd.underlying36) rfl rfl rfl ?_); clear hA; intro a hA)
        ((refine w_ys hA hS (y_move rfl rfl) rfl rfl rfl ?_); clear hA; intro a hA)
        (first | ((refine w_skip hA rfl rfl rfl ?_); clear hA; intro a hA) | ((refine w_ys hA hS (y_move rfl rfl) rfl rfl rfl ?_); clear hA; intro a hA))
        (first | ((refine w_skip hA rfl rfl rfl ?_); clear hA; intro a hA) | ((refine w_ys hA hS (y_not rfl rfl rfl) rfl rfl rfl ?_); clear hA; intro a hA))
        ((refine w_ys hA hS (by first | exact y_pick_t rfl rfl rfl | exact y_pick_f rfl rfl rfl) rfl rfl rfl ?_); clear hA; intro a hA)
        refine w_nil ?_
        repeat (first | refine c_seq ?_ | refine c_region ?_ | refine c_block ?_ | refine c_yes hA rfl ?_ | refine c_no hA rfl ?_ | refine c_skip ?_ | refine c_exit ?_ | refine c_ret ?_ | refine e_then ?_ | refine e_thenX ?_ | refine e_thenR ?_ | refine e_block ?_ | refine e_blockR ?_ | refine e_blockX ?_ | refine e_blockY rfl ?_)
        ((refine w_ys hA hS (y_move rfl rfl) rfl rfl rfl ?_); clear hA; intro a hA)
        refine w_nil ?_
        repeat (first | refine c_seq ?_ | refine c_region ?_ | refine c_block ?_ | refine c_yes hA rfl ?_ | refine c_no hA rfl ?_ | refine c_skip ?_ | refine c_exit ?_ | refine c_ret ?_ | refine e_then ?_ | refine e_thenX ?_ | refine e_thenR ?_ | refine e_block ?_ | refine e_blockR ?_ | refine e_blockX ?_ | refine e_blockY rfl ?_)
        ((refine d_beginS hS (by kernel_rfl) ?_); clear hS; intro hS)
        ((refine d_take 0 hA hS (by repeat first | exact hQ | refine NoSlot.then ?_ _ | refine NoSlot.block ?_ _ | exact NoSlot.body _ _) rfl (y_move rfl rfl) rfl rfl rfl (by kernel_rfl) (by kernel_rfl) (by kernel_rfl) (by kernel_rfl) ?_); clear hA; intro a hA)
        ((refine d_take 1 hA hS (by repeat first | exact hQ | refine NoSlot.then ?_ _ | refine NoSlot.block ?_ _ | exact NoSlot.body _ _) rfl (by first | exact y_enil_t rfl rfl Tryd.underlying36 | exact y_enil_f rfl rfl Tryd.underlying36) rfl rfl rfl (by kernel_rfl) (by kernel_rfl) (by kernel_rfl) (by kernel_rfl) ?_); clear hA; intro a hA)
        ((refine d_take 2 hA hS (by repeat first | exact hQ | refine NoSlot.then ?_ _ | refine NoSlot.block ?_ _ | exact NoSlot.body _ _) rfl (y_move rfl rfl) rfl rfl rfl (by kernel_rfl) (by kernel_rfl) (by kernel_rfl) (by kernel_rfl) ?_); clear hA; intro a hA)
        ((refine d_take 3 hA hS (by repeat first | exact hQ | refine NoSlot.then ?_ _ | refine NoSlot.block ?_ _ | exact NoSlot.body _ _) rfl (y_sub rfl rfl rfl (by rfl) (by simp only [min_i64, max_i64]; omega) (by simp only [min_i64, max_i64]; omega)) rfl rfl rfl (by kernel_rfl) (by kernel_rfl) (by kernel_rfl) (by kernel_rfl) ?_); clear hA; intro a hA)
        ((refine d_take 4 hA hS (by repeat first | exact hQ | refine NoSlot.then ?_ _ | refine NoSlot.block ?_ _ | exact NoSlot.body _ _) rfl (y_rem (r := (j : Int)) rfl rfl rfl (by omega) (by omega) (by omega)) rfl rfl rfl (by kernel_rfl) (by kernel_rfl) (by kernel_rfl) (by kernel_rfl) ?_); clear hA; intro a hA)
        ((refine d_take 5 hA hS (by repeat first | exact hQ | refine NoSlot.then ?_ _ | refine NoSlot.block ?_ _ | exact NoSlot.body _ _) rfl (y_elemA (j := j) rfl rfl rfl Tryd.underlying60 sz3 (by omega) (by omega) (by omega)) rfl rfl rfl (by kernel_rfl) (by kernel_rfl) (by kernel_rfl) (by kernel_rfl) ?_); clear hA; intro a hA)
        ((refine d_take 6 hA hS (by repeat first | exact hQ | refine NoSlot.then ?_ _ | refine NoSlot.block ?_ _ | exact NoSlot.body _ _) rfl (y_box 2 rfl rfl rfl Tryd.underlying3 (by rfl) (st_map0 hy)) rfl rfl rfl (by kernel_rfl) (by kernel_rfl) (by kernel_rfl) (by kernel_rfl) ?_); clear hA; intro a hA)
        ((refine d_take 7 hA hS (by repeat first | exact hQ | refine NoSlot.then ?_ _ | refine NoSlot.block ?_ _ | exact NoSlot.body _ _) rfl (by first | exact y_neq_t rfl rfl rfl (by omega) | exact y_neq_f rfl rfl rfl (by omega)) rfl rfl rfl (by kernel_rfl) (by kernel_rfl) (by kernel_rfl) (by kernel_rfl) ?_); clear hA; intro a hA)
        ((refine d_take 8 hA hS (by repeat first | exact hQ | refine NoSlot.then ?_ _ | refine NoSlot.block ?_ _ | exact NoSlot.body _ _) rfl (y_bne rfl rfl rfl Tryd.underlying4 (by rfl)) rfl rfl rfl (by kernel_rfl) (by kernel_rfl) (by kernel_rfl) (by kernel_rfl) ?_); clear hA; intro a hA)
        refine d_done (by kernel_rfl) ?_
        repeat (first | refine c_seq ?_ | refine c_region ?_ | refine c_block ?_ | refine c_yes hA rfl ?_ | refine c_no hA rfl ?_ | refine c_skip ?_ | refine c_exit ?_ | refine c_ret ?_ | refine e_then ?_ | refine e_thenX ?_ | refine e_thenR ?_ | refine e_block ?_ | refine e_blockR ?_ | refine e_blockX ?_ | refine e_blockY rfl ?_)
        ((refine w_ys hA hS (y_move rfl rfl) rfl rfl rfl ?_); clear hA; intro a hA)
        ((refine w_ys hA hS (by first | exact y_enil_t rfl rfl Tryd.underlying36 | exact y_enil_f rfl rfl Tryd.underlying36) rfl rfl rfl ?_); clear hA; intro a hA)
        refine w_nil ?_
        repeat (first | refine c_seq ?_ | refine c_region ?_ | refine c_block ?_ | refine c_yes hA rfl ?_ | refine c_no hA rfl ?_ | refine c_skip ?_ | refine c_exit ?_ | refine c_ret ?_ | refine e_then ?_ | refine e_thenX ?_ | refine e_thenR ?_ | refine e_block ?_ | refine e_blockR ?_ | refine e_blockX ?_ | refine e_blockY rfl ?_)
        ((refine w_ys hA hS (y_move rfl rfl) rfl rfl rfl ?_); clear hA; intro a hA)
        ((refine w_ys hA hS (y_sub rfl rfl rfl (by rfl) (by simp only [min_i64, max_i64]; omega) (by simp only [min_i64, max_i64]; omega)) rfl rfl rfl ?_); clear hA; intro a hA)
        ((refine w_ys hA hS (y_rem (r := (j : Int)) rfl rfl rfl (by omega) (by omega) (by omega)) rfl rfl rfl ?_); clear hA; intro a hA)
        ((refine w_ys hA hS (y_elemA (j := j) rfl rfl rfl Tryd.underlying60 sz3 (by omega) (by omega) (by omega)) rfl rfl rfl ?_); clear hA; intro a hA)
        ((refine w_store hA hS 2 rfl rfl rfl rfl rfl rfl rfl rfl sz3 (by rfl) (by simp; omega) ?_); clear hS; intro w hS; (try dsimp only [putL, List.set] at hS); rw [st_put] at hS)
        refine w_nil ?_
        repeat (first | refine c_seq ?_ | refine c_region ?_ | refine c_block ?_ | refine c_yes hA rfl ?_ | refine c_no hA rfl ?_ | refine c_skip ?_ | refine c_exit ?_ | refine c_ret ?_ | refine e_then ?_ | refine e_thenX ?_ | refine e_thenR ?_ | refine e_block ?_ | refine e_blockR ?_ | refine e_blockX ?_ | refine e_blockY rfl ?_)
        refine h _ _ ⟨data, st.set j 1, s', none, At, A8, ct, c8, Lr, hA.keep [1, 5, 6, 8, 9, 10, 14, 15], .inl ⟨rfl, e2⟩, by omega, hlt, hct, hl8, hc8, HRW.out, hS⟩
    · have hin : inW n data.length k1 = false := by simpa using hin
      rw [hin] at hA
      have e1 := HK.out.set_out (k := k1) (by omega) hin 1
      rw [hset] at e1
      obtain ⟨rfl, rfl⟩ := Prod.mk.inj e1
      have hA' := hA
      try dsimp only [errV] at hA'
      clear hA
      have hA := hA'
      clear hA'
      repeat (first | refine c_seq ?_ | refine c_region ?_ | refine c_block ?_ | refine c_yes hA rfl ?_ | refine c_no hA rfl ?_ | refine c_skip ?_ | refine c_exit ?_ | refine c_ret ?_ | refine e_then ?_ | refine e_thenX ?_ | refine e_thenR ?_ | refine e_block ?_ | refine e_blockR ?_ | refine e_blockX ?_ | refine e_blockY rfl ?_)
      ((refine w_ys hA hS (y_move rfl rfl) rfl rfl rfl ?_); clear hA; intro a hA)
      ((refine w_ys hA hS (by first | exact y_enil_t rfl rfl Tryd.underlying36 | exact y_enil_f rfl rfl Tryd.underlying36) rfl rfl rfl ?_); clear hA; intro a hA)
      ((refine w_ys hA hS (y_move rfl rfl) rfl rfl rfl ?_); clear hA; intro a hA)
      (first | ((refine w_skip hA rfl rfl rfl ?_); clear hA; intro a hA) | ((refine w_ys hA hS (y_move rfl rfl) rfl rfl rfl ?_); clear hA; intro a hA))
      (first | ((refine w_skip hA rfl rfl rfl ?_); clear hA; intro a hA) | ((refine w_ys hA hS (y_not rfl rfl rfl) rfl rfl rfl ?_); clear hA; intro a hA))
      ((refine w_ys hA hS (by first | exact y_pick_t rfl rfl rfl | exact y_pick_f rfl rfl rfl) rfl rfl rfl ?_); clear hA; intro a hA)
      refine w_nil ?_
      repeat (first | refine c_seq ?_ | refine c_region ?_ | refine c_block ?_ | refine c_yes hA rfl ?_ | refine c_no hA rfl ?_ | refine c_skip ?_ | refine c_exit ?_ | refine c_ret ?_ | refine e_then ?_ | refine e_thenX ?_ | refine e_thenR ?_ | refine e_block ?_ | refine e_blockR ?_ | refine e_blockX ?_ | refine e_blockY rfl ?_)
      ((refine w_ys hA hS (y_move rfl rfl) rfl rfl rfl ?_); clear hA; intro a hA)
      refine w_nil ?_
      repeat (first | refine c_seq ?_ | refine c_region ?_ | refine c_block ?_ | refine c_yes hA rfl ?_ | refine c_no hA rfl ?_ | refine c_skip ?_ | refine c_exit ?_ | refine c_ret ?_ | refine e_then ?_ | refine e_thenX ?_ | refine e_thenR ?_ | refine e_block ?_ | refine e_blockR ?_ | refine e_blockX ?_ | refine e_blockY rfl ?_)
      refine h _ _ ⟨data, st, Sec.zero, some 5, At, A8, ct, c8, Lr, hA.keep [1, 5, 6, 8, 9, 10, 14, 15], .inr ⟨⟨5, rfl⟩, HK.out⟩, by omega, hlt, hct, hl8, hc8, HRW.out, hS⟩
set_option maxHeartbeats 1000000 in
theorem keep_k1 (hB : BeforeB2 w0 n k kk x s data vA b6 b9 b11 b14 A1 A8 Ax c1 c8 cx Lr D st a w) (hQ : NoSlot Q) (hq : (x.now.toNat : Int) % 5 = 1)
    (h : ∀ a' w', AfterB2 w0 n k s data vA b6 b9 b11 b14 [.slice Ax x.data.length cx, .int .i64 x.cas, .int .u32 (x.n.toNat : Int), .int .u64 (x.now.toNat : Int)] A1 c1 (Dat.rd u8 Ax x.data :: D) st a' w' → Q .normal a' w') : keepB2.wp Tryd.prog Q a w := by
  obtain ⟨hA, hS, hk, hdk, hkk, hdx, hl1, hc1, hl8, hc8, hlx, hcx, hRW⟩ := hB
  obtain ⟨hn1, hn8⟩ := hk.n1
  have HK := Lib.hid hk
  have HRW := Lib.hid hRW
  clear hk hRW
  unfold keepB2
  conv => arg 2; whnf
  obtain ⟨k1, hk1⟩ : ∃ k1 : Nat, (kk < 1 ∧ k1 = 1) ∨ (1 ≤ kk ∧ k1 = kk) := by
    by_cases hq : kk < 1
    · exact ⟨1, .inl ⟨hq, rfl⟩⟩
    · exact ⟨kk, .inr ⟨by omega, rfl⟩⟩
  obtain ⟨⟨s', eo⟩, hset⟩ : ∃ p, s.setSt k1 0 = p := ⟨_, rfl⟩
  have hni : (((UInt32.ofNat k1).toNat : Nat) : Int) = (k1 : Int) := by rw [UInt32.toNat_ofNat']; omega
  have hset' : s.setSt (UInt32.ofNat k1).toNat 0 = (s', eo) := by
    rw [← hset]; congr 1; omega
  repeat (first | refine c_seq ?_ | refine c_region ?_ | refine c_block ?_ | refine c_yes hA rfl ?_ | refine c_no hA rfl ?_ | refine c_skip ?_ | refine c_exit ?_ | refine c_ret ?_ | refine e_then ?_ | refine e_thenX ?_ | refine e_thenR ?_ | refine e_block ?_ | refine e_blockR ?_ | refine e_blockX ?_ | refine e_blockY rfl ?_)
  ((refine w_ys hA hS (by first | exact y_eql_t rfl rfl rfl (by omega) | exact y_eql_f rfl rfl rfl (by omega)) rfl rfl rfl ?_); clear hA; intro a hA)
  ((refine w_ys hA hS (y_assign rfl rfl) rfl rfl rfl ?_); clear hA; intro a hA)
  refine w_nil ?_
  repeat (first | refine c_seq ?_ | refine c_region ?_ | refine c_block ?_ | refine c_yes hA rfl ?_ | refine c_no hA rfl ?_ | refine c_skip ?_ | refine c_exit ?_ | refine c_ret ?_ | refine e_then ?_ | refine e_thenX ?_ | refine e_thenR ?_ | refine e_block ?_ | refine e_blockR ?_ | refine e_blockX ?_ | refine e_blockY rfl ?_)
  ((refine w_ys hA hS (by first | exact y_eql_t rfl rfl rfl (by omega) | exact y_eql_f rfl rfl rfl (by omega)) rfl rfl rfl ?_); clear hA; intro a hA)
  ((refine w_ys hA hS (y_assign rfl rfl) rfl rfl rfl ?_); clear hA; intro a hA)
  refine w_nil ?_
  repeat (first | refine c_seq ?_ | refine c_region ?_ | refine c_block ?_ | refine c_yes hA rfl ?_ | refine c_no hA rfl ?_ | refine c_skip ?_ | refine c_exit ?_ | refine c_ret ?_ | refine e_then ?_ | refine e_thenX ?_ | refine e_thenR ?_ | refine e_block ?_ | refine e_blockR ?_ | refine e_blockX ?_ | refine e_blockY rfl ?_)
  ((refine w_ys hA hS (y_move rfl rfl) rfl rfl rfl ?_); clear hA; intro a hA)
  ((refine w_ys hA hS (y_max (r := (k1 : Int)) rfl rfl rfl (by split <;> omega)) rfl rfl rfl ?_); clear hA; intro a hA)
  ((refine w_ys hA hS (y_assign rfl rfl) rfl rfl rfl ?_); clear hA; intro a hA)
  refine w_nil ?_
  refine e_then ?_
  refine c_cut (fun a' w' => w' = w ∧ Fr a' 280 [(1, vA), (5, .int .i64 n), (6, .pointer (some ⟨b6, 0, none⟩)), (8, .slice A8 data.length c8), (9, .pointer (some ⟨b9, 0, none⟩)), (10, .int .i64 k), (12, .int .i64 k1), (13, .bool (inW n data.length k1)), (14, .pointer (some ⟨b14, 0, none⟩))]) ?_ ?_
  · by_cases q2 : k1 ≤ data.length
    · by_cases q3 : data.length < k1 + n
      · have HW : inW n data.length k1 = true := decide_eq_true ⟨by omega, q2, q3⟩
        repeat (first | refine c_seq ?_ | refine c_region ?_ | refine c_block ?_ | refine c_yes hA rfl ?_ | refine c_no hA rfl ?_ | refine c_skip ?_ | refine c_exit ?_ | refine c_ret ?_ | refine e_then ?_ | refine e_thenX ?_ | refine e_thenR ?_ | refine e_block ?_ | refine e_blockR ?_ | refine e_blockX ?_ | refine e_blockY rfl ?_)
        ((refine w_ys hA hS (y_move rfl rfl) rfl rfl rfl ?_); clear hA; intro a hA)
        ((refine w_ys hA hS (y_move rfl rfl) rfl rfl rfl ?_); clear hA; intro a hA)
        ((refine w_ys hA hS (y_len rfl rfl Tryd.underlying59) rfl rfl rfl ?_); clear hA; intro a hA)
        ((refine w_ys hA hS (by first | exact y_leq_t rfl rfl rfl (by omega) | exact y_leq_f rfl rfl rfl (by omega)) rfl rfl rfl ?_); clear hA; intro a hA)
        ((refine w_ys hA hS (y_move rfl rfl) rfl rfl rfl ?_); clear hA; intro a hA)
        (first | ((refine w_skip hA rfl rfl rfl ?_); clear hA; intro a hA) | ((refine w_ys hA hS (y_move rfl rfl) rfl rfl rfl ?_); clear hA; intro a hA))
        (first | ((refine w_skip hA rfl rfl rfl ?_); clear hA; intro a hA) | ((refine w_ys hA hS (y_move rfl rfl) rfl rfl rfl ?_); clear hA; intro a hA))
        (first | ((refine w_skip hA rfl rfl rfl ?_); clear hA; intro a hA) | ((refine w_ys hA hS (y_len rfl rfl Tryd.underlying59) rfl rfl rfl ?_); clear hA; intro a hA))
        (first | ((refine w_skip hA rfl rfl rfl ?_); clear hA; intro a hA) | ((refine w_ys hA hS (y_move rfl rfl) rfl rfl rfl ?_); clear hA; intro a hA))
        (first | ((refine w_skip hA rfl rfl rfl ?_); clear hA; intro a hA) | ((refine w_ys hA hS (y_sub rfl rfl rfl (by rfl) (by simp only [min_i64, max_i64]; omega) (by simp only [min_i64, max_i64]; omega)) rfl rfl rfl ?_); clear hA; intro a hA))
        (first | ((refine w_skip hA rfl rfl rfl ?_); clear hA; intro a hA) | ((refine w_ys hA hS (by first | exact y_gtr_t rfl rfl rfl (by omega) | exact y_gtr_f rfl rfl rfl (by omega)) rfl rfl rfl ?_); clear hA; intro a hA))
        ((refine w_ys hA hS (by first | exact y_pick_t rfl rfl rfl | exact y_pick_f rfl rfl rfl) rfl rfl rfl ?_); clear hA; intro a hA)
        ((refine w_ys hA hS (y_assign rfl rfl) rfl rfl rfl ?_); clear hA; intro a hA)
        refine w_nil ?_
        repeat (first | refine c_seq ?_ | refine c_region ?_ | refine c_block ?_ | refine c_yes hA rfl ?_ | refine c_no hA rfl ?_ | refine c_skip ?_ | refine c_exit ?_ | refine c_ret ?_ | refine e_then ?_ | refine e_thenX ?_ | refine e_thenR ?_ | refine e_block ?_ | refine e_blockR ?_ | refine e_blockX ?_ | refine e_blockY rfl ?_)
        exact ⟨rfl, by rw [HW]; exact hA.keep [1, 5, 6, 8, 9, 10, 12, 13, 14]⟩
      · have HW : inW n data.length k1 = false := decide_eq_false (fun h => q3 h.2.2)
        repeat (first | refine c_seq ?_ | refine c_region ?_ | refine c_block ?_ | refine c_yes hA rfl ?_ | refine c_no hA rfl ?_ | refine c_skip ?_ | refine c_exit ?_ | refine c_ret ?_ | refine e_then ?_ | refine e_thenX ?_ | refine e_thenR ?_ | refine e_block ?_ | refine e_blockR ?_ | refine e_blockX ?_ | refine e_blockY rfl ?_)
        ((refine w_ys hA hS (y_move rfl rfl) rfl rfl rfl ?_); clear hA; intro a hA)
        ((refine w_ys hA hS (y_move rfl rfl) rfl rfl rfl ?_); clear hA; intro a hA)
        ((refine w_ys hA hS (y_len rfl rfl Tryd.underlying59) rfl rfl rfl ?_); clear hA; intro a hA)
        ((refine w_ys hA hS (by first | exact y_leq_t rfl rfl rfl (by omega) | exact y_leq_f rfl rfl rfl (by omega)) rfl rfl rfl ?_); clear hA; intro a hA)
        ((refine w_ys hA hS (y_move rfl rfl) rfl rfl rfl ?_); clear hA; intro a hA)
        (first | ((refine w_skip hA rfl rfl rfl ?_); clear hA; intro a hA) | ((refine w_ys hA hS (y_move rfl rfl) rfl rfl rfl ?_); clear hA; intro a hA))
        (first | ((refine w_skip hA rfl rfl rfl ?_); clear hA; intro a hA) | ((refine w_ys hA hS (y_move rfl rfl) rfl rfl rfl ?_); clear hA; intro a hA))
        (first | ((refine w_skip hA rfl rfl rfl ?_); clear hA; intro a hA) | ((refine w_ys hA hS (y_len rfl rfl Tryd.underlying59) rfl rfl rfl ?_); clear hA; intro a hA))
        (first | ((refine w_skip hA rfl rfl rfl ?_); clear hA; intro a hA) | ((refine w_ys hA hS (y_move rfl rfl) rfl rfl rfl ?_); clear hA; intro a hA))
        (first | ((refine w_skip hA rfl rfl rfl ?_); clear hA; intro a hA) | ((refine w_ys hA hS (y_sub rfl rfl rfl (by rfl) (by simp only [min_i64, max_i64]; omega) (by simp only [min_i64, max_i64]; omega)) rfl rfl rfl ?_); clear hA; intro a hA))
        (first | ((refine w_skip hA rfl rfl rfl ?_); clear hA; intro a hA) | ((refine w_ys hA hS (by first | exact y_gtr_t rfl rfl rfl (by omega) | exact y_gtr_f rfl rfl rfl (by omega)) rfl rfl rfl ?_); clear hA; intro a hA))
        ((refine w_ys hA hS (by first | exact y_pick_t rfl rfl rfl | exact y_pick_f rfl rfl rfl) rfl rfl rfl ?_); clear hA; intro a hA)
        ((refine w_ys hA hS (y_assign rfl rfl) rfl rfl rfl ?_); clear hA; intro a hA)
        refine w_nil ?_
        repeat (first | refine c_seq ?_ | refine c_region ?_ | refine c_block ?_ | refine c_yes hA rfl ?_ | refine c_no hA rfl ?_ | refine c_skip ?_ | refine c_exit ?_ | refine c_ret ?_ | refine e_then ?_ | refine e_thenX ?_ | refine e_thenR ?_ | refine e_block ?_ | refine e_blockR ?_ | refine e_blockX ?_ | refine e_blockY rfl ?_)
        exact ⟨rfl, by rw [HW]; exact hA.keep [1, 5, 6, 8, 9, 10, 12, 13, 14]⟩
    · have HW : inW n data.length k1 = false := decide_eq_false (fun h => q2 h.2.1)
      repeat (first | refine c_seq ?_ | refine c_region ?_ | refine c_block ?_ | refine c_yes hA rfl ?_ | refine c_no hA rfl ?_ | refine c_skip ?_ | refine c_exit ?_ | refine c_ret ?_ | refine e_then ?_ | refine e_thenX ?_ | refine e_thenR ?_ | refine e_block ?_ | refine e_blockR ?_ | refine e_blockX ?_ | refine e_blockY rfl ?_)
      ((refine w_ys hA hS (y_move rfl rfl) rfl rfl rfl ?_); clear hA; intro a hA)
      ((refine w_ys hA hS (y_move rfl rfl) rfl rfl rfl ?_); clear hA; intro a hA)
      ((refine w_ys hA hS (y_len rfl rfl Tryd.underlying59) rfl rfl rfl ?_); clear hA; intro a hA)
      ((refine w_ys hA hS (by first | exact y_leq_t rfl rfl rfl (by omega) | exact y_leq_f rfl rfl rfl (by omega)) rfl rfl rfl ?_); clear hA; intro a hA)
      ((refine w_ys hA hS (y_move rfl rfl) rfl rfl rfl ?_); clear hA; intro a hA)
      (first | ((refine w_skip hA rfl rfl rfl ?_); clear hA; intro a hA) | ((refine w_ys hA hS (y_move rfl rfl) rfl rfl rfl ?_); clear hA; intro a hA))
      (first | ((refine w_skip hA rfl rfl rfl ?_); clear hA; intro a hA) | ((refine w_ys hA hS (y_move rfl rfl) rfl rfl rfl ?_); clear hA; intro a hA))
      (first | ((refine w_skip hA rfl rfl rfl ?_); clear hA; intro a hA) | ((refine w_ys hA hS (y_len rfl rfl Tryd.underlying59) rfl rfl rfl ?_); clear hA; intro a hA))
      (first | ((refine w_skip hA rfl rfl rfl ?_); clear hA; intro a hA) | ((refine w_ys hA hS (y_move rfl rfl) rfl rfl rfl ?_); clear hA; intro a hA))
      (first | ((refine w_skip hA rfl rfl rfl ?_); clear hA; intro a hA) | ((refine w_ys hA hS (y_sub rfl rfl rfl (by rfl) (by simp only [min_i64, max_i64]; omega) (by simp only [min_i64, max_i64]; omega)) rfl rfl rfl ?_); clear hA; intro a hA))
      (first | ((refine w_skip hA rfl rfl rfl ?_); clear hA; intro a hA) | ((refine w_ys hA hS (by first | exact y_gtr_t rfl rfl rfl (by omega) | exact y_gtr_f rfl rfl rfl (by omega)) rfl rfl rfl ?_); clear hA; intro a hA))
      ((refine w_ys hA hS (by first | exact y_pick_t rfl rfl rfl | exact y_pick_f rfl rfl rfl) rfl rfl rfl ?_); clear hA; intro a hA)
      ((refine w_ys hA hS (y_assign rfl rfl) rfl rfl rfl ?_); clear hA; intro a hA)
      refine w_nil ?_
      repeat (first | refine c_seq ?_ | refine c_region ?_ | refine c_block ?_ | refine c_yes hA rfl ?_ | refine c_no hA rfl ?_ | refine c_skip ?_ | refine c_exit ?_ | refine c_ret ?_ | refine e_then ?_ | refine e_thenX ?_ | refine e_thenR ?_ | refine e_block ?_ | refine e_blockR ?_ | refine e_blockX ?_ | refine e_blockY rfl ?_)
      exact ⟨rfl, by rw [HW]; exact hA.keep [1, 5, 6, 8, 9, 10, 12, 13, 14]⟩
  · clear hA
    rintro a _ ⟨rfl, hA⟩
    obtain ⟨j, hj⟩ : ∃ j, k1 = j + 1 := ⟨k1 - 1, by omega⟩
    have hkj : k1 - 1 = j := by omega
    have hstl := HK.out.stl
    have hj64 : j < 64 := by omega
    by_cases hin : inW n data.length k1 = true
    · obtain ⟨y, hy⟩ : ∃ y, st[j]? = some y := ⟨_, List.getElem?_eq_getElem (by omega)⟩
      rw [hin] at hA
      by_cases hy2 : y = 2
      · subst hy2
        have e1 := HK.out.set_gone hin (by rw [hkj]; exact hy) (t := 0) (by omega)
        rw [hset] at e1
        obtain ⟨rfl, rfl⟩ := Prod.mk.inj e1
        have hA' := hA
        try dsimp only [errV] at hA'
        clear hA
        have hA := hA'
        clear hA'
        repeat (first | refine c_seq ?_ | refine c_region ?_ | refine c_block ?_ | refine c_yes hA rfl ?_ | refine c_no hA rfl ?_ | refine c_skip ?_ | refine c_exit ?_ | refine c_ret ?_ | refine e_then ?_ | refine e_thenX ?_ | refine e_thenR ?_ | refine e_block ?_ | refine e_blockR ?_ | refine e_blockX ?_ | refine e_blockY rfl ?_)
        ((refine w_ys hA hS (by first | exact y_boxN 0 rfl rfl rfl Tryd.underlying32 (by rfl) sz32 (by rfl) | exact y_boxN 1 rfl rfl rfl Tryd.underlying32 (by rfl) sz32 (by rfl) | exact y_boxN 2 rfl rfl rfl Tryd.underlying32 (by rfl) sz32 (by rfl) | exact y_boxN 3 rfl rfl rfl Tryd.underlying32 (by rfl) sz32 (by rfl) | exact y_boxN 4 rfl rfl rfl Tryd.underlying32 (by rfl) sz32 (by rfl) | exact y_boxN 5 rfl rfl rfl Tryd.underlying32 (by rfl) sz32 (by rfl)) rfl rfl rfl ?_); clear hA; intro a hA)
        ((refine w_ys hA hS (y_move rfl rfl) rfl rfl rfl ?_); clear hA; intro a hA)
        ((refine w_ys hA hS (y_conv rfl rfl Tryd.underlying3 Tryd.underlying23 (by simp only [min_u32, max_u32]; omega) (by simp only [min_u32, max_u32]; omega)) rfl rfl rfl ?_); clear hA; intro a hA)
        ((refine w_call hA (f := 18) rfl rfl rfl rfl rfl Tryd.func18 (by kernel_rfl) rfl ?_); (refine (undel_at s (UInt32.ofNat k1) _ _ hset' _ _ _ _ _ _ _ rfl rfl rfl hni rfl rfl rfl _ _ _ _ (hS.rd 0 rfl) hl1 hc1).mono ?_); rintro e w ⟨At, ct, rfl, hlt, hct, hrt, hbt⟩; refine ⟨_, rfl, ?_⟩; clear hA; intro a hA; (try dsimp only [errV, secV] at hA); have hT := hS.callRd hbt hrt; clear hS hbt hrt; have hS := hT; clear hT)
        ((refine w_ys hA hS (y_move rfl rfl) rfl rfl rfl ?_); clear hA; intro a hA)
        ((refine w_ys hA hS (y_extract rfl rfl rfl) rfl rfl rfl ?_); clear hA; intro a hA)
        ((refine w_ys hA hS (y_extract rfl rfl rfl) rfl rfl rfl ?_); clear hA; intro a hA)
        ((first | (refine w_store hA hS 0 rfl rfl rfl rfl rfl rfl rfl rfl sz32 rfl (Nat.le_of_ble_eq_true rfl) ?_) | (refine w_store hA hS 1 rfl rfl rfl rfl rfl rfl rfl rfl sz32 rfl (Nat.le_of_ble_eq_true rfl) ?_) | (refine w_store hA hS 2 rfl rfl rfl rfl rfl rfl rfl rfl sz32 rfl (Nat.le_of_ble_eq_true rfl) ?_) | (refine w_store hA hS 3 rfl rfl rfl rfl rfl rfl rfl rfl sz32 rfl (Nat.le_of_ble_eq_true rfl) ?_) | (refine w_store hA hS 4 rfl rfl rfl rfl rfl rfl rfl rfl sz32 rfl (Nat.le_of_ble_eq_true rfl) ?_) | (refine w_store hA hS 5 rfl rfl rfl rfl rfl rfl rfl rfl sz32 rfl (Nat.le_of_ble_eq_true rfl) ?_)); clear hS; intro w hS; (try dsimp only [putL, List.set] at hS))
        ((refine w_ys hA hS (y_assign rfl rfl) rfl rfl rfl ?_); clear hA; intro a hA)
        refine w_nil ?_
        repeat (first | refine c_seq ?_ | refine c_region ?_ | refine c_block ?_ | refine c_yes hA rfl ?_ | refine c_no hA rfl ?_ | refine c_skip ?_ | refine c_exit ?_ | refine c_ret ?_ | refine e_then ?_ | refine e_thenX ?_ | refine e_thenR ?_ | refine e_block ?_ | refine e_blockR ?_ | refine e_blockX ?_ | refine e_blockY rfl ?_)
        ((refine w_ys hA hS (y_move rfl rfl) rfl rfl rfl ?_); clear hA; intro a hA)
        ((refine w_ys hA hS (by first | exact y_enil_t rfl rfl Tryd.underlying36 | exact y_enil_f rfl rfl Tryd.underlying36) rfl rfl rfl ?_); clear hA; intro a hA)
        ((refine w_ys hA hS (y_move rfl rfl) rfl rfl rfl ?_); clear hA; intro a hA)
        (first | ((refine w_skip hA rfl rfl rfl ?_); clear hA; intro a hA) | ((refine w_ys hA hS (y_move rfl rfl) rfl rfl rfl ?_); clear hA; intro a hA))
        (first | ((refine w_skip hA rfl rfl rfl ?_); clear hA; intro a hA) | ((refine w_ys hA hS (y_not rfl rfl rfl) rfl rfl rfl ?_); clear hA; intro a hA))
        ((refine w_ys hA hS (by first | exact y_pick_t rfl rfl rfl | exact y_pick_f rfl rfl rfl) rfl rfl rfl ?_); clear hA; intro a hA)
        refine w_nil ?_
        repeat (first | refine c_seq ?_ | refine c_region ?_ | refine c_block ?_ | refine c_yes hA rfl ?_ | refine c_no hA rfl ?_ | refine c_skip ?_ | refine c_exit ?_ | refine c_ret ?_ | refine e_then ?_ | refine e_thenX ?_ | refine e_thenR ?_ | refine e_block ?_ | refine e_blockR ?_ | refine e_blockX ?_ | refine e_blockY rfl ?_)
        ((refine w_ys hA hS (y_move rfl rfl) rfl rfl rfl ?_); clear hA; intro a hA)
        refine w_nil ?_
        repeat (first | refine c_seq ?_ | refine c_region ?_ | refine c_block ?_ | refine c_yes hA rfl ?_ | refine c_no hA rfl ?_ | refine c_skip ?_ | refine c_exit ?_ | refine c_ret ?_ | refine e_then ?_ | refine e_thenX ?_ | refine e_thenR ?_ | refine e_block ?_ | refine e_blockR ?_ | refine e_blockX ?_ | refine e_blockY rfl ?_)
        ((refine d_beginS hS (by kernel_rfl) ?_); clear hS; intro hS)
        ((refine d_take 0 hA hS (by repeat first | exact hQ | refine NoSlot.then ?_ _ | refine NoSlot.block ?_ _ | exact NoSlot.body _ _) rfl (y_move rfl rfl) rfl rfl rfl (by kernel_rfl) (by kernel_rfl) (by kernel_rfl) (by kernel_rfl) ?_); clear hA; intro a hA)
        ((refine d_take 1 hA hS (by repeat first | exact hQ | refine NoSlot.then ?_ _ | refine NoSlot.block ?_ _ | exact NoSlot.body _ _) rfl (by first | exact y_enil_t rfl rfl Tryd.underlying36 | exact y_enil_f rfl rfl Tryd.underlying36) rfl rfl rfl (by kernel_rfl) (by kernel_rfl) (by kernel_rfl) (by kernel_rfl) ?_); clear hA; intro a hA)
        ((refine d_take 2 hA hS (by repeat first | exact hQ | refine NoSlot.then ?_ _ | refine NoSlot.block ?_ _ | exact NoSlot.body _ _) rfl (y_move rfl rfl) rfl rfl rfl (by kernel_rfl) (by kernel_rfl) (by kernel_rfl) (by kernel_rfl) ?_); clear hA; intro a hA)
        ((refine d_take 3 hA hS (by repeat first | exact hQ | refine NoSlot.then ?_ _ | refine NoSlot.block ?_ _ | exact NoSlot.body _ _) rfl (y_sub rfl rfl rfl (by rfl) (by simp only [min_i64, max_i64]; omega) (by simp only [min_i64, max_i64]; omega)) rfl rfl rfl (by kernel_rfl) (by kernel_rfl) (by kernel_rfl) (by kernel_rfl) ?_); clear hA; intro a hA)
        ((refine d_take 4 hA hS (by repeat first | exact hQ | refine NoSlot.then ?_ _ | refine NoSlot.block ?_ _ | exact NoSlot.body _ _) rfl (y_rem (r := (j : Int)) rfl rfl rfl (by omega) (by omega) (by omega)) rfl rfl rfl (by kernel_rfl) (by kernel_rfl) (by kernel_rfl) (by kernel_rfl) ?_); clear hA; intro a hA)
        ((refine d_take 5 hA hS (by repeat first | exact hQ | refine NoSlot.then ?_ _ | refine NoSlot.block ?_ _ | exact NoSlot.body _ _) rfl (y_elemA (j := j) rfl rfl rfl Tryd.underlying60 sz3 (by omega) (by omega) (by omega)) rfl rfl rfl (by kernel_rfl) (by kernel_rfl) (by kernel_rfl) (by kernel_rfl) ?_); clear hA; intro a hA)
        ((refine d_take 6 hA hS (by repeat first | exact hQ | refine NoSlot.then ?_ _ | refine NoSlot.block ?_ _ | exact NoSlot.body _ _) rfl (y_box 2 rfl rfl rfl Tryd.underlying3 (by rfl) (st_map0 hy)) rfl rfl rfl (by kernel_rfl) (by kernel_rfl) (by kernel_rfl) (by kernel_rfl) ?_); clear hA; intro a hA)
        ((refine d_take 7 hA hS (by repeat first | exact hQ | refine NoSlot.then ?_ _ | refine NoSlot.block ?_ _ | exact NoSlot.body _ _) rfl (by first | exact y_neq_t rfl rfl rfl (by omega) | exact y_neq_f rfl rfl rfl (by omega)) rfl rfl rfl (by kernel_rfl) (by kernel_rfl) (by kernel_rfl) (by kernel_rfl) ?_); clear hA; intro a hA)
        ((refine d_take 8 hA hS (by repeat first | exact hQ | refine NoSlot.then ?_ _ | refine NoSlot.block ?_ _ | exact NoSlot.body _ _) rfl (y_bne rfl rfl rfl Tryd.underlying4 (by rfl)) rfl rfl rfl (by kernel_rfl) (by kernel_rfl) (by kernel_rfl) (by kernel_rfl) ?_); clear hA; intro a hA)
        refine d_done (by kernel_rfl) ?_
        repeat (first | refine c_seq ?_ | refine c_region ?_ | refine c_block ?_ | refine c_yes hA rfl ?_ | refine c_no hA rfl ?_ | refine c_skip ?_ | refine c_exit ?_ | refine c_ret ?_ | refine e_then ?_ | refine e_thenX ?_ | refine e_thenR ?_ | refine e_block ?_ | refine e_blockR ?_ | refine e_blockX ?_ | refine e_blockY rfl ?_)
        ((refine w_ys hA hS (y_move rfl rfl) rfl rfl rfl ?_); clear hA; intro a hA)
        ((refine w_ys hA hS (by first | exact y_enil_t rfl rfl Tryd.underlying36 | exact y_enil_f rfl rfl Tryd.underlying36) rfl rfl rfl ?_); clear hA; intro a hA)
        refine w_nil ?_
        repeat (first | refine c_seq ?_ | refine c_region ?_ | refine c_block ?_ | refine c_yes hA rfl ?_ | refine c_no hA rfl ?_ | refine c_skip ?_ | refine c_exit ?_ | refine c_ret ?_ | refine e_then ?_ | refine e_thenX ?_ | refine e_thenR ?_ | refine e_block ?_ | refine e_blockR ?_ | refine e_blockX ?_ | refine e_blockY rfl ?_)
        refine h _ _ ⟨data, st, Sec.zero, some 21, At, A8, ct, c8, Lr, hA.keep [1, 5, 6, 8, 9, 10, 14, 15], .inr ⟨⟨21, rfl⟩, HK.out⟩, by omega, hlt, hct, hl8, hc8, HRW.out, hS⟩
      · obtain ⟨s2, e1, e2⟩ := HK.out.set_ok hin (by rw [hkj]; exact hy) (t := 0) (by omega) (by omega)
        rw [hset] at e1
        obtain ⟨rfl, rfl⟩ := Prod.mk.inj e1
        rw [hkj] at e2
        have hA' := hA
        try dsimp only [errV] at hA'
        clear hA
        have hA := hA'
        clear hA'
        repeat (first | refine c_seq ?_ | refine c_region ?_ | refine c_block ?_ | refine c_yes hA rfl ?_ | refine c_no hA rfl ?_ | refine c_skip ?_ | refine c_exit ?_ | refine c_ret ?_ | refine e_then ?_ | refine e_thenX ?_ | refine e_thenR ?_ | refine e_block ?_ | refine e_blockR ?_ | refine e_blockX ?_ | refine e_blockY rfl ?_)
        ((refine w_ys hA hS (by first | exact y_boxN 0 rfl rfl rfl Tryd.underlying32 (by rfl) sz32 (by rfl) | exact y_boxN 1 rfl rfl rfl Tryd.underlying32 (by rfl) sz32 (by rfl) | exact y_boxN 2 rfl rfl rfl Tryd.underlying32 (by rfl) sz32 (by rfl) | exact y_boxN 3 rfl rfl rfl Tryd.underlying32 (by rfl) sz32 (by rfl) | exact y_boxN 4 rfl rfl rfl Tryd.underlying32 (by rfl) sz32 (by rfl) | exact y_boxN 5 rfl rfl rfl Tryd.underlying32 (by rfl) sz32 (by rfl)) rfl rfl rfl ?_); clear hA; intro a hA)
        ((refine w_ys hA hS (y_move rfl rfl) rfl rfl rfl ?_); clear hA; intro a hA)
        ((refine w_ys hA hS (y_conv rfl rfl Tryd.underlying3 Tryd.underlying23 (by simp only [min_u32, max_u32]; omega) (by simp only [min_u32, max_u32]; omega)) rfl rfl rfl ?_); clear hA; intro a hA)
        ((refine w_call hA (f := 18) rfl rfl rfl rfl rfl Tryd.func18 (by kernel_rfl) rfl ?_); (refine (undel_at s (UInt32.ofNat k1) _ _ hset' _ _ _ _ _ _ _ rfl rfl rfl hni rfl rfl rfl _ _ _ _ (hS.rd 0 rfl) hl1 hc1).mono ?_); rintro e w ⟨At, ct, rfl, hlt, hct, hrt, hbt⟩; refine ⟨_, rfl, ?_⟩; clear hA; intro a hA; (try dsimp only [errV, secV] at hA); have hT := hS.callRd hbt hrt; clear hS hbt hrt; have hS := hT; clear hT)
        ((refine w_ys hA hS (y_move rfl rfl) rfl rfl rfl ?_); clear hA; intro a hA)
        ((refine w_ys hA hS (y_extract rfl rfl rfl) rfl rfl rfl ?_); clear hA; intro a hA)
        ((refine w_ys hA hS (y_extract rfl rfl rfl) rfl rfl rfl ?_); clear hA; intro a hA)
        ((first | (refine w_store hA hS 0 rfl rfl rfl rfl rfl rfl rfl rfl sz32 rfl (Nat.le_of_ble_eq_true rfl) ?_) | (refine w_store hA hS 1 rfl rfl rfl rfl rfl rfl rfl rfl sz32 rfl (Nat.le_of_ble_eq_true rfl) ?_) | (refine w_store hA hS 2 rfl rfl rfl rfl rfl rfl rfl rfl sz32 rfl (Nat.le_of_ble_eq_true rfl) ?_) | (refine w_store hA hS 3 rfl rfl rfl rfl rfl rfl rfl rfl sz32 rfl (Nat.le_of_ble_eq_true rfl) ?_) | (refine w_store hA hS 4 rfl rfl rfl rfl rfl rfl rfl rfl sz32 rfl (Nat.le_of_ble_eq_true rfl) ?_) | (refine w_store hA hS 5 rfl rfl rfl rfl rfl rfl rfl rfl sz32 rfl (Nat.le_of_ble_eq_true rfl) ?_)); clear hS; intro w hS; (try dsimp only [putL, List.set] at hS))
        ((refine w_ys hA hS (y_assign rfl rfl) rfl rfl rfl ?_); clear hA; intro a hA)
        refine w_nil ?_
        repeat (first | refine c_seq ?_ | refine c_region ?_ | refine c_block ?_ | refine c_yes hA rfl ?_ | refine c_no hA rfl ?_ | refine c_skip ?_ | refine c_exit ?_ | refine c_ret ?_ | refine e_then ?_ | refine e_thenX ?_ | refine e_thenR ?_ | refine e_block ?_ | refine e_blockR ?_ | refine e_blockX ?_ | refine e_blockY rfl ?_)
        ((refine w_ys hA hS (y_move rfl rfl) rfl rfl rfl ?_); clear hA; intro a hA)
        ((refine w_ys hA hS (by first | exact y_enil_t rfl rfl Tryd.underlying36 | exact y_enil_f rfl rfl Tryd.underlying36) rfl rfl rfl ?_); clear hA; intro a hA)
        ((refine w_ys hA hS (y_move rfl rfl) rfl rfl rfl ?_); clear hA; intro a hA)
        (first | ((refine w_skip hA rfl rfl rfl ?_); clear hA; intro a hA) | ((refine w_ys hA hS (y_move rfl rfl) rfl rfl rfl ?_); clear hA; intro a hA))
        (first | ((refine w_skip hA rfl rfl rfl ?_); clear hA; intro a hA) | ((refine w_ys hA hS (y_not rfl rfl rfl) rfl rfl rfl ?_); clear hA; intro a hA))
        ((refine w_ys hA hS (by first | exact y_pick_t rfl rfl rfl | exact y_pick_f rfl rfl rfl) rfl rfl rfl ?_); clear hA; intro a hA)
        refine w_nil ?_
        repeat (first | refine c_seq ?_ | refine c_region ?_ | refine c_block ?_ | refine c_yes hA rfl ?_ | refine c_no hA rfl ?_ | refine c_skip ?_ | refine c_exit ?_ | refine c_ret ?_ | refine e_then ?_ | refine e_thenX ?_ | refine e_thenR ?_ | refine e_block ?_ | refine e_blockR ?_ | refine e_blockX ?_ | refine e_blockY rfl ?_)
        ((refine w_ys hA hS (y_move rfl rfl) rfl rfl rfl ?_); clear hA; intro a hA)
        refine w_nil ?_
        repeat (first | refine c_seq ?_ | refine c_region ?_ | refine c_block ?_ | refine c_yes hA rfl ?_ | refine c_no hA rfl ?_ | refine c_skip ?_ | refine c_exit ?_ | refine c_ret ?_ | refine e_then ?_ | refine e_thenX ?_ | refine e_thenR ?_ | refine e_block ?_ | refine e_blockR ?_ | refine e_blockX ?_ | refine e_blockY rfl ?_)
        ((refine d_beginS hS (by kernel_rfl) ?_); clear hS; intro hS)
        ((refine d_take 0 hA hS (by repeat first | exact hQ | refine NoSlot.then ?_ _ | refine NoSlot.block ?_ _ | exact NoSlot.body _ _) rfl (y_move rfl rfl) rfl rfl rfl (by kernel_rfl) (by kernel_rfl) (by kernel_rfl) (by kernel_rfl) ?_); clear hA; intro a hA)
        ((refine d_take 1 hA hS (by repeat first | exact hQ | refine NoSlot.then ?_ _ | refine NoSlot.block ?_ _ | exact NoSlot.body _ _) rfl (by first | exact y_enil_t rfl rfl Tryd.underlying36 | exact y_enil_f rfl rfl Tryd.underlying36) rfl rfl rfl (by kernel_rfl) (by kernel_rfl) (by kernel_rfl) (by kernel_rfl) ?_); clear hA; intro a hA)
        ((refine d_take 2 hA hS (by repeat first | exact hQ | refine NoSlot.then ?_ _ | refine NoSlot.block ?_ _ | exact NoSlot.body _ _) rfl (y_move rfl rfl) rfl rfl rfl (by kernel_rfl) (by kernel_rfl) (by kernel_rfl) (by kernel_rfl) ?_); clear hA; intro a hA)
        ((refine d_take 3 hA hS (by repeat first | exact hQ | refine NoSlot.then ?_ _ | refine NoSlot.block ?_ _ | exact NoSlot.body _ _) rfl (y_sub rfl rfl rfl (by rfl) (by simp only [min_i64, max_i64]; omega) (by simp only [min_i64, max_i64]; omega)) rfl rfl rfl (by kernel_rfl) (by kernel_rfl) (by kernel_rfl) (by kernel_rfl) ?_); clear hA; intro a hA)
        ((refine d_take 4 hA hS (by repeat first | exact hQ | refine NoSlot.then ?_ _ | refine NoSlot.block ?_ _ | exact NoSlot.body _ _) rfl (y_rem (r := (j : Int)) rfl rfl rfl (by omega) (by omega) (by omega)) rfl rfl rfl (by kernel_rfl) (by kernel_rfl) (by kernel_rfl) (by kernel_rfl) ?_); clear hA; intro a hA)
        ((refine d_take 5 hA hS (by repeat first | exact hQ | refine NoSlot.then ?_ _ | refine NoSlot.block ?_ _ | exact NoSlot.body _ _) rfl (y_elemA (j := j) rfl rfl rfl Tryd.underlying60 sz3 (by omega) (by omega) (by omega)) rfl rfl rfl (by kernel_rfl) (by kernel_rfl) (by kernel_rfl) (by kernel_rfl) ?_); clear hA; intro a hA)
        ((refine d_take 6 hA hS (by repeat first | exact hQ | refine NoSlot.then ?_ _ | refine NoSlot.block ?_ _ | exact NoSlot.body _ _) rfl (y_box 2 rfl rfl rfl Tryd.underlying3 (by rfl) (st_map0 hy)) rfl rfl rfl (by kernel_rfl) (by kernel_rfl) (by kernel_rfl) (by kernel_rfl) ?_); clear hA; intro a hA)
        ((refine d_take 7 hA hS (by repeat first | exact hQ | refine NoSlot.then ?_ _ | refine NoSlot.block ?_ _ | exact NoSlot.body _ _) rfl (by first | exact y_neq_t rfl rfl rfl (by omega) | exact y_neq_f rfl rfl rfl (by omega)) rfl rfl rfl (by kernel_rfl) (by kernel_rfl) (by kernel_rfl) (by kernel_rfl) ?_); clear hA; intro a hA)
        ((refine d_take 8 hA hS (by repeat first | exact hQ | refine NoSlot.then ?_ _ | refine NoSlot.block ?_ _ | exact NoSlot.body _ _) rfl (y_bne rfl rfl rfl Tryd.underlying4 (by rfl)) rfl rfl rfl (by kernel_rfl) (by kernel_rfl) (by kernel_rfl) (by kernel_rfl) ?_); clear hA; intro a hA)
        refine d_done (by kernel_rfl) ?_
        repeat (first | refine c_seq ?_ | refine c_region ?_ | refine c_block ?_ | refine c_yes hA rfl ?_ | refine c_no hA rfl ?_ | refine c_skip ?_ | refine c_exit ?_ | refine c_ret ?_ | refine e_then ?_ | refine e_thenX ?_ | refine e_thenR ?_ | refine e_block ?_ | refine e_blockR ?_ | refine e_blockX ?_ | refine e_blockY rfl ?_)
        ((refine w_ys hA hS (y_move rfl rfl) rfl rfl rfl ?_); clear hA; intro a hA)
        ((refine w_ys hA hS (by first | exact y_enil_t rfl rfl Tryd.underlying36 | exact y_enil_f rfl rfl Tryd.underlying36) rfl rfl rfl ?_); clear hA; intro a hA)
        refine w_nil ?_
        repeat (first | refine c_seq ?_ | refine c_region ?_ | refine c_block ?_ | refine c_yes hA rfl ?_ | refine c_no hA rfl ?_ | refine c_skip ?_ | refine c_exit ?_ | refine c_ret ?_ | refine e_then ?_ | refine e_thenX ?_ | refine e_thenR ?_ | refine e_block ?_ | refine e_blockR ?_ | refine e_blockX ?_ | refine e_blockY rfl ?_)
        ((refine w_ys hA hS (y_move rfl rfl) rfl rfl rfl ?_); clear hA; intro a hA)
        ((refine w_ys hA hS (y_sub rfl rfl rfl (by rfl) (by simp only [min_i64, max_i64]; omega) (by simp only [min_i64, max_i64]; omega)) rfl rfl rfl ?_); clear hA; intro a hA)
        ((refine w_ys hA hS (y_rem (r := (j : Int)) rfl rfl rfl (by omega) (by omega) (by omega)) rfl rfl rfl ?_); clear hA; intro a hA)
        ((refine w_ys hA hS (y_elemA (j := j) rfl rfl rfl Tryd.underlying60 sz3 (by omega) (by omega) (by omega)) rfl rfl rfl ?_); clear hA; intro a hA)
        ((refine w_store hA hS 2 rfl rfl rfl rfl rfl rfl rfl rfl sz3 (by rfl) (by simp; omega) ?_); clear hS; intro w hS; (try dsimp only [putL, List.set] at hS); rw [st_put] at hS)
        refine w_nil ?_
        repeat (first | refine c_seq ?_ | refine c_region ?_ | refine c_block ?_ | refine c_yes hA rfl ?_ | refine c_no hA rfl ?_ | refine c_skip ?_ | refine c_exit ?_ | refine c_ret ?_ | refine e_then ?_ | refine e_thenX ?_ | refine e_thenR ?_ | refine e_block ?_ | refine e_blockR ?_ | refine e_blockX ?_ | refine e_blockY rfl ?_)
        refine h _ _ ⟨data, st.set j 0, s', none, At, A8, ct, c8, Lr, hA.keep [1, 5, 6, 8, 9, 10, 14, 15], .inl ⟨rfl, e2⟩, by omega, hlt, hct, hl8, hc8, HRW.out, hS⟩
    · have hin : inW n data.length k1 = false := by simpa using hin
      rw [hin] at hA
      have e1 := HK.out.set_out (k := k1) (by omega) hin 0
      rw [hset] at e1
      obtain ⟨rfl, rfl⟩ := Prod.mk.inj e1
      have hA' := hA
      try dsimp only [errV] at hA'
      clear hA
      have hA := hA'
      clear hA'
      repeat (first | refine c_seq ?_ | refine c_region ?_ | refine c_block ?_ | refine c_yes hA rfl ?_ | refine c_no hA rfl ?_ | refine c_skip ?_ | refine c_exit ?_ | refine c_ret ?_ | refine e_then ?_ | refine e_thenX ?_ | refine e_thenR ?_ | refine e_block ?_ | refine e_blockR ?_ | refine e_blockX ?_ | refine e_blockY rfl ?_)
      ((refine w_ys hA hS (by first | exact y_boxN 0 rfl rfl rfl Tryd.underlying32 (by rfl) sz32 (by rfl) | exact y_boxN 1 rfl rfl rfl Tryd.underlying32 (by rfl) sz32 (by rfl) | exact y_boxN 2 rfl rfl rfl Tryd.underlying32 (by rfl) sz32 (by rfl) | exact y_boxN 3 rfl rfl rfl Tryd.underlying32 (by rfl) sz32 (by rfl) | exact y_boxN 4 rfl rfl rfl Tryd.underlying32 (by rfl) sz32 (by rfl) | exact y_boxN 5 rfl rfl rfl Tryd.underlying32 (by rfl) sz32 (by rfl)) rfl rfl rfl ?_); clear hA; intro a hA)
      ((refine w_ys hA hS (y_move rfl rfl) rfl rfl rfl ?_); clear hA; intro a hA)
      ((refine w_ys hA hS (y_conv rfl rfl Tryd.underlying3 Tryd.underlying23 (by simp only [min_u32, max_u32]; omega) (by simp only [min_u32, max_u32]; omega)) rfl rfl rfl ?_); clear hA; intro a hA)
      ((refine w_call hA (f := 18) rfl rfl rfl rfl rfl Tryd.func18 (by kernel_rfl) rfl ?_); (refine (undel_at s (UInt32.ofNat k1) _ _ hset' _ _ _ _ _ _ _ rfl rfl rfl hni rfl rfl rfl _ _ _ _ (hS.rd 0 rfl) hl1 hc1).mono ?_); rintro e w ⟨At, ct, rfl, hlt, hct, hrt, hbt⟩; refine ⟨_, rfl, ?_⟩; clear hA; intro a hA; (try dsimp only [errV, secV] at hA); have hT := hS.callRd hbt hrt; clear hS hbt hrt; have hS := hT; clear hT)
      ((refine w_ys hA hS (y_move rfl rfl) rfl rfl rfl ?_); clear hA; intro a hA)
      ((refine w_ys hA hS (y_extract rfl rfl rfl) rfl rfl rfl ?_); clear hA; intro a hA)
      ((refine w_ys hA hS (y_extract rfl rfl rfl) rfl rfl rfl ?_); clear hA; intro a hA)
      ((first | (refine w_store hA hS 0 rfl rfl rfl rfl rfl rfl rfl rfl sz32 rfl (Nat.le_of_ble_eq_true rfl) ?_) | (refine w_store hA hS 1 rfl rfl rfl rfl rfl rfl rfl rfl sz32 rfl (Nat.le_of_ble_eq_true rfl) ?_) | (refine w_store hA hS 2 rfl rfl rfl rfl rfl rfl rfl rfl sz32 rfl (Nat.le_of_ble_eq_true rfl) ?_) | (refine w_store hA hS 3 rfl rfl rfl rfl rfl rfl rfl rfl sz32 rfl (Nat.le_of_ble_eq_true rfl) ?_) | (refine w_store hA hS 4 rfl rfl rfl rfl rfl rfl rfl rfl sz32 rfl (Nat.le_of_ble_eq_true rfl) ?_) | (refine w_store hA hS 5 rfl rfl rfl rfl rfl rfl rfl rfl sz32 rfl (Nat.le_of_ble_eq_true rfl) ?_)); clear hS; intro w hS; (try dsimp only [putL, List.set] at hS))
      ((refine w_ys hA hS (y_assign rfl rfl) rfl rfl rfl ?_); clear hA; intro a hA)
      refine w_nil ?_
      repeat (first | refine c_seq ?_ | refine c_region ?_ | refine c_block ?_ | refine c_yes hA rfl ?_ | refine c_no hA rfl ?_ | refine c_skip ?_ | refine c_exit ?_ | refine c_ret ?_ | refine e_then ?_ | refine e_thenX ?_ | refine e_thenR ?_ | refine e_block ?_ | refine e_blockR ?_ | refine e_blockX ?_ | refine e_blockY rfl ?_)
      ((refine w_ys hA hS (y_move rfl rfl) rfl rfl rfl ?_); clear hA; intro a hA)
      ((refine w_ys hA hS (by first | exact y_enil_t rfl rfl Tryd.underlying36 | exact y_enil_f rfl rfl Tryd.underlying36) rfl rfl rfl ?_); clear hA; intro a hA)
      ((refine w_ys hA hS (y_move rfl rfl) rfl rfl rfl ?_); clear hA; intro a hA)
      (first | ((refine w_skip hA rfl rfl rfl ?_); clear hA; intro a hA) | ((refine w_ys hA hS (y_move rfl rfl) rfl rfl rfl ?_); clear hA; intro a hA))
      (first | ((refine w_skip hA rfl rfl rfl ?_); clear hA; intro a hA) | ((refine w_ys hA hS (y_not rfl rfl rfl) rfl rfl rfl ?_); clear hA; intro a hA))
      ((refine w_ys hA hS (by first | exact y_pick_t rfl rfl rfl | exact y_pick_f rfl rfl rfl) rfl rfl rfl ?_); clear hA; intro a hA)
      refine w_nil ?_
      repeat (first | refine c_seq ?_ | refine c_region ?_ | refine c_block ?_ | refine c_yes hA rfl ?_ | refine c_no hA rfl ?_ | refine c_skip ?_ | refine c_exit ?_ | refine c_ret ?_ | refine e_then ?_ | refine e_thenX ?_ | refine e_thenR ?_ | refine e_block ?_ | refine e_blockR ?_ | refine e_blockX ?_ | refine e_blockY rfl ?_)
      ((refine w_ys hA hS (y_move rfl rfl) rfl rfl rfl ?_); clear hA; intro a hA)
      refine w_nil ?_
      repeat (first | refine c_seq ?_ | refine c_region ?_ | refine c_block ?_ | refine c_yes hA rfl ?_ | refine c_no hA rfl ?_ | refine c_skip ?_ | refine c_exit ?_ | refine c_ret ?_ | refine e_then ?_ | refine e_thenX ?_ | refine e_thenR ?_ | refine e_block ?_ | refine e_blockR ?_ | refine e_blockX ?_ | refine e_blockY rfl ?_)
      refine h _ _ ⟨data, st, Sec.zero, some 5, At, A8, ct, c8, Lr, hA.keep [1, 5, 6, 8, 9, 10, 14, 15], .inr ⟨⟨5, rfl⟩, HK.out⟩, by omega, hlt, hct, hl8, hc8, HRW.out, hS⟩
set_option maxHeartbeats 1000000 in
theorem keep_k2 (hB : BeforeB2 w0 n k kk x s data vA b6 b9 b11 b14 A1 A8 Ax c1 c8 cx Lr D st a w) (hQ : NoSlot Q) (hq : (x.now.toNat : Int) % 5 = 2)
    (h : ∀ a' w', AfterB2 w0 n k s data vA b6 b9 b11 b14 [.slice Ax x.data.length cx, .int .i64 x.cas, .int .u32 (x.n.toNat : Int), .int .u64 (x.now.toNat : Int)] A1 c1 (Dat.rd u8 Ax x.data :: D) st a' w' → Q .normal a' w') : keepB2.wp Tryd.prog Q a w := by
  obtain ⟨hA, hS, hk, hdk, hkk, hdx, hl1, hc1, hl8, hc8, hlx, hcx, hRW⟩ := hB
  obtain ⟨hn1, hn8⟩ := hk.n1
  have HK := Lib.hid hk
  have HRW := Lib.hid hRW
  clear hk hRW
  unfold keepB2
  conv => arg 2; whnf
  obtain ⟨k1, hk1⟩ : ∃ k1 : Nat, (kk < 1 ∧ k1 = 1) ∨ (1 ≤ kk ∧ k1 = kk) := by
    by_cases hq : kk < 1
    · exact ⟨1, .inl ⟨hq, rfl⟩⟩
    · exact ⟨kk, .inr ⟨by omega, rfl⟩⟩
  obtain ⟨⟨s', eo⟩, hset⟩ : ∃ p, s.setSt k1 2 = p := ⟨_, rfl⟩
  have hni : (((UInt32.ofNat k1).toNat : Nat) : Int) = (k1 : Int) := by rw [UInt32.toNat_ofNat']; omega
  have hset' : s.setSt (UInt32.ofNat k1).toNat 2 = (s', eo) := by
    rw [← hset]; congr 1; omega
  repeat (first | refine c_seq ?_ | refine c_region ?_ | refine c_block ?_ | refine c_yes hA rfl ?_ | refine c_no hA rfl ?_ | refine c_skip ?_ | refine c_exit ?_ | refine c_ret ?_ | refine e_then ?_ | refine e_thenX ?_ | refine e_thenR ?_ | refine e_block ?_ | refine e_blockR ?_ | refine e_blockX ?_ | refine e_blockY rfl ?_)
  ((refine w_ys hA hS (by first | exact y_eql_t rfl rfl rfl (by omega) | exact y_eql_f rfl rfl rfl (by omega)) rfl rfl rfl ?_); clear hA; intro a hA)
  ((refine w_ys hA hS (y_assign rfl rfl) rfl rfl rfl ?_); clear hA; intro a hA)
  refine w_nil ?_
  repeat (first | refine c_seq ?_ | refine c_region ?_ | refine c_block ?_ | refine c_yes hA rfl ?_ | refine c_no hA rfl ?_ | refine c_skip ?_ | refine c_exit ?_ | refine c_ret ?_ | refine e_then ?_ | refine e_thenX ?_ | refine e_thenR ?_ | refine e_block ?_ | refine e_blockR ?_ | refine e_blockX ?_ | refine e_blockY rfl ?_)
  ((refine w_ys hA hS (by first | exact y_eql_t rfl rfl rfl (by omega) | exact y_eql_f rfl rfl rfl (by omega)) rfl rfl rfl ?_); clear hA; intro a hA)
  ((refine w_ys hA hS (y_assign rfl rfl) rfl rfl rfl ?_); clear hA; intro a hA)
  refine w_nil ?_
  repeat (first | refine c_seq ?_ | refine c_region ?_ | refine c_block ?_ | refine c_yes hA rfl ?_ | refine c_no hA rfl ?_ | refine c_skip ?_ | refine c_exit ?_ | refine c_ret ?_ | refine e_then ?_ | refine e_thenX ?_ | refine e_thenR ?_ | refine e_block ?_ | refine e_blockR ?_ | refine e_blockX ?_ | refine e_blockY rfl ?_)
  ((refine w_ys hA hS (by first | exact y_eql_t rfl rfl rfl (by omega) | exact y_eql_f rfl rfl rfl (by omega)) rfl rfl rfl ?_); clear hA; intro a hA)
  ((refine w_ys hA hS (y_assign rfl rfl) rfl rfl rfl ?_); clear hA; intro a hA)
  refine w_nil ?_
  repeat (first | refine c_seq ?_ | refine c_region ?_ | refine c_block ?_ | refine c_yes hA rfl ?_ | refine c_no hA rfl ?_ | refine c_skip ?_ | refine c_exit ?_ | refine c_ret ?_ | refine e_then ?_ | refine e_thenX ?_ | refine e_thenR ?_ | refine e_block ?_ | refine e_blockR ?_ | refine e_blockX ?_ | refine e_blockY rfl ?_)
  ((refine w_ys hA hS (y_move rfl rfl) rfl rfl rfl ?_); clear hA; intro a hA)
  ((refine w_ys hA hS (y_max (r := (k1 : Int)) rfl rfl rfl (by split <;> omega)) rfl rfl rfl ?_); clear hA; intro a hA)
  ((refine w_ys hA hS (y_assign rfl rfl) rfl rfl rfl ?_); clear hA; intro a hA)
  refine w_nil ?_
  refine e_then ?_
  refine c_cut (fun a' w' => w' = w ∧ Fr a' 280 [(1, vA), (5, .int .i64 n), (6, .pointer (some ⟨b6, 0, none⟩)), (8, .slice A8 data.length c8), (9, .pointer (some ⟨b9, 0, none⟩)), (10, .int .i64 k), (12, .int .i64 k1), (13, .bool (inW n data.length k1)), (14, .pointer (some ⟨b14, 0, none⟩))]) ?_ ?_
  · by_cases q2 : k1 ≤ data.length
    · by_cases q3 : data.length < k1 + n
      · have HW : inW n data.length k1 = true := decide_eq_true ⟨by omega, q2, q3⟩
        repeat (first | refine c_seq ?_ | refine c_region ?_ | refine c_block ?_ | refine c_yes hA rfl ?_ | refine c_no hA rfl ?_ | refine c_skip ?_ | refine c_exit ?_ | refine c_ret ?_ | refine e_then ?_ | refine e_thenX ?_ | refine e_thenR ?_ | refine e_block ?_ | refine e_blockR ?_ | refine e_blockX ?_ | refine e_blockY rfl ?_)
        ((refine w_ys hA hS (y_move rfl rfl) rfl rfl rfl ?_); clear hA; intro a hA)
        ((refine w_ys hA hS (y_move rfl rfl) rfl rfl rfl ?_); clear hA; intro a hA)
        ((refine w_ys hA hS (y_len rfl rfl Tryd.underlying59) rfl rfl rfl ?_); clear hA; intro a hA)
        ((refine w_ys hA hS (by first | exact y_leq_t rfl rfl rfl (by omega) | exact y_leq_f rfl rfl rfl (by omega)) rfl rfl rfl ?_); clear hA; intro a hA)
        ((refine w_ys hA hS (y_move rfl rfl) rfl rfl rfl ?_); clear hA; intro a hA)
        (first | ((refine w_skip hA rfl rfl rfl ?_); clear hA; intro a hA) | ((refine w_ys hA hS (y_move rfl rfl) rfl rfl rfl ?_); clear hA; intro a hA))
        (first | ((refine w_skip hA rfl rfl rfl ?_); clear hA; intro a hA) | ((refine w_ys hA hS (y_move rfl rfl) rfl rfl rfl ?_); clear hA; intro a hA))
        (first | ((refine w_skip hA rfl rfl rfl ?_); clear hA; intro a hA) | ((refine w_ys hA hS (y_len rfl rfl Tryd.underlying59) rfl rfl rfl ?_); clear hA; intro a hA))
        (first | ((refine w_skip hA rfl rfl rfl ?_); clear hA; intro a hA) | ((refine w_ys hA hS (y_move rfl rfl) rfl rfl rfl ?_); clear hA; intro a hA))
        (first | ((refine w_skip hA rfl rfl rfl ?_); clear hA; intro a hA) | ((refine w_ys hA hS (y_sub rfl rfl rfl (by rfl) (by simp only [min_i64, max_i64]; omega) (by simp only [min_i64, max_i64]; omega)) rfl rfl rfl ?_); clear hA; intro a hA))
        (first | ((refine w_skip hA rfl rfl rfl ?_); clear hA; intro a hA) | ((refine w_ys hA hS (by first | exact y_gtr_t rfl rfl rfl (by omega) | exact y_gtr_f rfl rfl rfl (by omega)) rfl rfl rfl ?_); clear hA; intro a hA))
        ((refine w_ys hA hS (by first | exact y_pick_t rfl rfl rfl | exact y_pick_f rfl rfl rfl) rfl rfl rfl ?_); clear hA; intro a hA)
        ((refine w_ys hA hS (y_assign rfl rfl) rfl rfl rfl ?_); clear hA; intro a hA)
        refine w_nil ?_
        repeat (first | refine c_seq ?_ | refine c_region ?_ | refine c_block ?_ | refine c_yes hA rfl ?_ | refine c_no hA rfl ?_ | refine c_skip ?_ | refine c_exit ?_ | refine c_ret ?_ | refine e_then ?_ | refine e_thenX ?_ | refine e_thenR ?_ | refine e_block ?_ | refine e_blockR ?_ | refine e_blockX ?_ | refine e_blockY rfl ?_)
        exact ⟨rfl, by rw [HW]; exact hA.keep [1, 5, 6, 8, 9, 10, 12, 13, 14]⟩
      · have HW : inW n data.length k1 = false := decide_eq_false (fun h => q3 h.2.2)
        repeat (first | refine c_seq ?_ | refine c_region ?_ | refine c_block ?_ | refine c_yes hA rfl ?_ | refine c_no hA rfl ?_ | refine c_skip ?_ | refine c_exit ?_ | refine c_ret ?_ | refine e_then ?_ | refine e_thenX ?_ | refine e_thenR ?_ | refine e_block ?_ | refine e_blockR ?_ | refine e_blockX ?_ | refine e_blockY rfl ?_)
        ((refine w_ys hA hS (y_move rfl rfl) rfl rfl rfl ?_); clear hA; intro a hA)
        ((refine w_ys hA hS (y_move rfl rfl) rfl rfl rfl ?_); clear hA; intro a hA)
        ((refine w_ys hA hS (y_len rfl rfl Tryd.underlying59) rfl rfl rfl ?_); clear hA; intro a hA)
        ((refine w_ys hA hS (by first | exact y_leq_t rfl rfl rfl (by omega) | exact y_leq_f rfl rfl rfl (by omega)) rfl rfl rfl ?_); clear hA; intro a hA)
        ((refine w_ys hA hS (y_move rfl rfl) rfl rfl rfl ?_); clear hA; intro a hA)
        (first | ((refine w_skip hA rfl rfl rfl ?_); clear hA; intro a hA) | ((refine w_ys hA hS (y_move rfl rfl) rfl rfl rfl ?_); clear hA; intro a hA))
        (first | ((refine w_skip hA rfl rfl rfl ?_); clear hA; intro a hA) | ((refine w_ys hA hS (y_move rfl rfl) rfl rfl rfl ?_); clear hA; intro a hA))
        (first | ((refine w_skip hA rfl rfl rfl ?_); clear hA; intro a hA) | ((refine w_ys hA hS (y_len rfl rfl Tryd.underlying59) rfl rfl rfl ?_); clear hA; intro a hA))
        (first | ((refine w_skip hA rfl rfl rfl ?_); clear hA; intro a hA) | ((refine w_ys hA hS (y_move rfl rfl) rfl rfl rfl ?_); clear hA; intro a hA))
        (first | ((refine w_skip hA rfl rfl rfl ?_); clear hA; intro a hA) | ((refine w_ys hA hS (y_sub rfl rfl rfl (by rfl) (by simp only [min_i64, max_i64]; omega) (by simp only [min_i64, max_i64]; omega)) rfl rfl rfl ?_); clear hA; intro a hA))
        (first | ((refine w_skip hA rfl rfl rfl ?_); clear hA; intro a hA) | ((refine w_ys hA hS (by first | exact y_gtr_t rfl rfl rfl (by omega) | exact y_gtr_f rfl rfl rfl (by omega)) rfl rfl rfl ?_); clear hA; intro a hA))
        ((refine w_ys hA hS (by first | exact y_pick_t rfl rfl rfl | exact y_pick_f rfl rfl rfl) rfl rfl rfl ?_); clear hA; intro a hA)
        ((refine w_ys hA hS (y_assign rfl rfl) rfl rfl rfl ?_); clear hA; intro a hA)
        refine w_nil ?_
        repeat (first | refine c_seq ?_ | refine c_region ?_ | refine c_block ?_ | refine c_yes hA rfl ?_ | refine c_no hA rfl ?_ | refine c_skip ?_ | refine c_exit ?_ | refine c_ret ?_ | refine e_then ?_ | refine e_thenX ?_ | refine e_thenR ?_ | refine e_block ?_ | refine e_blockR ?_ | refine e_blockX ?_ | refine e_blockY rfl ?_)
        exact ⟨rfl, by rw [HW]; exact hA.keep [1, 5, 6, 8, 9, 10, 12, 13, 14]⟩
    · have HW : inW n data.length k1 = false := decide_eq_false (fun h => q2 h.2.1)
      repeat (first | refine c_seq ?_ | refine c_region ?_ | refine c_block ?_ | refine c_yes hA rfl ?_ | refine c_no hA rfl ?_ | refine c_skip ?_ | refine c_exit ?_ | refine c_ret ?_ | refine e_then ?_ | refine e_thenX ?_ | refine e_thenR ?_ | refine e_block ?_ | refine e_blockR ?_ | refine e_blockX ?_ | refine e_blockY rfl ?_)
      ((refine w_ys hA hS (y_move rfl rfl) rfl rfl rfl ?_); clear hA; intro a hA)
      ((refine w_ys hA hS (y_move rfl rfl) rfl rfl rfl ?_); clear hA; intro a hA)
      ((refine w_ys hA hS (y_len rfl rfl Tryd.underlying59) rfl rfl rfl ?_); clear hA; intro a hA)
      ((refine w_ys hA hS (by first | exact y_leq_t rfl rfl rfl (by omega) | exact y_leq_f rfl rfl rfl (by omega)) rfl rfl rfl ?_); clear hA; intro a hA)
      ((refine w_ys hA hS (y_move rfl rfl) rfl rfl rfl ?_); clear hA; intro a hA)
      (first | ((refine w_skip hA rfl rfl rfl ?_); clear hA; intro a hA) | ((refine w_ys hA hS (y_move rfl rfl) rfl rfl rfl ?_); clear hA; intro a hA))
      (first | ((refine w_skip hA rfl rfl rfl ?_); clear hA; intro a hA) | ((refine w_ys hA hS (y_move rfl rfl) rfl rfl rfl ?_); clear hA; intro a hA))
      (first | ((refine w_skip hA rfl rfl rfl ?_); clear hA; intro a hA) | ((refine w_ys hA hS (y_len rfl rfl Tryd.underlying59) rfl rfl rfl ?_); clear hA; intro a hA))
      (first | ((refine w_skip hA rfl rfl rfl ?_); clear hA; intro a hA) | ((refine w_ys hA hS (y_move rfl rfl) rfl rfl rfl ?_); clear hA; intro a hA))
      (first | ((refine w_skip hA rfl rfl rfl ?_); clear hA; intro a hA) | ((refine w_ys hA hS (y_sub rfl rfl rfl (by rfl) (by simp only [min_i64, max_i64]; omega) (by simp only [min_i64, max_i64]; omega)) rfl rfl rfl ?_); clear hA; intro a hA))
      (first | ((refine w_skip hA rfl rfl rfl ?_); clear hA; intro a hA) | ((refine w_ys hA hS (by first | exact y_gtr_t rfl rfl rfl (by omega) | exact y_gtr_f rfl rfl rfl (by omega)) rfl rfl rfl ?_); clear hA; intro a hA))
      ((refine w_ys hA hS (by first | exact y_pick_t rfl rfl rfl | exact y_pick_f rfl rfl rfl) rfl rfl rfl ?_); clear hA; intro a hA)
      ((refine w_ys hA hS (y_assign rfl rfl) rfl rfl rfl ?_); clear hA; intro a hA)
      refine w_nil ?_
      repeat (first | refine c_seq ?_ | refine c_region ?_ | refine c_block ?_ | refine c_yes hA rfl ?_ | refine c_no hA rfl ?_ | refine c_skip ?_ | refine c_exit ?_ | refine c_ret ?_ | refine e_then ?_ | refine e_thenX ?_ | refine e_thenR ?_ | refine e_block ?_ | refine e_blockR ?_ | refine e_blockX ?_ | refine e_blockY rfl ?_)
      exact ⟨rfl, by rw [HW]; exact hA.keep [1, 5, 6, 8, 9, 10, 12, 13, 14]⟩
  · clear hA
    rintro a _ ⟨rfl, hA⟩
    obtain ⟨j, hj⟩ : ∃ j, k1 = j + 1 := ⟨k1 - 1, by omega⟩
    have hkj : k1 - 1 = j := by omega
    have hstl := HK.out.stl
    have hj64 : j < 64 := by omega
    by_cases hin : inW n data.length k1 = true
    · obtain ⟨y, hy⟩ : ∃ y, st[j]? = some y := ⟨_, List.getElem?_eq_getElem (by omega)⟩
      rw [hin] at hA
      obtain ⟨s2, e1, e2⟩ := HK.out.set_ok hin (by rw [hkj]; exact hy) (t := 2) (by omega) (by omega)
      rw [hset] at e1
      obtain ⟨rfl, rfl⟩ := Prod.mk.inj e1
      rw [hkj] at e2
      have hA' := hA
      try dsimp only [errV] at hA'
      clear hA
      have hA := hA'
      clear hA'
      repeat (first | refine c_seq ?_ | refine c_region ?_ | refine c_block ?_ | refine c_yes hA rfl ?_ | refine c_no hA rfl ?_ | refine c_skip ?_ | refine c_exit ?_ | refine c_ret ?_ | refine e_then ?_ | refine e_thenX ?_ | refine e_thenR ?_ | refine e_block ?_ | refine e_blockR ?_ | refine e_blockX ?_ | refine e_blockY rfl ?_)
      ((refine w_ys hA hS (by first | exact y_boxN 0 rfl rfl rfl Tryd.underlying32 (by rfl) sz32 (by rfl) | exact y_boxN 1 rfl rfl rfl Tryd.underlying32 (by rfl) sz32 (by rfl) | exact y_boxN 2 rfl rfl rfl Tryd.underlying32 (by rfl) sz32 (by rfl) | exact y_boxN 3 rfl rfl rfl Tryd.underlying32 (by rfl) sz32 (by rfl) | exact y_boxN 4 rfl rfl rfl Tryd.underlying32 (by rfl) sz32 (by rfl) | exact y_boxN 5 rfl rfl rfl Tryd.underlying32 (by rfl) sz32 (by rfl)) rfl rfl rfl ?_); clear hA; intro a hA)
      ((refine w_ys hA hS (y_move rfl rfl) rfl rfl rfl ?_); clear hA; intro a hA)
      ((refine w_ys hA hS (y_conv rfl rfl Tryd.underlying3 Tryd.underlying23 (by simp only [min_u32, max_u32]; omega) (by simp only [min_u32, max_u32]; omega)) rfl rfl rfl ?_); clear hA; intro a hA)
      ((refine w_call hA (f := 19) rfl rfl rfl rfl rfl Tryd.func19 (by kernel_rfl) rfl ?_); (refine (destroy_at s (UInt32.ofNat k1) _ _ hset' _ _ _ _ _ _ _ rfl rfl rfl hni rfl rfl rfl _ _ _ _ (hS.rd 0 rfl) hl1 hc1).mono ?_); rintro e w ⟨At, ct, rfl, hlt, hct, hrt, hbt⟩; refine ⟨_, rfl, ?_⟩; clear hA; intro a hA; (try dsimp only [errV, secV] at hA); have hT := hS.callRd hbt hrt; clear hS hbt hrt; have hS := hT; clear hT)
      ((refine w_ys hA hS (y_move rfl rfl) rfl rfl rfl ?_); clear hA; intro a hA)
      ((refine w_ys hA hS (y_extract rfl rfl rfl) rfl rfl rfl ?_); clear hA; intro a hA)
      ((refine w_ys hA hS (y_extract rfl rfl rfl) rfl rfl rfl ?_); clear hA; intro a hA)
      ((first | (refine w_store hA hS 0 rfl rfl rfl rfl rfl rfl rfl rfl sz32 rfl (Nat.le_of_ble_eq_true rfl) ?_) | (refine w_store hA hS 1 rfl rfl rfl rfl rfl rfl rfl rfl sz32 rfl (Nat.le_of_ble_eq_true rfl) ?_) | (refine w_store hA hS 2 rfl rfl rfl rfl rfl rfl rfl rfl sz32 rfl (Nat.le_of_ble_eq_true rfl) ?_) | (refine w_store hA hS 3 rfl rfl rfl rfl rfl rfl rfl rfl sz32 rfl (Nat.le_of_ble_eq_true rfl) ?_) | (refine w_store hA hS 4 rfl rfl rfl rfl rfl rfl rfl rfl sz32 rfl (Nat.le_of_ble_eq_true rfl) ?_) | (refine w_store hA hS 5 rfl rfl rfl rfl rfl rfl rfl rfl sz32 rfl (Nat.le_of_ble_eq_true rfl) ?_)); clear hS; intro w hS; (try dsimp only [putL, List.set] at hS))
      ((refine w_ys hA hS (y_assign rfl rfl) rfl rfl rfl ?_); clear hA; intro a hA)
      refine w_nil ?_
      repeat (first | refine c_seq ?_ | refine c_region ?_ | refine c_block ?_ | refine c_yes hA rfl ?_ | refine c_no hA rfl ?_ | refine c_skip ?_ | refine c_exit ?_ | refine c_ret ?_ | refine e_then ?_ | refine e_thenX ?_ | refine e_thenR ?_ | refine e_block ?_ | refine e_blockR ?_ | refine e_blockX ?_ | refine e_blockY rfl ?_)
      ((refine w_ys hA hS (y_move rfl rfl) rfl rfl rfl ?_); clear hA; intro a hA)
      ((refine w_ys hA hS (by first | exact y_enil_t rfl rfl Tryd.underlying36 | exact y_enil_f rfl rfl Tryd.underlying36) rfl rfl rfl ?_); clear hA; intro a hA)
      ((refine w_ys hA hS (y_move rfl rfl) rfl rfl rfl ?_); clear hA; intro a hA)
      ((refine w_ys hA hS (y_bne rfl rfl rfl Tryd.underlying4 (by rfl)) rfl rfl rfl ?_); clear hA; intro a hA)
      refine w_nil ?_
      repeat (first | refine c_seq ?_ | refine c_region ?_ | refine c_block ?_ | refine c_yes hA rfl ?_ | refine c_no hA rfl ?_ | refine c_skip ?_ | refine c_exit ?_ | refine c_ret ?_ | refine e_then ?_ | refine e_thenX ?_ | refine e_thenR ?_ | refine e_block ?_ | refine e_blockR ?_ | refine e_blockX ?_ | refine e_blockY rfl ?_)
      ((refine w_ys hA hS (y_move rfl rfl) rfl rfl rfl ?_); clear hA; intro a hA)
      ((refine w_ys hA hS (by first | exact y_enil_t rfl rfl Tryd.underlying36 | exact y_enil_f rfl rfl Tryd.underlying36) rfl rfl rfl ?_); clear hA; intro a hA)
      refine w_nil ?_
      repeat (first | refine c_seq ?_ | refine c_region ?_ | refine c_block ?_ | refine c_yes hA rfl ?_ | refine c_no hA rfl ?_ | refine c_skip ?_ | refine c_exit ?_ | refine c_ret ?_ | refine e_then ?_ | refine e_thenX ?_ | refine e_thenR ?_ | refine e_block ?_ | refine e_blockR ?_ | refine e_blockX ?_ | refine e_blockY rfl ?_)
      ((refine w_ys hA hS (y_move rfl rfl) rfl rfl rfl ?_); clear hA; intro a hA)
      ((refine w_ys hA hS (y_sub rfl rfl rfl (by rfl) (by simp only [min_i64, max_i64]; omega) (by simp only [min_i64, max_i64]; omega)) rfl rfl rfl ?_); clear hA; intro a hA)
      ((refine w_ys hA hS (y_rem (r := (j : Int)) rfl rfl rfl (by omega) (by omega) (by omega)) rfl rfl rfl ?_); clear hA; intro a hA)
      ((refine w_ys hA hS (y_elemA (j := j) rfl rfl rfl Tryd.underlying60 sz3 (by omega) (by omega) (by omega)) rfl rfl rfl ?_); clear hA; intro a hA)
      ((refine w_store hA hS 2 rfl rfl rfl rfl rfl rfl rfl rfl sz3 (by rfl) (by simp; omega) ?_); clear hS; intro w hS; (try dsimp only [putL, List.set] at hS); rw [st_put] at hS)
      refine w_nil ?_
      repeat (first | refine c_seq ?_ | refine c_region ?_ | refine c_block ?_ | refine c_yes hA rfl ?_ | refine c_no hA rfl ?_ | refine c_skip ?_ | refine c_exit ?_ | refine c_ret ?_ | refine e_then ?_ | refine e_thenX ?_ | refine e_thenR ?_ | refine e_block ?_ | refine e_blockR ?_ | refine e_blockX ?_ | refine e_blockY rfl ?_)
      refine h _ _ ⟨data, st.set j 2, s', none, At, A8, ct, c8, Lr, hA.keep [1, 5, 6, 8, 9, 10, 14, 15], .inl ⟨rfl, e2⟩, by omega, hlt, hct, hl8, hc8, HRW.out, hS⟩
    · have hin : inW n data.length k1 = false := by simpa using hin
      rw [hin] at hA
      have e1 := HK.out.set_out (k := k1) (by omega) hin 2
      rw [hset] at e1
      obtain ⟨rfl, rfl⟩ := Prod.mk.inj e1
      have hA' := hA
      try dsimp only [errV] at hA'
      clear hA
      have hA := hA'
      clear hA'
      repeat (first | refine c_seq ?_ | refine c_region ?_ | refine c_block ?_ | refine c_yes hA rfl ?_ | refine c_no hA rfl ?_ | refine c_skip ?_ | refine c_exit ?_ | refine c_ret ?_ | refine e_then ?_ | refine e_thenX ?_ | refine e_thenR ?_ | refine e_block ?_ | refine e_blockR ?_ | refine e_blockX ?_ | refine e_blockY rfl ?_)
      ((refine w_ys hA hS (by first | exact y_boxN 0 rfl rfl rfl Tryd.underlying32 (by rfl) sz32 (by rfl) | exact y_boxN 1 rfl rfl rfl Tryd.underlying32 (by rfl) sz32 (by rfl) | exact y_boxN 2 rfl rfl rfl Tryd.underlying32 (by rfl) sz32 (by rfl) | exact y_boxN 3 rfl rfl rfl Tryd.underlying32 (by rfl) sz32 (by rfl) | exact y_boxN 4 rfl rfl rfl Tryd.underlying32 (by rfl) sz32 (by rfl) | exact y_boxN 5 rfl rfl rfl Tryd.underlying32 (by rfl) sz32 (by rfl)) rfl rfl rfl ?_); clear hA; intro a hA)
      ((refine w_ys hA hS (y_move rfl rfl) rfl rfl rfl ?_); clear hA; intro a hA)
      ((refine w_ys hA hS (y_conv rfl rfl Tryd.underlying3 Tryd.underlying23 (by simp only [min_u32, max_u32]; omega) (by simp only [min_u32, max_u32]; omega)) rfl rfl rfl ?_); clear hA; intro a hA)
      ((refine w_call hA (f := 19) rfl rfl rfl rfl rfl Tryd.func19 (by kernel_rfl) rfl ?_); (refine (destroy_at s (UInt32.ofNat k1) _ _ hset' _ _ _ _ _ _ _ rfl rfl rfl hni rfl rfl rfl _ _ _ _ (hS.rd 0 rfl) hl1 hc1).mono ?_); rintro e w ⟨At, ct, rfl, hlt, hct, hrt, hbt⟩; refine ⟨_, rfl, ?_⟩; clear hA; intro a hA; (try dsimp only [errV, secV] at hA); have hT := hS.callRd hbt hrt; clear hS hbt hrt; have hS := hT; clear hT)
      ((refine w_ys hA hS (y_move rfl rfl) rfl rfl rfl ?_); clear hA; intro a hA)
      ((refine w_ys hA hS (y_extract rfl rfl rfl) rfl rfl rfl ?_); clear hA; intro a hA)
      ((refine w_ys hA hS (y_extract rfl rfl rfl) rfl rfl rfl ?_); clear hA; intro a hA)
      ((first | (refine w_store hA hS 0 rfl rfl rfl rfl rfl rfl rfl rfl sz32 rfl (Nat.le_of_ble_eq_true rfl) ?_) | (refine w_store hA hS 1 rfl rfl rfl rfl rfl rfl rfl rfl sz32 rfl (Nat.le_of_ble_eq_true rfl) ?_) | (refine w_store hA hS 2 rfl rfl rfl rfl rfl rfl rfl rfl sz32 rfl (Nat.le_of_ble_eq_true rfl) ?_) | (refine w_store hA hS 3 rfl rfl rfl rfl rfl rfl rfl rfl sz32 rfl (Nat.le_of_ble_eq_true rfl) ?_) | (refine w_store hA hS 4 rfl rfl rfl rfl rfl rfl rfl rfl sz32 rfl (Nat.le_of_ble_eq_true rfl) ?_) | (refine w_store hA hS 5 rfl rfl rfl rfl rfl rfl rfl rfl sz32 rfl (Nat.le_of_ble_eq_true rfl) ?_)); clear hS; intro w hS; (try dsimp only [putL, List.set] at hS))
      ((refine w_ys hA hS (y_assign rfl rfl) rfl rfl rfl ?_); clear hA; intro a hA)
      refine w_nil ?_
      repeat (first | refine c_seq ?_ | refine c_region ?_ | refine c_block ?_ | refine c_yes hA rfl ?_ | refine c_no hA rfl ?_ | refine c_skip ?_ | refine c_exit ?_ | refine c_ret ?_ | refine e_then ?_ | refine e_thenX ?_ | refine e_thenR ?_ | refine e_block ?_ | refine e_blockR ?_ | refine e_blockX ?_ | refine e_blockY rfl ?_)
      ((refine w_ys hA hS (y_move rfl rfl) rfl rfl rfl ?_); clear hA; intro a hA)
      ((refine w_ys hA hS (by first | exact y_enil_t rfl rfl Tryd.underlying36 | exact y_enil_f rfl rfl Tryd.underlying36) rfl rfl rfl ?_); clear hA; intro a hA)
      ((refine w_ys hA hS (y_move rfl rfl) rfl rfl rfl ?_); clear hA; intro a hA)
      ((refine w_ys hA hS (y_bne rfl rfl rfl Tryd.underlying4 (by rfl)) rfl rfl rfl ?_); clear hA; intro a hA)
      refine w_nil ?_
      repeat (first | refine c_seq ?_ | refine c_region ?_ | refine c_block ?_ | refine c_yes hA rfl ?_ | refine c_no hA rfl ?_ | refine c_skip ?_ | refine c_exit ?_ | refine c_ret ?_ | refine e_then ?_ | refine e_thenX ?_ | refine e_thenR ?_ | refine e_block ?_ | refine e_blockR ?_ | refine e_blockX ?_ | refine e_blockY rfl ?_)
      ((refine w_ys hA hS (y_move rfl rfl) rfl rfl rfl ?_); clear hA; intro a hA)
      ((refine w_ys hA hS (by first | exact y_enil_t rfl rfl Tryd.underlying36 | exact y_enil_f rfl rfl Tryd.underlying36) rfl rfl rfl ?_); clear hA; intro a hA)
      refine w_nil ?_
      repeat (first | refine c_seq ?_ | refine c_region ?_ | refine c_block ?_ | refine c_yes hA rfl ?_ | refine c_no hA rfl ?_ | refine c_skip ?_ | refine c_exit ?_ | refine c_ret ?_ | refine e_then ?_ | refine e_thenX ?_ | refine e_thenR ?_ | refine e_block ?_ | refine e_blockR ?_ | refine e_blockX ?_ | refine e_blockY rfl ?_)
      refine h _ _ ⟨data, st, Sec.zero, some 5, At, A8, ct, c8, Lr, hA.keep [1, 5, 6, 8, 9, 10, 14, 15], .inr ⟨⟨5, rfl⟩, HK.out⟩, by omega, hlt, hct, hl8, hc8, HRW.out, hS⟩
set_option maxHeartbeats 1000000 in
theorem keep_k3 (hB : BeforeB2 w0 n k kk x s data vA b6 b9 b11 b14 A1 A8 Ax c1 c8 cx Lr D st a w) (hQ : NoSlot Q) (hq : 3 ≤ (x.now.toNat : Int) % 5)
    (h : ∀ a' w', AfterB2 w0 n k s data vA b6 b9 b11 b14 [.slice Ax x.data.length cx, .int .i64 x.cas, .int .u32 (x.n.toNat : Int), .int .u64 (x.now.toNat : Int)] A1 c1 (Dat.rd u8 Ax x.data :: D) st a' w' → Q .normal a' w') : keepB2.wp Tryd.prog Q a w := by
  obtain ⟨hA, hS, hk, hdk, hkk, hdx, hl1, hc1, hl8, hc8, hlx, hcx, hRW⟩ := hB
  obtain ⟨hn1, hn8⟩ := hk.n1
  have HK := Lib.hid hk
  have HRW := Lib.hid hRW
  clear hk hRW
  unfold keepB2
  conv => arg 2; whnf
  obtain ⟨hput, hk2⟩ := HK.out.put hdx (by omega) x.now
  have hi : I64 (data.length : Int) := ⟨by omega, by omega⟩
  have hlen : (data ++ [x.data]).length = data.length + 1 := by simp
  have hmap : (data ++ [x.data]).map strV = data.map strV ++ [strV x.data] := by simp
  repeat (first | refine c_seq ?_ | refine c_region ?_ | refine c_block ?_ | refine c_yes hA rfl ?_ | refine c_no hA rfl ?_ | refine c_skip ?_ | refine c_exit ?_ | refine c_ret ?_ | refine e_then ?_ | refine e_thenX ?_ | refine e_thenR ?_ | refine e_block ?_ | refine e_blockR ?_ | refine e_blockX ?_ | refine e_blockY rfl ?_)
  ((refine w_ys hA hS (by first | exact y_eql_t rfl rfl rfl (by omega) | exact y_eql_f rfl rfl rfl (by omega)) rfl rfl rfl ?_); clear hA; intro a hA)
  ((refine w_ys hA hS (y_assign rfl rfl) rfl rfl rfl ?_); clear hA; intro a hA)
  refine w_nil ?_
  repeat (first | refine c_seq ?_ | refine c_region ?_ | refine c_block ?_ | refine c_yes hA rfl ?_ | refine c_no hA rfl ?_ | refine c_skip ?_ | refine c_exit ?_ | refine c_ret ?_ | refine e_then ?_ | refine e_thenX ?_ | refine e_thenR ?_ | refine e_block ?_ | refine e_blockR ?_ | refine e_blockX ?_ | refine e_blockY rfl ?_)
  ((refine w_ys hA hS (by first | exact y_eql_t rfl rfl rfl (by omega) | exact y_eql_f rfl rfl rfl (by omega)) rfl rfl rfl ?_); clear hA; intro a hA)
  ((refine w_ys hA hS (y_assign rfl rfl) rfl rfl rfl ?_); clear hA; intro a hA)
  refine w_nil ?_
  repeat (first | refine c_seq ?_ | refine c_region ?_ | refine c_block ?_ | refine c_yes hA rfl ?_ | refine c_no hA rfl ?_ | refine c_skip ?_ | refine c_exit ?_ | refine c_ret ?_ | refine e_then ?_ | refine e_thenX ?_ | refine e_thenR ?_ | refine e_block ?_ | refine e_blockR ?_ | refine e_blockX ?_ | refine e_blockY rfl ?_)
  ((refine w_ys hA hS (by first | exact y_eql_t rfl rfl rfl (by omega) | exact y_eql_f rfl rfl rfl (by omega)) rfl rfl rfl ?_); clear hA; intro a hA)
  ((refine w_ys hA hS (y_assign rfl rfl) rfl rfl rfl ?_); clear hA; intro a hA)
  refine w_nil ?_
  repeat (first | refine c_seq ?_ | refine c_region ?_ | refine c_block ?_ | refine c_yes hA rfl ?_ | refine c_no hA rfl ?_ | refine c_skip ?_ | refine c_exit ?_ | refine c_ret ?_ | refine e_then ?_ | refine e_thenX ?_ | refine e_thenR ?_ | refine e_block ?_ | refine e_blockR ?_ | refine e_blockX ?_ | refine e_blockY rfl ?_)
  ((refine w_ys hA hS (by first | exact y_boxN 0 rfl rfl rfl Tryd.underlying32 (by rfl) sz32 (by rfl) | exact y_boxN 1 rfl rfl rfl Tryd.underlying32 (by rfl) sz32 (by rfl) | exact y_boxN 2 rfl rfl rfl Tryd.underlying32 (by rfl) sz32 (by rfl) | exact y_boxN 3 rfl rfl rfl Tryd.underlying32 (by rfl) sz32 (by rfl) | exact y_boxN 4 rfl rfl rfl Tryd.underlying32 (by rfl) sz32 (by rfl) | exact y_boxN 5 rfl rfl rfl Tryd.underlying32 (by rfl) sz32 (by rfl)) rfl rfl rfl ?_); clear hA; intro a hA)
  ((refine w_ys hA hS (y_field rfl rfl Tryd.underlying29 (by rfl) sz26 (by rfl)) rfl rfl rfl ?_); clear hA; intro a hA)
  ((refine w_ys hA hS (by first | exact y_box 0 rfl rfl rfl Tryd.underlying26 (by rfl) rfl | exact y_box 1 rfl rfl rfl Tryd.underlying26 (by rfl) rfl | exact y_box 2 rfl rfl rfl Tryd.underlying26 (by rfl) rfl | exact y_box 3 rfl rfl rfl Tryd.underlying26 (by rfl) rfl | exact y_box 4 rfl rfl rfl Tryd.underlying26 (by rfl) rfl | exact y_box 5 rfl rfl rfl Tryd.underlying26 (by rfl) rfl) rfl rfl rfl ?_); clear hA; intro a hA)
  ((refine w_ys hA hS (y_move rfl rfl) rfl rfl rfl ?_); clear hA; intro a hA)
  ((refine w_ys hA hS (y_len rfl rfl Tryd.underlying59) rfl rfl rfl ?_); clear hA; intro a hA)
  ((refine w_ys hA hS (y_field rfl rfl Tryd.underlying29 (by rfl) sz27 (by rfl)) rfl rfl rfl ?_); clear hA; intro a hA)
  ((refine w_ys hA hS (by first | exact y_box 0 rfl rfl rfl Tryd.underlying27 (by rfl) rfl | exact y_box 1 rfl rfl rfl Tryd.underlying27 (by rfl) rfl | exact y_box 2 rfl rfl rfl Tryd.underlying27 (by rfl) rfl | exact y_box 3 rfl rfl rfl Tryd.underlying27 (by rfl) rfl | exact y_box 4 rfl rfl rfl Tryd.underlying27 (by rfl) rfl | exact y_box 5 rfl rfl rfl Tryd.underlying27 (by rfl) rfl) rfl rfl rfl ?_); clear hA; intro a hA)
  ((refine w_call hA (f := 11) rfl rfl rfl rfl rfl Tryd.func11 (by kernel_rfl) rfl ?_); (refine (put_at s x.data (data.length : Int) x.now _ _ hput _ _ _ _ _ _ _ _ rfl rfl rfl rfl rfl rfl rfl rfl _ _ _ _ _ _ _ (hS.rd 0 rfl) hl1 hc1 (hS.rd 1 rfl) hlx hcx hi).mono ?_); rintro e w ⟨At, ct, rfl, hlt, hct, hrt, hbt⟩; refine ⟨_, rfl, ?_⟩; clear hA; intro a hA; (try dsimp only [errV, secV] at hA); have hT := hS.callRd hbt hrt; clear hS hbt hrt; have hS := hT; clear hT)
  ((refine w_ys hA hS (y_move rfl rfl) rfl rfl rfl ?_); clear hA; intro a hA)
  ((refine w_ys hA hS (y_extract rfl rfl rfl) rfl rfl rfl ?_); clear hA; intro a hA)
  ((refine w_ys hA hS (y_extract rfl rfl rfl) rfl rfl rfl ?_); clear hA; intro a hA)
  ((first | (refine w_store hA hS 0 rfl rfl rfl rfl rfl rfl rfl rfl sz32 rfl (Nat.le_of_ble_eq_true rfl) ?_) | (refine w_store hA hS 1 rfl rfl rfl rfl rfl rfl rfl rfl sz32 rfl (Nat.le_of_ble_eq_true rfl) ?_) | (refine w_store hA hS 2 rfl rfl rfl rfl rfl rfl rfl rfl sz32 rfl (Nat.le_of_ble_eq_true rfl) ?_) | (refine w_store hA hS 3 rfl rfl rfl rfl rfl rfl rfl rfl sz32 rfl (Nat.le_of_ble_eq_true rfl) ?_) | (refine w_store hA hS 4 rfl rfl rfl rfl rfl rfl rfl rfl sz32 rfl (Nat.le_of_ble_eq_true rfl) ?_) | (refine w_store hA hS 5 rfl rfl rfl rfl rfl rfl rfl rfl sz32 rfl (Nat.le_of_ble_eq_true rfl) ?_)); clear hS; intro w hS; (try dsimp only [putL, List.set] at hS))
  ((refine w_ys hA hS (y_assign rfl rfl) rfl rfl rfl ?_); clear hA; intro a hA)
  refine w_nil ?_
  repeat (first | refine c_seq ?_ | refine c_region ?_ | refine c_block ?_ | refine c_yes hA rfl ?_ | refine c_no hA rfl ?_ | refine c_skip ?_ | refine c_exit ?_ | refine c_ret ?_ | refine e_then ?_ | refine e_thenX ?_ | refine e_thenR ?_ | refine e_block ?_ | refine e_blockR ?_ | refine e_blockX ?_ | refine e_blockY rfl ?_)
  ((refine w_ys hA hS (y_move rfl rfl) rfl rfl rfl ?_); clear hA; intro a hA)
  ((refine w_ys hA hS (by first | exact y_enot_f rfl rfl Tryd.underlying36 | exact y_enot_t rfl rfl Tryd.underlying36) rfl rfl rfl ?_); clear hA; intro a hA)
  refine w_nil ?_
  repeat (first | refine c_seq ?_ | refine c_region ?_ | refine c_block ?_ | refine c_yes hA rfl ?_ | refine c_no hA rfl ?_ | refine c_skip ?_ | refine c_exit ?_ | refine c_ret ?_ | refine e_then ?_ | refine e_thenX ?_ | refine e_thenR ?_ | refine e_block ?_ | refine e_blockR ?_ | refine e_blockX ?_ | refine e_blockY rfl ?_)
  ((refine w_ys hA hS (y_move rfl rfl) rfl rfl rfl ?_); clear hA; intro a hA)
  ((refine w_ys hA hS (y_field rfl rfl Tryd.underlying29 (by rfl) sz26 (by rfl)) rfl rfl rfl ?_); clear hA; intro a hA)
  ((refine w_ys hA hS (by first | exact y_box 0 rfl rfl rfl Tryd.underlying26 (by rfl) rfl | exact y_box 1 rfl rfl rfl Tryd.underlying26 (by rfl) rfl | exact y_box 2 rfl rfl rfl Tryd.underlying26 (by rfl) rfl | exact y_box 3 rfl rfl rfl Tryd.underlying26 (by rfl) rfl | exact y_box 4 rfl rfl rfl Tryd.underlying26 (by rfl) rfl | exact y_box 5 rfl rfl rfl Tryd.underlying26 (by rfl) rfl) rfl rfl rfl ?_); clear hA; intro a hA)
  ((refine w_ys hA hS (y_str 2 rfl rfl rfl Tryd.underlying26 Tryd.underlying5 Tryd.underlying9 rfl) rfl rfl rfl ?_); clear hA; intro a hA)
  ((refine w_app1 hA hS [_, _, _, _] rfl HRW.out rfl rfl rfl rfl rfl rfl rfl rfl (fun _ => rfl) (fun _ => rfl) rfl Tryd.underlying59 [strV x.data] rfl rfl (fun _ => by kernel_rfl) (.string ⟨#[]⟩) 16 (by kernel_rfl) rfl (by omega) (by omega) (by omega) ?_); clear hA hS; intro A9 c9 a w Lr9 u hA hR9 hl9 hc9 hS)
  ((refine w_ys hA hS (y_assign rfl rfl) rfl rfl rfl ?_); clear hA; intro a hA)
  refine w_nil ?_
  repeat (first | refine c_seq ?_ | refine c_region ?_ | refine c_block ?_ | refine c_yes hA rfl ?_ | refine c_no hA rfl ?_ | refine c_skip ?_ | refine c_exit ?_ | refine c_ret ?_ | refine e_then ?_ | refine e_thenX ?_ | refine e_thenR ?_ | refine e_block ?_ | refine e_blockR ?_ | refine e_blockX ?_ | refine e_blockY rfl ?_)
  refine h _ _ ⟨data ++ [x.data], st, s.plus x.data x.now, none, At, A9, ct, c9, Lr9, by rw [hlen]; exact hA.keep [1, 5, 6, 8, 9, 10, 14, 15], .inl ⟨rfl, hk2⟩, by omega, hlt, hct, by rw [hlen]; exact hl9, hc9, by rw [hlen, hmap]; exact hR9, hS⟩
end
end Go.Proofs.YtpdjahejcdmopaaDoor
