/- EngineKeeps: the outer loop's body, and the whole, walked over an opaque frame. -/
import Derived.Test.YtpdjahejcdmopaaDoorKb
namespace Go.Proofs.YtpdjahejcdmopaaDoor
open Go.RowKit
set_option linter.unusedVariables false
set_option linter.unusedSimpArgs false
theorem Rd.ask {ok : Nat → Prop} {w : World} {A : Option Addr} {xs : List Ask} (h : Rd askK ok w A xs) (j : Nat) (x : Ask) (hx : xs[j]? = some x) :
    ∃ b o A1 c1, A = some ⟨b, o, none⟩ ∧ w.rangeAt b (o + j * 4) [.slice A1 x.data.length c1, .int .i64 x.cas, .int .u32 (x.n.toNat : Int), .int .u64 (x.now.toNat : Int)] ∧ x.data.length ≤ c1 ∧ c1 ≤ maxCap ∧ Rd u8 ok w A1 x.data := by
  obtain ⟨b, o, cs, hA, hb, ⟨A1, c1, rfl, h1, h2, h3, h4⟩, hc⟩ := h j x hx
  exact ⟨b, o, A1, c1, hA, fun i u hu => hc i u hu, h1, h2, h3⟩
theorem St.more {w0 w : World} {L : List Bx} {D : List Dat} (h : St w0 w L D) {α : Type} {d : Rep α} {A : Option Addr} {xs : List α} (hr : Rd d (Off L) w A xs) : St w0 w L (Dat.rd d A xs :: D) :=
  ⟨h.below, h.box, h.nodup, fun e he => by
    rcases List.mem_cons.1 he with rfl | he
    · exact hr
    · exact h.dat e he⟩
def KI (w0 : World) (n k m : Nat) (l : List Ask) (Al : Option Addr) (cl b6 b9 : Nat) (a : Act) (w : World) : Prop :=
  ∃ (data : List (List UInt8)) (st : List Int) (s : Sec) (A1 A8 : Option Addr) (c1 c8 : Nat) (Lr : List Bx), Fr a 280 [(1, .slice Al l.length cl), (5, .int .i64 n), (6, .pointer (some ⟨b6, 0, none⟩)), (8, .slice A8 data.length c8), (9, .pointer (some ⟨b9, 0, none⟩)), (10, .int .i64 k)] ∧
    Kp n s data st ∧ data.length ≤ m ∧ s.l.length ≤ c1 ∧ c1 ≤ maxCap ∧ data.length ≤ c8 ∧ c8 ≤ maxCap ∧ RowIs 9 1 Lr (.slice A8 data.length c8) data.length (data.map strV) ∧
    St w0 w (⟨b9, st.map (Value.int .i64), 60⟩ :: ⟨b6, [.slice A1 s.l.length c1, .int .u32 (s.last.toNat : Int), .int .i64 s.mx], 32⟩ :: Lr) [Dat.rd verK A1 s.l, Dat.rd askK Al l]
noncomputable def keepB1 : Code := (blockOf 1 (Tryd.f5.body.getD .skip)).getD .skip
section
variable {w0 : World} {n k kk : Nat} {x : Ask} {s : Sec} {data : List (List UInt8)} {vA : Value} {b6 b9 b11 b14 : Nat} {A1 A8 Ax : Option Addr} {c1 c8 cx : Nat} {Lr : List Bx} {D : List Dat} {st : List Int} {a : Act} {w : World} {Q : Exit → Act → World → Prop}
theorem keep_b2 (hB : BeforeB2 w0 n k kk x s data vA b6 b9 b11 b14 A1 A8 Ax c1 c8 cx Lr D st a w) (hQ : NoSlot Q)
    (h : ∀ a' w', AfterB2 w0 n k s data vA b6 b9 b11 b14 [.slice Ax x.data.length cx, .int .i64 x.cas, .int .u32 (x.n.toNat : Int), .int .u64 (x.now.toNat : Int)] A1 c1 (Dat.rd u8 Ax x.data :: D) st a' w' → Q .normal a' w') : keepB2.wp Tryd.prog Q a w := by
  by_cases q0 : (x.now.toNat : Int) % 5 = 0
  · exact keep_k0 hB hQ q0 h
  by_cases q1 : (x.now.toNat : Int) % 5 = 1
  · exact keep_k1 hB hQ q1 h
  by_cases q2 : (x.now.toNat : Int) % 5 = 2
  · exact keep_k2 hB hQ q2 h
  exact keep_k3 hB hQ (by omega) h
set_option maxHeartbeats 1000000 in
theorem keep_b1 {l : List Ask} {Al : Option Addr} {cl : Nat} (hI : KI w0 n k k l Al cl b6 b9 a w) (hkl : k < l.length) (hk40 : k < 40) (hQ : NoSlot Q) (h : ∀ a' w', KI w0 n k (k + 1) l Al cl b6 b9 a' w' → Q .normal a' w') : keepB1.wp Tryd.prog Q a w := by
  obtain ⟨data, st, s, A1, A8, c1, c8, Lr, hA, hk, hdk, hl1, hc1, hl8, hc8, hRW, hS⟩ := hI
  obtain ⟨hn1, hn8⟩ := hk.n1
  have HK := Lib.hid hk
  have HRW := Lib.hid hRW
  obtain ⟨x, hxk⟩ : ∃ x, l[k]? = some x := ⟨_, List.getElem?_eq_getElem hkl⟩
  obtain ⟨bl, o, Ax, cx, rfl, hrange, hlx, hcx, hrx⟩ := (hS.rd 1 rfl).ask k x hxk
  have hT := (hS.more hrx).drop [Dat.rd verK A1 s.l, Dat.rd u8 Ax x.data, Dat.rd askK (some ⟨bl, o, none⟩) l] (by simp)
  clear hk hRW hS hrx hxk
  have hS := hT
  clear hT
  have hxn : (x.n.toNat : Int) ≤ 4294967295 := by have := x.n.toNat_lt; omega
  obtain ⟨kk, hkk⟩ : ∃ kk : Nat, x.n.toNat % 40 = kk := ⟨_, rfl⟩
  unfold keepB1
  conv => arg 2; whnf
  repeat (first | refine c_seq ?_ | refine c_region ?_ | refine c_block ?_ | refine c_yes hA rfl ?_ | refine c_no hA rfl ?_ | refine c_skip ?_ | refine c_exit ?_ | refine c_ret ?_ | refine e_then ?_ | refine e_thenX ?_ | refine e_thenR ?_ | refine e_block ?_ | refine e_blockR ?_ | refine e_blockX ?_ | refine e_blockY rfl ?_)
  ((refine w_ys hA hS (y_move rfl rfl) rfl rfl rfl ?_); clear hA; intro a hA)
  ((refine w_ys hA hS (y_move rfl rfl) rfl rfl rfl ?_); clear hA; intro a hA)
  ((refine w_ys hA hS (y_elem (j := k) rfl rfl rfl Tryd.underlying58 sz29 (by omega) (by omega) (by omega)) rfl rfl rfl ?_); clear hA; intro a hA)
  ((refine w_yl (S := fun w' => w' = w) hA (y_loadN (cs := [.slice Ax x.data.length cx, .int .i64 x.cas, .int .u32 (x.n.toNat : Int), .int .u64 (x.now.toNat : Int)]) rfl rfl Tryd.underlying29 rfl (by exact sz29) (fun w' e => by rw [e]; exact hrange)) rfl rfl rfl rfl ?_); clear hA; intro a hA)
  ((refine w_alloc hA hS rfl rfl rfl rfl zv29 ?_); clear hA hS; intro b11 a w hA hS)
  ((first | (refine w_store hA hS 0 rfl rfl rfl rfl rfl rfl rfl rfl sz29 rfl (Nat.le_of_ble_eq_true rfl) ?_) | (refine w_store hA hS 1 rfl rfl rfl rfl rfl rfl rfl rfl sz29 rfl (Nat.le_of_ble_eq_true rfl) ?_) | (refine w_store hA hS 2 rfl rfl rfl rfl rfl rfl rfl rfl sz29 rfl (Nat.le_of_ble_eq_true rfl) ?_) | (refine w_store hA hS 3 rfl rfl rfl rfl rfl rfl rfl rfl sz29 rfl (Nat.le_of_ble_eq_true rfl) ?_) | (refine w_store hA hS 4 rfl rfl rfl rfl rfl rfl rfl rfl sz29 rfl (Nat.le_of_ble_eq_true rfl) ?_) | (refine w_store hA hS 5 rfl rfl rfl rfl rfl rfl rfl rfl sz29 rfl (Nat.le_of_ble_eq_true rfl) ?_)); clear hS; intro w hS; (try dsimp only [putL, List.set] at hS))
  refine w_nil ?_
  by_cases hbig : 100 < x.data.length
  · repeat (first | refine c_seq ?_ | refine c_region ?_ | refine c_block ?_ | refine c_yes hA rfl ?_ | refine c_no hA rfl ?_ | refine c_skip ?_ | refine c_exit ?_ | refine c_ret ?_ | refine e_then ?_ | refine e_thenX ?_ | refine e_thenR ?_ | refine e_block ?_ | refine e_blockR ?_ | refine e_blockX ?_ | refine e_blockY rfl ?_)
    ((refine w_ys hA hS (y_field rfl rfl Tryd.underlying29 (by rfl) sz26 (by rfl)) rfl rfl rfl ?_); clear hA; intro a hA)
    ((refine w_ys hA hS (by first | exact y_box 0 rfl rfl rfl Tryd.underlying26 (by rfl) rfl | exact y_box 1 rfl rfl rfl Tryd.underlying26 (by rfl) rfl | exact y_box 2 rfl rfl rfl Tryd.underlying26 (by rfl) rfl | exact y_box 3 rfl rfl rfl Tryd.underlying26 (by rfl) rfl | exact y_box 4 rfl rfl rfl Tryd.underlying26 (by rfl) rfl | exact y_box 5 rfl rfl rfl Tryd.underlying26 (by rfl) rfl) rfl rfl rfl ?_); clear hA; intro a hA)
    ((refine w_ys hA hS (y_len rfl rfl Tryd.underlying26) rfl rfl rfl ?_); clear hA; intro a hA)
    ((refine w_ys hA hS (by first | exact y_gtr_t rfl rfl rfl (by omega) | exact y_gtr_f rfl rfl rfl (by omega)) rfl rfl rfl ?_); clear hA; intro a hA)
    refine w_nil ?_
    repeat (first | refine c_seq ?_ | refine c_region ?_ | refine c_block ?_ | refine c_yes hA rfl ?_ | refine c_no hA rfl ?_ | refine c_skip ?_ | refine c_exit ?_ | refine c_ret ?_ | refine e_then ?_ | refine e_thenX ?_ | refine e_thenR ?_ | refine e_block ?_ | refine e_blockR ?_ | refine e_blockX ?_ | refine e_blockY rfl ?_)
    exact h _ _ ⟨data, st, s, A1, A8, c1, c8, Lr, hA.keep [1, 5, 6, 8, 9, 10], HK.out, by omega, hl1, hc1, hl8, hc8, HRW.out, (hS.sub _ (List.sublist_cons_self _ _)).drop _ (by simp)⟩
  repeat (first | refine c_seq ?_ | refine c_region ?_ | refine c_block ?_ | refine c_yes hA rfl ?_ | refine c_no hA rfl ?_ | refine c_skip ?_ | refine c_exit ?_ | refine c_ret ?_ | refine e_then ?_ | refine e_thenX ?_ | refine e_thenR ?_ | refine e_block ?_ | refine e_blockR ?_ | refine e_blockX ?_ | refine e_blockY rfl ?_)
  ((refine w_ys hA hS (y_field rfl rfl Tryd.underlying29 (by rfl) sz26 (by rfl)) rfl rfl rfl ?_); clear hA; intro a hA)
  ((refine w_ys hA hS (by first | exact y_box 0 rfl rfl rfl Tryd.underlying26 (by rfl) rfl | exact y_box 1 rfl rfl rfl Tryd.underlying26 (by rfl) rfl | exact y_box 2 rfl rfl rfl Tryd.underlying26 (by rfl) rfl | exact y_box 3 rfl rfl rfl Tryd.underlying26 (by rfl) rfl | exact y_box 4 rfl rfl rfl Tryd.underlying26 (by rfl) rfl | exact y_box 5 rfl rfl rfl Tryd.underlying26 (by rfl) rfl) rfl rfl rfl ?_); clear hA; intro a hA)
  ((refine w_ys hA hS (y_len rfl rfl Tryd.underlying26) rfl rfl rfl ?_); clear hA; intro a hA)
  ((refine w_ys hA hS (by first | exact y_gtr_t rfl rfl rfl (by omega) | exact y_gtr_f rfl rfl rfl (by omega)) rfl rfl rfl ?_); clear hA; intro a hA)
  refine w_nil ?_
  repeat (first | refine c_seq ?_ | refine c_region ?_ | refine c_block ?_ | refine c_yes hA rfl ?_ | refine c_no hA rfl ?_ | refine c_skip ?_ | refine c_exit ?_ | refine c_ret ?_ | refine e_then ?_ | refine e_thenX ?_ | refine e_thenR ?_ | refine e_block ?_ | refine e_blockR ?_ | refine e_blockX ?_ | refine e_blockY rfl ?_)
  ((refine w_ys hA hS (y_field rfl rfl Tryd.underlying29 (by rfl) sz23 (by rfl)) rfl rfl rfl ?_); clear hA; intro a hA)
  ((refine w_ys hA hS (by first | exact y_box 0 rfl rfl rfl Tryd.underlying23 (by rfl) rfl | exact y_box 1 rfl rfl rfl Tryd.underlying23 (by rfl) rfl | exact y_box 2 rfl rfl rfl Tryd.underlying23 (by rfl) rfl | exact y_box 3 rfl rfl rfl Tryd.underlying23 (by rfl) rfl | exact y_box 4 rfl rfl rfl Tryd.underlying23 (by rfl) rfl | exact y_box 5 rfl rfl rfl Tryd.underlying23 (by rfl) rfl) rfl rfl rfl ?_); clear hA; intro a hA)
  ((refine w_ys hA hS (y_rem (r := (kk : Int)) rfl rfl rfl (by omega) (by omega) (by omega)) rfl rfl rfl ?_); clear hA; intro a hA)
  ((refine w_ys hA hS (y_conv rfl rfl Tryd.underlying23 Tryd.underlying3 (by simp only [min_i64, max_i64]; omega) (by simp only [min_i64, max_i64]; omega)) rfl rfl rfl ?_); clear hA; intro a hA)
  ((refine w_ys hA hS (y_assign rfl rfl) rfl rfl rfl ?_); clear hA; intro a hA)
  refine w_nil ?_
  refine e_then ?_
  refine c_cut (fun a' w' => w' = w ∧ Fr a' 280 [(1, .slice (some ⟨bl, o, none⟩) l.length cl), (5, .int .i64 n), (6, .pointer (some ⟨b6, 0, none⟩)), (8, .slice A8 data.length c8), (9, .pointer (some ⟨b9, 0, none⟩)), (10, .int .i64 k), (11, .pointer (some ⟨b11, 0, none⟩)), (12, .int .i64 kk), (13, .bool (inW n data.length kk))]) ?_ ?_
  · by_cases q1 : 1 ≤ kk
    · by_cases q2 : kk ≤ data.length
      · by_cases q3 : data.length < kk + n
        · have HW : inW n data.length kk = true := decide_eq_true ⟨q1, q2, q3⟩
          repeat (first | refine c_seq ?_ | refine c_region ?_ | refine c_block ?_ | refine c_yes hA rfl ?_ | refine c_no hA rfl ?_ | refine c_skip ?_ | refine c_exit ?_ | refine c_ret ?_ | refine e_then ?_ | refine e_thenX ?_ | refine e_thenR ?_ | refine e_block ?_ | refine e_blockR ?_ | refine e_blockX ?_ | refine e_blockY rfl ?_)
          ((refine w_ys hA hS (y_move rfl rfl) rfl rfl rfl ?_); clear hA; intro a hA)
          ((refine w_ys hA hS (by first | exact y_geq_t rfl rfl rfl (by omega) | exact y_geq_f rfl rfl rfl (by omega)) rfl rfl rfl ?_); clear hA; intro a hA)
          ((refine w_ys hA hS (y_move rfl rfl) rfl rfl rfl ?_); clear hA; intro a hA)
          (first | ((refine w_skip hA rfl rfl rfl ?_); clear hA; intro a hA) | ((refine w_ys hA hS (y_move rfl rfl) rfl rfl rfl ?_); clear hA; intro a hA))
          (first | ((refine w_skip hA rfl rfl rfl ?_); clear hA; intro a hA) | ((refine w_ys hA hS (y_move rfl rfl) rfl rfl rfl ?_); clear hA; intro a hA))
          (first | ((refine w_skip hA rfl rfl rfl ?_); clear hA; intro a hA) | ((refine w_ys hA hS (y_len rfl rfl Tryd.underlying59) rfl rfl rfl ?_); clear hA; intro a hA))
          (first | ((refine w_skip hA rfl rfl rfl ?_); clear hA; intro a hA) | ((refine w_ys hA hS (by first | exact y_leq_t rfl rfl rfl (by omega) | exact y_leq_f rfl rfl rfl (by omega)) rfl rfl rfl ?_); clear hA; intro a hA))
          ((refine w_ys hA hS (by first | exact y_pick_t rfl rfl rfl | exact y_pick_f rfl rfl rfl) rfl rfl rfl ?_); clear hA; intro a hA)
          ((refine w_ys hA hS (y_move rfl rfl) rfl rfl rfl ?_); clear hA; intro a hA)
          (first | ((refine w_skip hA rfl rfl rfl ?_); clear hA; intro a hA) | ((refine w_ys hA hS (y_move rfl rfl) rfl rfl rfl ?_); clear hA; intro a hA))
          (first | ((refine w_skip hA rfl rfl rfl ?_); clear hA; intro a hA) | ((refine w_ys hA hS (y_move rfl rfl) rfl rfl rfl ?_); clear hA; intro a hA))
          (first | ((refine w_skip hA rfl rfl rfl ?_); clear hA; intro a hA) | ((refine w_ys hA hS (y_len rfl rfl Tryd.underlying59) rfl rfl rfl ?_); clear hA; intro a hA))
          (first | ((refine w_skip hA rfl rfl rfl ?_); clear hA; intro a hA) | ((refine w_ys hA hS (y_move rfl rfl) rfl rfl rfl ?_); clear hA; intro a hA))
          (first | ((refine w_skip hA rfl rfl rfl ?_); clear hA; intro a hA) | ((refine w_ys hA hS (y_sub rfl rfl rfl (by rfl) (by simp only [min_i64, max_i64]; omega) (by simp only [min_i64, max_i64]; omega)) rfl rfl rfl ?_); clear hA; intro a hA))
          (first | ((refine w_skip hA rfl rfl rfl ?_); clear hA; intro a hA) | ((refine w_ys hA hS (by first | exact y_gtr_t rfl rfl rfl (by omega) | exact y_gtr_f rfl rfl rfl (by omega)) rfl rfl rfl ?_); clear hA; intro a hA))
          ((refine w_ys hA hS (by first | exact y_pick_t rfl rfl rfl | exact y_pick_f rfl rfl rfl) rfl rfl rfl ?_); clear hA; intro a hA)
          ((refine w_ys hA hS (y_assign rfl rfl) rfl rfl rfl ?_); clear hA; intro a hA)
          refine w_nil ?_
          repeat (first | refine c_seq ?_ | refine c_region ?_ | refine c_block ?_ | refine c_yes hA rfl ?_ | refine c_no hA rfl ?_ | refine c_skip ?_ | refine c_exit ?_ | refine c_ret ?_ | refine e_then ?_ | refine e_thenX ?_ | refine e_thenR ?_ | refine e_block ?_ | refine e_blockR ?_ | refine e_blockX ?_ | refine e_blockY rfl ?_)
          exact ⟨rfl, by rw [HW]; exact hA.keep [1, 5, 6, 8, 9, 10, 11, 12, 13]⟩
        · have HW : inW n data.length kk = false := decide_eq_false (fun h => q3 h.2.2)
          repeat (first | refine c_seq ?_ | refine c_region ?_ | refine c_block ?_ | refine c_yes hA rfl ?_ | refine c_no hA rfl ?_ | refine c_skip ?_ | refine c_exit ?_ | refine c_ret ?_ | refine e_then ?_ | refine e_thenX ?_ | refine e_thenR ?_ | refine e_block ?_ | refine e_blockR ?_ | refine e_blockX ?_ | refine e_blockY rfl ?_)
          ((refine w_ys hA hS (y_move rfl rfl) rfl rfl rfl ?_); clear hA; intro a hA)
          ((refine w_ys hA hS (by first | exact y_geq_t rfl rfl rfl (by omega) | exact y_geq_f rfl rfl rfl (by omega)) rfl rfl rfl ?_); clear hA; intro a hA)
          ((refine w_ys hA hS (y_move rfl rfl) rfl rfl rfl ?_); clear hA; intro a hA)
          (first | ((refine w_skip hA rfl rfl rfl ?_); clear hA; intro a hA) | ((refine w_ys hA hS (y_move rfl rfl) rfl rfl rfl ?_); clear hA; intro a hA))
          (first | ((refine w_skip hA rfl rfl rfl ?_); clear hA; intro a hA) | ((refine w_ys hA hS (y_move rfl rfl) rfl rfl rfl ?_); clear hA; intro a hA))
          (first | ((refine w_skip hA rfl rfl rfl ?_); clear hA; intro a hA) | ((refine w_ys hA hS (y_len rfl rfl Tryd.underlying59) rfl rfl rfl ?_); clear hA; intro a hA))
          (first | ((refine w_skip hA rfl rfl rfl ?_); clear hA; intro a hA) | ((refine w_ys hA hS (by first | exact y_leq_t rfl rfl rfl (by omega) | exact y_leq_f rfl rfl rfl (by omega)) rfl rfl rfl ?_); clear hA; intro a hA))
          ((refine w_ys hA hS (by first | exact y_pick_t rfl rfl rfl | exact y_pick_f rfl rfl rfl) rfl rfl rfl ?_); clear hA; intro a hA)
          ((refine w_ys hA hS (y_move rfl rfl) rfl rfl rfl ?_); clear hA; intro a hA)
          (first | ((refine w_skip hA rfl rfl rfl ?_); clear hA; intro a hA) | ((refine w_ys hA hS (y_move rfl rfl) rfl rfl rfl ?_); clear hA; intro a hA))
          (first | ((refine w_skip hA rfl rfl rfl ?_); clear hA; intro a hA) | ((refine w_ys hA hS (y_move rfl rfl) rfl rfl rfl ?_); clear hA; intro a hA))
          (first | ((refine w_skip hA rfl rfl rfl ?_); clear hA; intro a hA) | ((refine w_ys hA hS (y_len rfl rfl Tryd.underlying59) rfl rfl rfl ?_); clear hA; intro a hA))
          (first | ((refine w_skip hA rfl rfl rfl ?_); clear hA; intro a hA) | ((refine w_ys hA hS (y_move rfl rfl) rfl rfl rfl ?_); clear hA; intro a hA))
          (first | ((refine w_skip hA rfl rfl rfl ?_); clear hA; intro a hA) | ((refine w_ys hA hS (y_sub rfl rfl rfl (by rfl) (by simp only [min_i64, max_i64]; omega) (by simp only [min_i64, max_i64]; omega)) rfl rfl rfl ?_); clear hA; intro a hA))
          (first | ((refine w_skip hA rfl rfl rfl ?_); clear hA; intro a hA) | ((refine w_ys hA hS (by first | exact y_gtr_t rfl rfl rfl (by omega) | exact y_gtr_f rfl rfl rfl (by omega)) rfl rfl rfl ?_); clear hA; intro a hA))
          ((refine w_ys hA hS (by first | exact y_pick_t rfl rfl rfl | exact y_pick_f rfl rfl rfl) rfl rfl rfl ?_); clear hA; intro a hA)
          ((refine w_ys hA hS (y_assign rfl rfl) rfl rfl rfl ?_); clear hA; intro a hA)
          refine w_nil ?_
          repeat (first | refine c_seq ?_ | refine c_region ?_ | refine c_block ?_ | refine c_yes hA rfl ?_ | refine c_no hA rfl ?_ | refine c_skip ?_ | refine c_exit ?_ | refine c_ret ?_ | refine e_then ?_ | refine e_thenX ?_ | refine e_thenR ?_ | refine e_block ?_ | refine e_blockR ?_ | refine e_blockX ?_ | refine e_blockY rfl ?_)
          exact ⟨rfl, by rw [HW]; exact hA.keep [1, 5, 6, 8, 9, 10, 11, 12, 13]⟩
      · have HW : inW n data.length kk = false := decide_eq_false (fun h => q2 h.2.1)
        repeat (first | refine c_seq ?_ | refine c_region ?_ | refine c_block ?_ | refine c_yes hA rfl ?_ | refine c_no hA rfl ?_ | refine c_skip ?_ | refine c_exit ?_ | refine c_ret ?_ | refine e_then ?_ | refine e_thenX ?_ | refine e_thenR ?_ | refine e_block ?_ | refine e_blockR ?_ | refine e_blockX ?_ | refine e_blockY rfl ?_)
        ((refine w_ys hA hS (y_move rfl rfl) rfl rfl rfl ?_); clear hA; intro a hA)
        ((refine w_ys hA hS (by first | exact y_geq_t rfl rfl rfl (by omega) | exact y_geq_f rfl rfl rfl (by omega)) rfl rfl rfl ?_); clear hA; intro a hA)
        ((refine w_ys hA hS (y_move rfl rfl) rfl rfl rfl ?_); clear hA; intro a hA)
        (first | ((refine w_skip hA rfl rfl rfl ?_); clear hA; intro a hA) | ((refine w_ys hA hS (y_move rfl rfl) rfl rfl rfl ?_); clear hA; intro a hA))
        (first | ((refine w_skip hA rfl rfl rfl ?_); clear hA; intro a hA) | ((refine w_ys hA hS (y_move rfl rfl) rfl rfl rfl ?_); clear hA; intro a hA))
        (first | ((refine w_skip hA rfl rfl rfl ?_); clear hA; intro a hA) | ((refine w_ys hA hS (y_len rfl rfl Tryd.underlying59) rfl rfl rfl ?_); clear hA; intro a hA))
        (first | ((refine w_skip hA rfl rfl rfl ?_); clear hA; intro a hA) | ((refine w_ys hA hS (by first | exact y_leq_t rfl rfl rfl (by omega) | exact y_leq_f rfl rfl rfl (by omega)) rfl rfl rfl ?_); clear hA; intro a hA))
        ((refine w_ys hA hS (by first | exact y_pick_t rfl rfl rfl | exact y_pick_f rfl rfl rfl) rfl rfl rfl ?_); clear hA; intro a hA)
        ((refine w_ys hA hS (y_move rfl rfl) rfl rfl rfl ?_); clear hA; intro a hA)
        (first | ((refine w_skip hA rfl rfl rfl ?_); clear hA; intro a hA) | ((refine w_ys hA hS (y_move rfl rfl) rfl rfl rfl ?_); clear hA; intro a hA))
        (first | ((refine w_skip hA rfl rfl rfl ?_); clear hA; intro a hA) | ((refine w_ys hA hS (y_move rfl rfl) rfl rfl rfl ?_); clear hA; intro a hA))
        (first | ((refine w_skip hA rfl rfl rfl ?_); clear hA; intro a hA) | ((refine w_ys hA hS (y_len rfl rfl Tryd.underlying59) rfl rfl rfl ?_); clear hA; intro a hA))
        (first | ((refine w_skip hA rfl rfl rfl ?_); clear hA; intro a hA) | ((refine w_ys hA hS (y_move rfl rfl) rfl rfl rfl ?_); clear hA; intro a hA))
        (first | ((refine w_skip hA rfl rfl rfl ?_); clear hA; intro a hA) | ((refine w_ys hA hS (y_sub rfl rfl rfl (by rfl) (by simp only [min_i64, max_i64]; omega) (by simp only [min_i64, max_i64]; omega)) rfl rfl rfl ?_); clear hA; intro a hA))
        (first | ((refine w_skip hA rfl rfl rfl ?_); clear hA; intro a hA) | ((refine w_ys hA hS (by first | exact y_gtr_t rfl rfl rfl (by omega) | exact y_gtr_f rfl rfl rfl (by omega)) rfl rfl rfl ?_); clear hA; intro a hA))
        ((refine w_ys hA hS (by first | exact y_pick_t rfl rfl rfl | exact y_pick_f rfl rfl rfl) rfl rfl rfl ?_); clear hA; intro a hA)
        ((refine w_ys hA hS (y_assign rfl rfl) rfl rfl rfl ?_); clear hA; intro a hA)
        refine w_nil ?_
        repeat (first | refine c_seq ?_ | refine c_region ?_ | refine c_block ?_ | refine c_yes hA rfl ?_ | refine c_no hA rfl ?_ | refine c_skip ?_ | refine c_exit ?_ | refine c_ret ?_ | refine e_then ?_ | refine e_thenX ?_ | refine e_thenR ?_ | refine e_block ?_ | refine e_blockR ?_ | refine e_blockX ?_ | refine e_blockY rfl ?_)
        exact ⟨rfl, by rw [HW]; exact hA.keep [1, 5, 6, 8, 9, 10, 11, 12, 13]⟩
    · have HW : inW n data.length kk = false := decide_eq_false (fun h => q1 h.1)
      repeat (first | refine c_seq ?_ | refine c_region ?_ | refine c_block ?_ | refine c_yes hA rfl ?_ | refine c_no hA rfl ?_ | refine c_skip ?_ | refine c_exit ?_ | refine c_ret ?_ | refine e_then ?_ | refine e_thenX ?_ | refine e_thenR ?_ | refine e_block ?_ | refine e_blockR ?_ | refine e_blockX ?_ | refine e_blockY rfl ?_)
      ((refine w_ys hA hS (y_move rfl rfl) rfl rfl rfl ?_); clear hA; intro a hA)
      ((refine w_ys hA hS (by first | exact y_geq_t rfl rfl rfl (by omega) | exact y_geq_f rfl rfl rfl (by omega)) rfl rfl rfl ?_); clear hA; intro a hA)
      ((refine w_ys hA hS (y_move rfl rfl) rfl rfl rfl ?_); clear hA; intro a hA)
      (first | ((refine w_skip hA rfl rfl rfl ?_); clear hA; intro a hA) | ((refine w_ys hA hS (y_move rfl rfl) rfl rfl rfl ?_); clear hA; intro a hA))
      (first | ((refine w_skip hA rfl rfl rfl ?_); clear hA; intro a hA) | ((refine w_ys hA hS (y_move rfl rfl) rfl rfl rfl ?_); clear hA; intro a hA))
      (first | ((refine w_skip hA rfl rfl rfl ?_); clear hA; intro a hA) | ((refine w_ys hA hS (y_len rfl rfl Tryd.underlying59) rfl rfl rfl ?_); clear hA; intro a hA))
      (first | ((refine w_skip hA rfl rfl rfl ?_); clear hA; intro a hA) | ((refine w_ys hA hS (by first | exact y_leq_t rfl rfl rfl (by omega) | exact y_leq_f rfl rfl rfl (by omega)) rfl rfl rfl ?_); clear hA; intro a hA))
      ((refine w_ys hA hS (by first | exact y_pick_t rfl rfl rfl | exact y_pick_f rfl rfl rfl) rfl rfl rfl ?_); clear hA; intro a hA)
      ((refine w_ys hA hS (y_move rfl rfl) rfl rfl rfl ?_); clear hA; intro a hA)
      (first | ((refine w_skip hA rfl rfl rfl ?_); clear hA; intro a hA) | ((refine w_ys hA hS (y_move rfl rfl) rfl rfl rfl ?_); clear hA; intro a hA))
      (first | ((refine w_skip hA rfl rfl rfl ?_); clear hA; intro a hA) | ((refine w_ys hA hS (y_move rfl rfl) rfl rfl rfl ?_); clear hA; intro a hA))
      (first | ((refine w_skip hA rfl rfl rfl ?_); clear hA; intro a hA) | ((refine w_ys hA hS (y_len rfl rfl Tryd.underlying59) rfl rfl rfl ?_); clear hA; intro a hA))
      (first | ((refine w_skip hA rfl rfl rfl ?_); clear hA; intro a hA) | ((refine w_ys hA hS (y_move rfl rfl) rfl rfl rfl ?_); clear hA; intro a hA))
      (first | ((refine w_skip hA rfl rfl rfl ?_); clear hA; intro a hA) | ((refine w_ys hA hS (y_sub rfl rfl rfl (by rfl) (by simp only [min_i64, max_i64]; omega) (by simp only [min_i64, max_i64]; omega)) rfl rfl rfl ?_); clear hA; intro a hA))
      (first | ((refine w_skip hA rfl rfl rfl ?_); clear hA; intro a hA) | ((refine w_ys hA hS (by first | exact y_gtr_t rfl rfl rfl (by omega) | exact y_gtr_f rfl rfl rfl (by omega)) rfl rfl rfl ?_); clear hA; intro a hA))
      ((refine w_ys hA hS (by first | exact y_pick_t rfl rfl rfl | exact y_pick_f rfl rfl rfl) rfl rfl rfl ?_); clear hA; intro a hA)
      ((refine w_ys hA hS (y_assign rfl rfl) rfl rfl rfl ?_); clear hA; intro a hA)
      refine w_nil ?_
      repeat (first | refine c_seq ?_ | refine c_region ?_ | refine c_block ?_ | refine c_yes hA rfl ?_ | refine c_no hA rfl ?_ | refine c_skip ?_ | refine c_exit ?_ | refine c_ret ?_ | refine e_then ?_ | refine e_thenX ?_ | refine e_thenR ?_ | refine e_block ?_ | refine e_blockR ?_ | refine e_blockX ?_ | refine e_blockY rfl ?_)
      exact ⟨rfl, by rw [HW]; exact hA.keep [1, 5, 6, 8, 9, 10, 11, 12, 13]⟩
  · clear hA
    rintro a _ ⟨rfl, hA⟩
    repeat (first | refine c_seq ?_ | refine c_region ?_ | refine c_block ?_ | refine c_yes hA rfl ?_ | refine c_no hA rfl ?_ | refine c_skip ?_ | refine c_exit ?_ | refine c_ret ?_ | refine e_then ?_ | refine e_thenX ?_ | refine e_thenR ?_ | refine e_block ?_ | refine e_blockR ?_ | refine e_blockX ?_ | refine e_blockY rfl ?_)
    ((refine w_alloc hA hS rfl rfl rfl rfl zv32 ?_); clear hA hS; intro b14 a w hA hS)
    refine w_nil ?_
    repeat (first | refine c_seq ?_ | refine c_region ?_ | refine c_block ?_ | refine c_yes hA rfl ?_ | refine c_no hA rfl ?_ | refine c_skip ?_ | refine c_exit ?_ | refine c_ret ?_ | refine e_then ?_ | refine e_thenX ?_ | refine e_thenR ?_ | refine e_block ?_ | refine e_blockR ?_ | refine e_blockX ?_ | refine e_blockY rfl ?_)
    ((refine w_ys hA hS (y_assign rfl rfl) rfl rfl rfl ?_); clear hA; intro a hA)
    refine w_nil ?_
    refine e_then ?_
    refine c_cut (AfterB2 w0 n k s data (.slice (some ⟨bl, o, none⟩) l.length cl) b6 b9 b11 b14 [.slice Ax x.data.length cx, .int .i64 x.cas, .int .u32 (x.n.toNat : Int), .int .u64 (x.now.toNat : Int)] A1 c1 [Dat.rd u8 Ax x.data, Dat.rd askK (some ⟨bl, o, none⟩) l] st) ?_ ?_
    · repeat (first | refine c_seq ?_ | refine c_region ?_ | refine c_block ?_ | refine c_yes hA rfl ?_ | refine c_no hA rfl ?_ | refine c_skip ?_ | refine c_exit ?_ | refine c_ret ?_ | refine e_then ?_ | refine e_thenX ?_ | refine e_thenR ?_ | refine e_block ?_ | refine e_blockR ?_ | refine e_blockX ?_ | refine e_blockY rfl ?_)
      ((refine w_ys hA hS (y_field rfl rfl Tryd.underlying29 (by rfl) sz27 (by rfl)) rfl rfl rfl ?_); clear hA; intro a hA)
      ((refine w_ys hA hS (by first | exact y_box 0 rfl rfl rfl Tryd.underlying27 (by rfl) rfl | exact y_box 1 rfl rfl rfl Tryd.underlying27 (by rfl) rfl | exact y_box 2 rfl rfl rfl Tryd.underlying27 (by rfl) rfl | exact y_box 3 rfl rfl rfl Tryd.underlying27 (by rfl) rfl | exact y_box 4 rfl rfl rfl Tryd.underlying27 (by rfl) rfl | exact y_box 5 rfl rfl rfl Tryd.underlying27 (by rfl) rfl) rfl rfl rfl ?_); clear hA; intro a hA)
      ((refine w_ys hA hS (y_rem rfl rfl rfl (by omega) (by omega) (by rfl)) rfl rfl rfl ?_); clear hA; intro a hA)
      refine w_nil ?_
      refine e_then ?_
      exact keep_b2 ⟨hA.keep [1, 5, 6, 8, 9, 10, 11, 12, 13, 14, 15, 71], hS, HK.out, by omega, by omega, by omega, hl1, hc1, hl8, hc8, hlx, hcx, HRW.out⟩ (by repeat first | exact hQ | refine NoSlot.then ?_ _ | refine NoSlot.block ?_ _ | exact NoSlot.body _ _) (fun _ _ h => h)
    · clear hA hS
      rintro a w ⟨data', st', s', eo, A', A8', c', c8', Lr', hA, halt, hd', hl', hc', hl8', hc8', hR', hS⟩
      rcases halt with ⟨rfl, hk'⟩ | ⟨⟨e, rfl⟩, hk'⟩
      · have hlast := hk'.last
        have hT := hA
        try dsimp only [errV] at hT
        clear hA
        have hA := hT
        clear hT
        repeat (first | refine c_seq ?_ | refine c_region ?_ | refine c_block ?_ | refine c_yes hA rfl ?_ | refine c_no hA rfl ?_ | refine c_skip ?_ | refine c_exit ?_ | refine c_ret ?_ | refine e_then ?_ | refine e_thenX ?_ | refine e_thenR ?_ | refine e_block ?_ | refine e_blockR ?_ | refine e_blockX ?_ | refine e_blockY rfl ?_)
        ((refine w_ys hA hS (y_move rfl rfl) rfl rfl rfl ?_); clear hA; intro a hA)
        ((refine w_ys hA hS (by first | exact y_enil_t rfl rfl Tryd.underlying36 | exact y_enil_f rfl rfl Tryd.underlying36) rfl rfl rfl ?_); clear hA; intro a hA)
        refine w_nil ?_
        repeat (first | refine c_seq ?_ | refine c_region ?_ | refine c_block ?_ | refine c_yes hA rfl ?_ | refine c_no hA rfl ?_ | refine c_skip ?_ | refine c_exit ?_ | refine c_ret ?_ | refine e_then ?_ | refine e_thenX ?_ | refine e_thenR ?_ | refine e_block ?_ | refine e_blockR ?_ | refine e_blockX ?_ | refine e_blockY rfl ?_)
        ((refine w_ys hA hS (by first | exact y_boxN 0 rfl rfl rfl Tryd.underlying32 (by rfl) sz32 (by rfl) | exact y_boxN 1 rfl rfl rfl Tryd.underlying32 (by rfl) sz32 (by rfl) | exact y_boxN 2 rfl rfl rfl Tryd.underlying32 (by rfl) sz32 (by rfl) | exact y_boxN 3 rfl rfl rfl Tryd.underlying32 (by rfl) sz32 (by rfl) | exact y_boxN 4 rfl rfl rfl Tryd.underlying32 (by rfl) sz32 (by rfl) | exact y_boxN 5 rfl rfl rfl Tryd.underlying32 (by rfl) sz32 (by rfl)) rfl rfl rfl ?_); clear hA; intro a hA)
        ((first | (refine w_store hA hS 0 rfl rfl rfl rfl rfl rfl rfl rfl sz32 rfl (Nat.le_of_ble_eq_true rfl) ?_) | (refine w_store hA hS 1 rfl rfl rfl rfl rfl rfl rfl rfl sz32 rfl (Nat.le_of_ble_eq_true rfl) ?_) | (refine w_store hA hS 2 rfl rfl rfl rfl rfl rfl rfl rfl sz32 rfl (Nat.le_of_ble_eq_true rfl) ?_) | (refine w_store hA hS 3 rfl rfl rfl rfl rfl rfl rfl rfl sz32 rfl (Nat.le_of_ble_eq_true rfl) ?_) | (refine w_store hA hS 4 rfl rfl rfl rfl rfl rfl rfl rfl sz32 rfl (Nat.le_of_ble_eq_true rfl) ?_) | (refine w_store hA hS 5 rfl rfl rfl rfl rfl rfl rfl rfl sz32 rfl (Nat.le_of_ble_eq_true rfl) ?_)); clear hS; intro w hS; (try dsimp only [putL, List.set] at hS))
        refine w_nil ?_
        repeat (first | refine c_seq ?_ | refine c_region ?_ | refine c_block ?_ | refine c_yes hA rfl ?_ | refine c_no hA rfl ?_ | refine c_skip ?_ | refine c_exit ?_ | refine c_ret ?_ | refine e_then ?_ | refine e_thenX ?_ | refine e_thenR ?_ | refine e_block ?_ | refine e_blockR ?_ | refine e_blockX ?_ | refine e_blockY rfl ?_)
        ((refine w_ys hA hS (y_assign rfl rfl) rfl rfl rfl ?_); clear hA; intro a hA)
        refine w_nil ?_
        refine e_then ?_
        have hT := (hS.sub _ ((List.sublist_cons_self _ _).trans (List.sublist_cons_self _ _))).drop [Dat.rd verK A' s'.l, Dat.rd askK (some ⟨bl, o, none⟩) l] (by simp)
        clear hS
        have hS := hT
        clear hT
        refine keep_in (hA.keep [1, 5, 6, 8, 9, 10, 16]) hS hk' (by omega) hl' hc' hl8' hc8' hR' (by repeat first | exact hQ | refine NoSlot.then ?_ _ | refine NoSlot.block ?_ _ | exact NoSlot.body _ _) (fun a w hA hS => ?_)
        repeat (first | refine c_seq ?_ | refine c_region ?_ | refine c_block ?_ | refine c_yes hA rfl ?_ | refine c_no hA rfl ?_ | refine c_skip ?_ | refine c_exit ?_ | refine c_ret ?_ | refine e_then ?_ | refine e_thenX ?_ | refine e_thenR ?_ | refine e_block ?_ | refine e_blockR ?_ | refine e_blockX ?_ | refine e_blockY rfl ?_)
        ((refine w_ys hA hS (y_field rfl rfl Tryd.underlying32 (by rfl) sz23 (by rfl)) rfl rfl rfl ?_); clear hA; intro a hA)
        ((refine w_ys hA hS (by first | exact y_box 0 rfl rfl rfl Tryd.underlying23 (by rfl) rfl | exact y_box 1 rfl rfl rfl Tryd.underlying23 (by rfl) rfl | exact y_box 2 rfl rfl rfl Tryd.underlying23 (by rfl) rfl | exact y_box 3 rfl rfl rfl Tryd.underlying23 (by rfl) rfl | exact y_box 4 rfl rfl rfl Tryd.underlying23 (by rfl) rfl | exact y_box 5 rfl rfl rfl Tryd.underlying23 (by rfl) rfl) rfl rfl rfl ?_); clear hA; intro a hA)
        ((refine w_ys hA hS (y_conv rfl rfl Tryd.underlying23 Tryd.underlying3 (by simp only [min_i64, max_i64]; omega) (by simp only [min_i64, max_i64]; omega)) rfl rfl rfl ?_); clear hA; intro a hA)
        ((refine w_ys hA hS (y_move rfl rfl) rfl rfl rfl ?_); clear hA; intro a hA)
        ((refine w_ys hA hS (y_len rfl rfl Tryd.underlying59) rfl rfl rfl ?_); clear hA; intro a hA)
        ((refine w_ys hA hS (by first | exact y_neq_t rfl rfl rfl (by omega) | exact y_neq_f rfl rfl rfl (by omega)) rfl rfl rfl ?_); clear hA; intro a hA)
        ((refine w_ys hA hS (y_move rfl rfl) rfl rfl rfl ?_); clear hA; intro a hA)
        (first | ((refine w_skip hA rfl rfl rfl ?_); clear hA; intro a hA) | ((refine w_ys hA hS (by first | exact y_boxN 0 rfl rfl rfl Tryd.underlying32 (by rfl) sz32 (by rfl) | exact y_boxN 1 rfl rfl rfl Tryd.underlying32 (by rfl) sz32 (by rfl) | exact y_boxN 2 rfl rfl rfl Tryd.underlying32 (by rfl) sz32 (by rfl) | exact y_boxN 3 rfl rfl rfl Tryd.underlying32 (by rfl) sz32 (by rfl) | exact y_boxN 4 rfl rfl rfl Tryd.underlying32 (by rfl) sz32 (by rfl) | exact y_boxN 5 rfl rfl rfl Tryd.underlying32 (by rfl) sz32 (by rfl)) rfl rfl rfl ?_); clear hA; intro a hA))
        (first | ((refine w_skip hA rfl rfl rfl ?_); clear hA; intro a hA) | ((refine w_call hA (f := 9) rfl rfl rfl rfl rfl Tryd.func9 (by kernel_rfl) rfl ?_); (refine (check_yes _ s' A' c' _ hk'.may (hS.rd 0 rfl) hl' hc').mono ?_); rintro e w ⟨rfl, hb⟩; refine ⟨_, rfl, ?_⟩; clear hA; intro a hA; (try dsimp only [errV, secV] at hA); have hT := hS.call hb; clear hS hb; have hS := hT; clear hT))
        (first | ((refine w_skip hA rfl rfl rfl ?_); clear hA; intro a hA) | ((refine w_ys hA hS (by first | exact y_enot_f rfl rfl Tryd.underlying36 | exact y_enot_t rfl rfl Tryd.underlying36) rfl rfl rfl ?_); clear hA; intro a hA))
        ((refine w_ys hA hS (by first | exact y_pick_t rfl rfl rfl | exact y_pick_f rfl rfl rfl) rfl rfl rfl ?_); clear hA; intro a hA)
        refine w_nil ?_
        repeat (first | refine c_seq ?_ | refine c_region ?_ | refine c_block ?_ | refine c_yes hA rfl ?_ | refine c_no hA rfl ?_ | refine c_skip ?_ | refine c_exit ?_ | refine c_ret ?_ | refine e_then ?_ | refine e_thenX ?_ | refine e_thenR ?_ | refine e_block ?_ | refine e_blockR ?_ | refine e_blockX ?_ | refine e_blockY rfl ?_)
        exact h _ _ ⟨data', st', s', A', A8', c', c8', Lr', hA.keep [1, 5, 6, 8, 9, 10], hk', by omega, hl', hc', hl8', hc8', hR', hS⟩
      · have hlast := hk'.last
        have hT := hA
        try dsimp only [errV] at hT
        clear hA
        have hA := hT
        clear hT
        repeat (first | refine c_seq ?_ | refine c_region ?_ | refine c_block ?_ | refine c_yes hA rfl ?_ | refine c_no hA rfl ?_ | refine c_skip ?_ | refine c_exit ?_ | refine c_ret ?_ | refine e_then ?_ | refine e_thenX ?_ | refine e_thenR ?_ | refine e_block ?_ | refine e_blockR ?_ | refine e_blockX ?_ | refine e_blockY rfl ?_)
        ((refine w_ys hA hS (y_move rfl rfl) rfl rfl rfl ?_); clear hA; intro a hA)
        ((refine w_ys hA hS (by first | exact y_enil_t rfl rfl Tryd.underlying36 | exact y_enil_f rfl rfl Tryd.underlying36) rfl rfl rfl ?_); clear hA; intro a hA)
        refine w_nil ?_
        repeat (first | refine c_seq ?_ | refine c_region ?_ | refine c_block ?_ | refine c_yes hA rfl ?_ | refine c_no hA rfl ?_ | refine c_skip ?_ | refine c_exit ?_ | refine c_ret ?_ | refine e_then ?_ | refine e_thenX ?_ | refine e_thenR ?_ | refine e_block ?_ | refine e_blockR ?_ | refine e_blockX ?_ | refine e_blockY rfl ?_)
        ((refine w_ys hA hS (y_assign rfl rfl) rfl rfl rfl ?_); clear hA; intro a hA)
        refine w_nil ?_
        refine e_then ?_
        have hT := (hS.sub _ ((List.sublist_cons_self _ _).trans (List.sublist_cons_self _ _))).drop [Dat.rd verK A1 s.l, Dat.rd askK (some ⟨bl, o, none⟩) l] (by simp)
        clear hS
        have hS := hT
        clear hT
        refine keep_in (hA.keep [1, 5, 6, 8, 9, 10, 16]) hS hk' (by omega) hl1 hc1 hl8' hc8' hR' (by repeat first | exact hQ | refine NoSlot.then ?_ _ | refine NoSlot.block ?_ _ | exact NoSlot.body _ _) (fun a w hA hS => ?_)
        repeat (first | refine c_seq ?_ | refine c_region ?_ | refine c_block ?_ | refine c_yes hA rfl ?_ | refine c_no hA rfl ?_ | refine c_skip ?_ | refine c_exit ?_ | refine c_ret ?_ | refine e_then ?_ | refine e_thenX ?_ | refine e_thenR ?_ | refine e_block ?_ | refine e_blockR ?_ | refine e_blockX ?_ | refine e_blockY rfl ?_)
        ((refine w_ys hA hS (y_field rfl rfl Tryd.underlying32 (by rfl) sz23 (by rfl)) rfl rfl rfl ?_); clear hA; intro a hA)
        ((refine w_ys hA hS (by first | exact y_box 0 rfl rfl rfl Tryd.underlying23 (by rfl) rfl | exact y_box 1 rfl rfl rfl Tryd.underlying23 (by rfl) rfl | exact y_box 2 rfl rfl rfl Tryd.underlying23 (by rfl) rfl | exact y_box 3 rfl rfl rfl Tryd.underlying23 (by rfl) rfl | exact y_box 4 rfl rfl rfl Tryd.underlying23 (by rfl) rfl | exact y_box 5 rfl rfl rfl Tryd.underlying23 (by rfl) rfl) rfl rfl rfl ?_); clear hA; intro a hA)
        ((refine w_ys hA hS (y_conv rfl rfl Tryd.underlying23 Tryd.underlying3 (by simp only [min_i64, max_i64]; omega) (by simp only [min_i64, max_i64]; omega)) rfl rfl rfl ?_); clear hA; intro a hA)
        ((refine w_ys hA hS (y_move rfl rfl) rfl rfl rfl ?_); clear hA; intro a hA)
        ((refine w_ys hA hS (y_len rfl rfl Tryd.underlying59) rfl rfl rfl ?_); clear hA; intro a hA)
        ((refine w_ys hA hS (by first | exact y_neq_t rfl rfl rfl (by omega) | exact y_neq_f rfl rfl rfl (by omega)) rfl rfl rfl ?_); clear hA; intro a hA)
        ((refine w_ys hA hS (y_move rfl rfl) rfl rfl rfl ?_); clear hA; intro a hA)
        (first | ((refine w_skip hA rfl rfl rfl ?_); clear hA; intro a hA) | ((refine w_ys hA hS (by first | exact y_boxN 0 rfl rfl rfl Tryd.underlying32 (by rfl) sz32 (by rfl) | exact y_boxN 1 rfl rfl rfl Tryd.underlying32 (by rfl) sz32 (by rfl) | exact y_boxN 2 rfl rfl rfl Tryd.underlying32 (by rfl) sz32 (by rfl) | exact y_boxN 3 rfl rfl rfl Tryd.underlying32 (by rfl) sz32 (by rfl) | exact y_boxN 4 rfl rfl rfl Tryd.underlying32 (by rfl) sz32 (by rfl) | exact y_boxN 5 rfl rfl rfl Tryd.underlying32 (by rfl) sz32 (by rfl)) rfl rfl rfl ?_); clear hA; intro a hA))
        (first | ((refine w_skip hA rfl rfl rfl ?_); clear hA; intro a hA) | ((refine w_call hA (f := 9) rfl rfl rfl rfl rfl Tryd.func9 (by kernel_rfl) rfl ?_); (refine (check_yes _ s A1 c1 _ hk'.may (hS.rd 0 rfl) hl1 hc1).mono ?_); rintro e w ⟨rfl, hb⟩; refine ⟨_, rfl, ?_⟩; clear hA; intro a hA; (try dsimp only [errV, secV] at hA); have hT := hS.call hb; clear hS hb; have hS := hT; clear hT))
        (first | ((refine w_skip hA rfl rfl rfl ?_); clear hA; intro a hA) | ((refine w_ys hA hS (by first | exact y_enot_f rfl rfl Tryd.underlying36 | exact y_enot_t rfl rfl Tryd.underlying36) rfl rfl rfl ?_); clear hA; intro a hA))
        ((refine w_ys hA hS (by first | exact y_pick_t rfl rfl rfl | exact y_pick_f rfl rfl rfl) rfl rfl rfl ?_); clear hA; intro a hA)
        refine w_nil ?_
        repeat (first | refine c_seq ?_ | refine c_region ?_ | refine c_block ?_ | refine c_yes hA rfl ?_ | refine c_no hA rfl ?_ | refine c_skip ?_ | refine c_exit ?_ | refine c_ret ?_ | refine e_then ?_ | refine e_thenX ?_ | refine e_thenR ?_ | refine e_block ?_ | refine e_blockR ?_ | refine e_blockX ?_ | refine e_blockY rfl ?_)
        exact h _ _ ⟨data', st', s, A1, A8', c1, c8', Lr', hA.keep [1, 5, 6, 8, 9, 10], hk', by omega, hl1, hc1, hl8', hc8', hR', hS⟩
end
set_option maxHeartbeats 1000000 in
theorem keep_calls (ok : Nat → Prop) (most : UInt8) (l : List Ask) (A : Option Addr) (c : Nat) (w : World) (hg : EVar w) (hr : Rd askK ok w A l) (hc : l.length ≤ c) (hcc : c ≤ maxCap) :
    Calls Tryd.prog 5 #[.int .u8 (most.toNat : Int), .slice A l.length c] w fun e w' => e = .returned (.bool true) ∧ Below w.heap.size w w' := by
  have HG := Lib.hid hg
  clear hg
  have hS := (St.begin w).arg (Dat.rd askK A l) hr
  clear hr
  revert HG
  generalize hw0 : w = w0 at hS ⊢
  clear hw0
  intro HG
  have hll : l.length ≤ 9223372036854775807 := Nat.le_trans hc hcc
  obtain ⟨n, hn⟩ : ∃ n : Nat, 1 + most.toNat % 8 = n := ⟨_, rfl⟩
  have hn1 : 1 ≤ n := by omega
  have hn8 : n ≤ 8 := by omega
  have hmb : (most.toNat : Int) ≤ 255 := by have := most.toNat_lt; omega
  have hnI : (1 : Int) + (most.toNat : Int) % 8 = (n : Int) := by omega
  obtain ⟨hnew, hkp⟩ := Kp.new n hn1 hn8
  have HNEW := Lib.hid hnew
  have HKP := Lib.hid hkp
  have HI : I64 (n : Int) := ⟨by omega, by omega⟩
  clear hn hnew hkp
  refine enter_fr (args := [_, _]) Tryd.func5 rfl Tryd.ntmps5 rfl ?_
  intro a hA
  dsimp only [List.zipIdx, List.map, Nat.reduceAdd] at hA
  repeat (first | refine c_seq ?_ | refine c_region ?_ | refine c_block ?_ | refine c_yes hA rfl ?_ | refine c_no hA rfl ?_ | refine c_skip ?_ | refine c_exit ?_ | refine c_ret ?_ | refine e_then ?_ | refine e_thenX ?_ | refine e_thenR ?_ | refine e_block ?_ | refine e_blockR ?_ | refine e_blockX ?_ | refine e_blockY rfl ?_)
  ((refine w_ys hA hS (y_assign rfl rfl) rfl rfl rfl ?_); clear hA; intro a hA)
  refine w_nil ?_
  repeat (first | refine c_seq ?_ | refine c_region ?_ | refine c_block ?_ | refine c_yes hA rfl ?_ | refine c_no hA rfl ?_ | refine c_skip ?_ | refine c_exit ?_ | refine c_ret ?_ | refine e_then ?_ | refine e_thenX ?_ | refine e_thenR ?_ | refine e_block ?_ | refine e_blockR ?_ | refine e_blockX ?_ | refine e_blockY rfl ?_)
  ((refine w_ys hA hS (y_move rfl rfl) rfl rfl rfl ?_); clear hA; intro a hA)
  ((refine w_ys hA hS (y_conv rfl rfl Tryd.underlying5 Tryd.underlying3 (by simp only [min_i64, max_i64]; omega) (by simp only [min_i64, max_i64]; omega)) rfl rfl rfl ?_); clear hA; intro a hA)
  ((refine w_ys hA hS (y_rem rfl rfl rfl (by omega) (by omega) (by rfl)) rfl rfl rfl ?_); clear hA; intro a hA)
  ((refine w_ys hA hS (y_add rfl rfl rfl hnI (by simp only [min_i64, max_i64, min_u8, max_u8, min_u32, max_u32, min_u64, max_u64, min_u16, max_u16]; omega) (by simp only [min_i64, max_i64, min_u8, max_u8, min_u32, max_u32, min_u64, max_u64, min_u16, max_u16]; omega)) rfl rfl rfl ?_); clear hA; intro a hA)
  ((refine w_ys hA hS (y_assign rfl rfl) rfl rfl rfl ?_); clear hA; intro a hA)
  refine w_nil ?_
  repeat (first | refine c_seq ?_ | refine c_region ?_ | refine c_block ?_ | refine c_yes hA rfl ?_ | refine c_no hA rfl ?_ | refine c_skip ?_ | refine c_exit ?_ | refine c_ret ?_ | refine e_then ?_ | refine e_thenX ?_ | refine e_thenR ?_ | refine e_block ?_ | refine e_blockR ?_ | refine e_blockX ?_ | refine e_blockY rfl ?_)
  ((refine w_ys hA hS (y_move rfl rfl) rfl rfl rfl ?_); clear hA; intro a hA)
  ((refine w_call hA (f := 20) rfl rfl rfl rfl rfl Tryd.func20 (by kernel_rfl) rfl ?_); (refine (new_at (n : Int) HI ⟨[], 0, n⟩ none HNEW.out _ _ _ rfl rfl rfl _).mono ?_); rintro e w ⟨At, ct, rfl, hlt, hct, hrt, hbt⟩; refine ⟨_, rfl, ?_⟩; clear hA; intro a hA; (try dsimp only [errV, secV] at hA); have hT := hS.callRd hbt hrt; clear hS hbt hrt; have hS := hT; clear hT)
  ((refine w_ys hA hS (y_move rfl rfl) rfl rfl rfl ?_); clear hA; intro a hA)
  ((refine w_ys hA hS (y_extract rfl rfl rfl) rfl rfl rfl ?_); clear hA; intro a hA)
  ((refine w_ys hA hS (y_extract rfl rfl rfl) rfl rfl rfl ?_); clear hA; intro a hA)
  ((refine w_alloc hA hS rfl rfl rfl rfl zv32 ?_); clear hA hS; intro b6 a w hA hS)
  ((first | (refine w_store hA hS 0 rfl rfl rfl rfl rfl rfl rfl rfl sz32 rfl (Nat.le_of_ble_eq_true rfl) ?_) | (refine w_store hA hS 1 rfl rfl rfl rfl rfl rfl rfl rfl sz32 rfl (Nat.le_of_ble_eq_true rfl) ?_) | (refine w_store hA hS 2 rfl rfl rfl rfl rfl rfl rfl rfl sz32 rfl (Nat.le_of_ble_eq_true rfl) ?_) | (refine w_store hA hS 3 rfl rfl rfl rfl rfl rfl rfl rfl sz32 rfl (Nat.le_of_ble_eq_true rfl) ?_) | (refine w_store hA hS 4 rfl rfl rfl rfl rfl rfl rfl rfl sz32 rfl (Nat.le_of_ble_eq_true rfl) ?_) | (refine w_store hA hS 5 rfl rfl rfl rfl rfl rfl rfl rfl sz32 rfl (Nat.le_of_ble_eq_true rfl) ?_)); clear hS; intro w hS; (try dsimp only [putL, List.set] at hS))
  ((refine w_ys hA hS (y_assign rfl rfl) rfl rfl rfl ?_); clear hA; intro a hA)
  refine w_nil ?_
  repeat (first | refine c_seq ?_ | refine c_region ?_ | refine c_block ?_ | refine c_yes hA rfl ?_ | refine c_no hA rfl ?_ | refine c_skip ?_ | refine c_exit ?_ | refine c_ret ?_ | refine e_then ?_ | refine e_thenX ?_ | refine e_thenR ?_ | refine e_block ?_ | refine e_blockR ?_ | refine e_blockX ?_ | refine e_blockY rfl ?_)
  ((refine w_ys hA hS (y_move rfl rfl) rfl rfl rfl ?_); clear hA; intro a hA)
  ((refine w_ys hA hS (by first | exact y_enot_f rfl rfl Tryd.underlying36 | exact y_enot_t rfl rfl Tryd.underlying36) rfl rfl rfl ?_); clear hA; intro a hA)
  refine w_nil ?_
  repeat (first | refine c_seq ?_ | refine c_region ?_ | refine c_block ?_ | refine c_yes hA rfl ?_ | refine c_no hA rfl ?_ | refine c_skip ?_ | refine c_exit ?_ | refine c_ret ?_ | refine e_then ?_ | refine e_thenX ?_ | refine e_thenR ?_ | refine e_block ?_ | refine e_blockR ?_ | refine e_blockX ?_ | refine e_blockY rfl ?_)
  ((refine w_ys hA hS (y_assign rfl rfl) rfl rfl rfl ?_); clear hA; intro a hA)
  refine w_nil ?_
  repeat (first | refine c_seq ?_ | refine c_region ?_ | refine c_block ?_ | refine c_yes hA rfl ?_ | refine c_no hA rfl ?_ | refine c_skip ?_ | refine c_exit ?_ | refine c_ret ?_ | refine e_then ?_ | refine e_thenX ?_ | refine e_thenR ?_ | refine e_block ?_ | refine e_blockR ?_ | refine e_blockX ?_ | refine e_blockY rfl ?_)
  ((refine w_alloc hA hS (cs := (List.replicate 64 (0 : Int)).map (Value.int .i64)) rfl rfl rfl rfl (by kernel_rfl) ?_); clear hA hS; intro b9 a w hA hS)
  refine w_nil ?_
  refine e_then ?_
  refine c_cut (fun a' w' => ∃ L D, Fr a' 280 [] ∧ St w0 w' L D) ?_ ?_
  · repeat (first | refine c_seq ?_ | refine c_region ?_ | refine c_block ?_ | refine c_yes hA rfl ?_ | refine c_no hA rfl ?_ | refine c_skip ?_ | refine c_exit ?_ | refine c_ret ?_ | refine e_then ?_ | refine e_thenX ?_ | refine e_thenR ?_ | refine e_block ?_ | refine e_blockR ?_ | refine e_blockX ?_ | refine e_blockY rfl ?_)
    ((refine w_ys hA hS (y_assign rfl rfl) rfl rfl rfl ?_); clear hA; intro a hA)
    refine w_nil ?_
    repeat (first | refine c_seq ?_ | refine c_region ?_ | refine c_block ?_ | refine c_yes hA rfl ?_ | refine c_no hA rfl ?_ | refine c_skip ?_ | refine c_exit ?_ | refine c_ret ?_ | refine e_then ?_ | refine e_thenX ?_ | refine e_thenR ?_ | refine e_block ?_ | refine e_blockR ?_ | refine e_blockX ?_ | refine e_blockY rfl ?_)
    refine c_loop (fun m a w => ∃ k, k ≤ 40 ∧ 40 ≤ k + m ∧ KI w0 n k k l A c b6 b9 a w) 40 ⟨0, by omega, by omega, [], List.replicate 64 0, ⟨[], 0, n⟩, At, none, ct, 0, [], hA.keep [1, 5, 6, 8, 9, 10], HKP.out, by simp, hlt, hct, by simp, by simp [maxCap], RowIs.nil _ _, hS⟩ ?_
    clear hA hS
    rintro m a w ⟨k, hk40, hm, data, st, s, A1, A8, c1, c8, Lr, hA, hk, hdk, hl1, hc1, hl8, hc8, hRW, hS⟩
    have HK := Lib.hid hk
    have HRW := Lib.hid hRW
    clear hk hRW
    by_cases hlt' : k < l.length
    · by_cases h40 : k < 40
      · repeat (first | refine c_seq ?_ | refine c_region ?_ | refine c_block ?_ | refine c_yes hA rfl ?_ | refine c_no hA rfl ?_ | refine c_skip ?_ | refine c_exit ?_ | refine c_ret ?_ | refine e_then ?_ | refine e_thenX ?_ | refine e_thenR ?_ | refine e_block ?_ | refine e_blockR ?_ | refine e_blockX ?_ | refine e_blockY rfl ?_)
        ((refine w_ys hA hS (y_move rfl rfl) rfl rfl rfl ?_); clear hA; intro a hA)
        ((refine w_ys hA hS (y_move rfl rfl) rfl rfl rfl ?_); clear hA; intro a hA)
        ((refine w_ys hA hS (y_len rfl rfl Tryd.underlying58) rfl rfl rfl ?_); clear hA; intro a hA)
        ((refine w_ys hA hS (by first | exact y_lss_t rfl rfl rfl (by omega) | exact y_lss_f rfl rfl rfl (by omega)) rfl rfl rfl ?_); clear hA; intro a hA)
        ((refine w_ys hA hS (y_move rfl rfl) rfl rfl rfl ?_); clear hA; intro a hA)
        (first | ((refine w_skip hA rfl rfl rfl ?_); clear hA; intro a hA) | ((refine w_ys hA hS (y_move rfl rfl) rfl rfl rfl ?_); clear hA; intro a hA))
        (first | ((refine w_skip hA rfl rfl rfl ?_); clear hA; intro a hA) | ((refine w_ys hA hS (by first | exact y_lss_t rfl rfl rfl (by omega) | exact y_lss_f rfl rfl rfl (by omega)) rfl rfl rfl ?_); clear hA; intro a hA))
        ((refine w_ys hA hS (by first | exact y_pick_t rfl rfl rfl | exact y_pick_f rfl rfl rfl) rfl rfl rfl ?_); clear hA; intro a hA)
        refine w_nil ?_
        refine e_then ?_
        refine c_yes hA rfl ?_
        refine c_skip ?_
        refine e_then ?_
        refine c_seq ?_
        refine keep_b1 ⟨data, st, s, A1, A8, c1, c8, Lr, hA.keep [1, 5, 6, 8, 9, 10], HK.out, hdk, hl1, hc1, hl8, hc8, HRW.out, hS⟩ hlt' h40 (by repeat first | exact hQ | refine NoSlot.then ?_ _ | refine NoSlot.block ?_ _ | exact NoSlot.body _ _) (fun a w hI => ?_)
        clear hA hS
        obtain ⟨data, st, s, A1, A8, c1, c8, Lr, hA, hk, hdk, hl1, hc1, hl8, hc8, hRW, hS⟩ := hI
        repeat (first | refine c_seq ?_ | refine c_region ?_ | refine c_block ?_ | refine c_yes hA rfl ?_ | refine c_no hA rfl ?_ | refine c_skip ?_ | refine c_exit ?_ | refine c_ret ?_ | refine e_then ?_ | refine e_thenX ?_ | refine e_thenR ?_ | refine e_block ?_ | refine e_blockR ?_ | refine e_blockX ?_ | refine e_blockY rfl ?_)
        ((refine w_ys hA hS (y_move rfl rfl) rfl rfl rfl ?_); clear hA; intro a hA)
        ((refine w_ys hA hS (y_add rfl rfl rfl (by rfl) (by simp only [min_i64, max_i64]; omega) (by simp only [min_i64, max_i64]; omega)) rfl rfl rfl ?_); clear hA; intro a hA)
        ((refine w_ys hA hS (y_assign rfl rfl) rfl rfl rfl ?_); clear hA; intro a hA)
        refine w_nil ?_
        repeat (first | refine c_seq ?_ | refine c_region ?_ | refine c_block ?_ | refine c_yes hA rfl ?_ | refine c_no hA rfl ?_ | refine c_skip ?_ | refine c_exit ?_ | refine c_ret ?_ | refine e_then ?_ | refine e_thenX ?_ | refine e_thenR ?_ | refine e_block ?_ | refine e_blockR ?_ | refine e_blockX ?_ | refine e_blockY rfl ?_)
        exact ⟨m - 1, by omega, k + 1, by omega, by omega, data, st, s, A1, A8, c1, c8, Lr, hA.keep [1, 5, 6, 8, 9, 10], hk, hdk, hl1, hc1, hl8, hc8, hRW, hS⟩
      · repeat (first | refine c_seq ?_ | refine c_region ?_ | refine c_block ?_ | refine c_yes hA rfl ?_ | refine c_no hA rfl ?_ | refine c_skip ?_ | refine c_exit ?_ | refine c_ret ?_ | refine e_then ?_ | refine e_thenX ?_ | refine e_thenR ?_ | refine e_block ?_ | refine e_blockR ?_ | refine e_blockX ?_ | refine e_blockY rfl ?_)
        ((refine w_ys hA hS (y_move rfl rfl) rfl rfl rfl ?_); clear hA; intro a hA)
        ((refine w_ys hA hS (y_move rfl rfl) rfl rfl rfl ?_); clear hA; intro a hA)
        ((refine w_ys hA hS (y_len rfl rfl Tryd.underlying58) rfl rfl rfl ?_); clear hA; intro a hA)
        ((refine w_ys hA hS (by first | exact y_lss_t rfl rfl rfl (by omega) | exact y_lss_f rfl rfl rfl (by omega)) rfl rfl rfl ?_); clear hA; intro a hA)
        ((refine w_ys hA hS (y_move rfl rfl) rfl rfl rfl ?_); clear hA; intro a hA)
        (first | ((refine w_skip hA rfl rfl rfl ?_); clear hA; intro a hA) | ((refine w_ys hA hS (y_move rfl rfl) rfl rfl rfl ?_); clear hA; intro a hA))
        (first | ((refine w_skip hA rfl rfl rfl ?_); clear hA; intro a hA) | ((refine w_ys hA hS (by first | exact y_lss_t rfl rfl rfl (by omega) | exact y_lss_f rfl rfl rfl (by omega)) rfl rfl rfl ?_); clear hA; intro a hA))
        ((refine w_ys hA hS (by first | exact y_pick_t rfl rfl rfl | exact y_pick_f rfl rfl rfl) rfl rfl rfl ?_); clear hA; intro a hA)
        refine w_nil ?_
        repeat (first | refine c_seq ?_ | refine c_region ?_ | refine c_block ?_ | refine c_yes hA rfl ?_ | refine c_no hA rfl ?_ | refine c_skip ?_ | refine c_exit ?_ | refine c_ret ?_ | refine e_then ?_ | refine e_thenX ?_ | refine e_thenR ?_ | refine e_block ?_ | refine e_blockR ?_ | refine e_blockX ?_ | refine e_blockY rfl ?_)
        exact ⟨_, _, hA.keep [], hS⟩
    · repeat (first | refine c_seq ?_ | refine c_region ?_ | refine c_block ?_ | refine c_yes hA rfl ?_ | refine c_no hA rfl ?_ | refine c_skip ?_ | refine c_exit ?_ | refine c_ret ?_ | refine e_then ?_ | refine e_thenX ?_ | refine e_thenR ?_ | refine e_block ?_ | refine e_blockR ?_ | refine e_blockX ?_ | refine e_blockY rfl ?_)
      ((refine w_ys hA hS (y_move rfl rfl) rfl rfl rfl ?_); clear hA; intro a hA)
      ((refine w_ys hA hS (y_move rfl rfl) rfl rfl rfl ?_); clear hA; intro a hA)
      ((refine w_ys hA hS (y_len rfl rfl Tryd.underlying58) rfl rfl rfl ?_); clear hA; intro a hA)
      ((refine w_ys hA hS (by first | exact y_lss_t rfl rfl rfl (by omega) | exact y_lss_f rfl rfl rfl (by omega)) rfl rfl rfl ?_); clear hA; intro a hA)
      ((refine w_ys hA hS (y_move rfl rfl) rfl rfl rfl ?_); clear hA; intro a hA)
      (first | ((refine w_skip hA rfl rfl rfl ?_); clear hA; intro a hA) | ((refine w_ys hA hS (y_move rfl rfl) rfl rfl rfl ?_); clear hA; intro a hA))
      (first | ((refine w_skip hA rfl rfl rfl ?_); clear hA; intro a hA) | ((refine w_ys hA hS (by first | exact y_lss_t rfl rfl rfl (by omega) | exact y_lss_f rfl rfl rfl (by omega)) rfl rfl rfl ?_); clear hA; intro a hA))
      ((refine w_ys hA hS (by first | exact y_pick_t rfl rfl rfl | exact y_pick_f rfl rfl rfl) rfl rfl rfl ?_); clear hA; intro a hA)
      refine w_nil ?_
      repeat (first | refine c_seq ?_ | refine c_region ?_ | refine c_block ?_ | refine c_yes hA rfl ?_ | refine c_no hA rfl ?_ | refine c_skip ?_ | refine c_exit ?_ | refine c_ret ?_ | refine e_then ?_ | refine e_thenX ?_ | refine e_thenR ?_ | refine e_block ?_ | refine e_blockR ?_ | refine e_blockX ?_ | refine e_blockY rfl ?_)
      exact ⟨_, _, hA.keep [], hS⟩
  · clear hA hS
    rintro a w ⟨L, D, hA, hS⟩
    repeat (first | refine c_seq ?_ | refine c_region ?_ | refine c_block ?_ | refine c_yes hA rfl ?_ | refine c_no hA rfl ?_ | refine c_skip ?_ | refine c_exit ?_ | refine c_ret ?_ | refine e_then ?_ | refine e_thenX ?_ | refine e_thenR ?_ | refine e_block ?_ | refine e_blockR ?_ | refine e_blockX ?_ | refine e_blockY rfl ?_)
    ((refine w_call hA (f := 10) rfl rfl rfl rfl rfl Tryd.func10 (by kernel_rfl) rfl ?_); (refine (sure_calls _ (HG.out.below hS.below)).mono ?_); rintro e w ⟨rfl, hb⟩; refine ⟨_, rfl, ?_⟩; clear hA; intro a hA; (try dsimp only [errV, secV] at hA); have hT := hS.call hb; clear hS hb; have hS := hT; clear hT)
    ((refine w_ys hA hS (y_assign rfl rfl) rfl rfl rfl ?_); clear hA; intro a hA)
    refine w_nil ?_
    repeat (first | refine c_seq ?_ | refine c_region ?_ | refine c_block ?_ | refine c_yes hA rfl ?_ | refine c_no hA rfl ?_ | refine c_skip ?_ | refine c_exit ?_ | refine c_ret ?_ | refine e_then ?_ | refine e_thenX ?_ | refine e_thenR ?_ | refine e_block ?_ | refine e_blockR ?_ | refine e_blockX ?_ | refine e_blockY rfl ?_)
    exact fin1 hA rfl rfl ⟨rfl, hS.below⟩
end Go.Proofs.YtpdjahejcdmopaaDoor
