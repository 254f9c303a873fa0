/- slices.Delete(l, 0, 1) of a secret's own versions; engine.Put. -/
import Derived.Test.YtpdjahejcdmopaaDoorEngC
import Derived.Test.YtpdjahejcdmopaaDoorOwn2
namespace Go.Proofs.YtpdjahejcdmopaaDoor
open Go.RowKit
set_option linter.unusedVariables false
theorem verInfo : ∃ i, Tryd.prog.info? 42 = some i ∧ i.zero = some (.agg #[.int .u32 0, .slice none 0 0, .int .u64 0, .int .i64 0]) ∧ i.size = 4 := by
  obtain ⟨i, hi, hzz⟩ := Option.map_eq_some_iff.1 infoVer
  simp only [Prod.mk.injEq] at hzz
  exact ⟨i, hi, hzz.1, hzz.2.1⟩
theorem verZero_one : ∀ u ∈ (Value.agg #[.int .u32 0, .slice none 0 0, .int .u64 0, .int .i64 0]).cells.toList, u.oneCell' = true := by simp [Value.cells, Value.oneCell']
set_option maxRecDepth 10000 in
set_option maxHeartbeats 1000000 in
theorem delete_calls (B : Nat) (oke : Nat → Prop) (l : List Ver) (A : Option Addr) (c : Nat) (w : World) (hB : B ≤ w.heap.size) (hown : OwnX verK B oke w 42 (.slice A l.length c) l) (hl : 0 < l.length) (hlen : l.length ≤ 1000) :
    Calls Tryd.prog 31 #[.slice A l.length c, .int .i64 0, .int .i64 1] w fun e w' => ∃ A' c', e = .returned (.slice A' l.tail.length c') ∧ Below B w w' ∧ l.tail.length ≤ c' ∧ c' ≤ maxCap ∧ OwnX verK B oke w' 42 (.slice A' l.tail.length c') l.tail ∧ (∀ k, k < w.heap.size → some k ≠ rowOf (.slice A l.length c) → w'.heap[k]? = w.heap[k]?) := by
  refine calls_hide fun R HR => ?_
  obtain ⟨inf, hi, hz, hsz⟩ := verInfo
  obtain ⟨cs, ho, hr⟩ := hown
  obtain ⟨_, _, e1, hlc, hcm⟩ := ho.form
  cases e1
  have hp : 0 < cs.length := by rw [hr.1]; exact Nat.mul_pos hl (by decide)
  obtain ⟨g, rfl, hg, _, _, hrow⟩ := ho.cell 0 _ (List.getElem?_eq_getElem hp)
  have hcut := fun W => cut_run (P := Tryd.prog) 30 42 .i64 4 Tryd.underlying30 hi hsz (some ⟨g, 0, none⟩) l.length c 1 hl W
  have HC := Lib.hid (hcut)
  have hcc : c ≤ 9223372036854775807 := hcm
  have HO := Lib.hid ho
  have HRP := Lib.hid hr
  have HROW := Lib.hid hrow
  have HI := Lib.hid hi
  have HZ := Lib.hid hz
  have HSZ := Lib.hid hsz
  clear ho hr hrow hi hz hsz hcut
  have hl1 : (1 : Int) ≤ (l.length : Int) := by omega
  have hl2 : l.length ≤ c := hlc
  have hcut := HC.out
  go_enter Tryd.func31, Tryd.ntmps31
  go_wp2_with (fail)
  go_region_law ((refine step_close _ (by rfl) _ _ 30 (by rfl) 42 inf 4 (by decide) Tryd.underlying30 HI.out HSZ.out (fun k => B ≤ k) g l.length c 0 1 cs (by rfl) (by rfl) (HO.out.drew) HRP.out.one (by omega) (by omega) (by omega) ?_; intro w2 cur hh hgr hs2 hcz htk))
  have hcz' : cur.size = c * 4 := hcz
  have HTK := Lib.hid htk
  have HH := Lib.hid hh
  have HGR := Lib.hid hgr
  clear htk hh hgr hcz
  have hl3 : (l.length : Int) - 1 ≤ (l.length : Int) := by omega
  go_wp2_with (with_reducible show wpList _ _ _ (Oper.mk _ (Op.call (Call.mk (Callee.builtin Builtin.clear) _ _)) _ _ _ _ :: _) _ _; (refine wpList_clear _ rfl _ _ rfl rfl 42 inf _ 4 Tryd.underlying30 HI.out HZ.out rfl verZero_one g ((l.length - 1) * 4) _ _ cur rfl HH.out (by omega) ?_; intro w3 cur3 hh3 hgr3 hs3 hcz3 htk3))
  all_goals
    have hlt : l.tail.length = l.length - 1 := by simp
    have h4 : verK.sz = 4 := rfl
    have hcl : cs.length = l.length * 4 := HRP.out.1
    refine HR.out _ _ ⟨some ⟨g, 0, none⟩, _, by rw [hlt], ?_, by omega, by simp [maxCap] <;> omega, ?_, fun k hk hne => ?_⟩
    · exact (((Below.refl B w).drew.grown HGR.out (by simpa using hB) (fun k hk => by injection hk with hk; omega)).grown hgr3 (by rw [hs2]; simpa using hB) (fun k hk => by injection hk with hk; omega))
    · refine ⟨cs.drop 4, ⟨?_, .inr ⟨g, _, cur3, rfl, by omega, hg, hh3, by omega, by simp only [maxLen]; omega, ?_, ?_⟩⟩, ?_⟩
      · rw [List.length_drop, hcl, hlt, h4]; omega
      · exact hcz3.trans (hcz'.trans (by first | (rw [h4]; done) | (rw [h4]; omega)))
      · rw [hlt, h4, htk3]
        have := HTK.out
        simpa using this
      · have r1 := (HRP.out.drop 1)
        rw [List.drop_one, Nat.one_mul, h4] at r1
        have hro := HROW.out
        refine (r1.move (w' := w3) fun k hk hk' => ?_).weak fun k _ hk' => ⟨hk'.1, ?_⟩
        · have hkg : some k ≠ some g := fun e => hk'.2 (e.trans hro.symm)
          exact (hgr3.block k (by rw [hs2]; simpa using hk) hkg).trans (HGR.out.block k (by simpa using hk) hkg)
        · intro e
          refine hk'.2 (e.trans ?_)
          rw [hro]
          first | rfl | (obtain ⟨q, rfl⟩ : ∃ q, c = q + 1 := ⟨c - 1, by omega⟩; rfl)
    · rw [HROW.out] at hne
      exact (hgr3.block k (Nat.lt_of_lt_of_le hk (by have := HGR.out.size; exact this)) hne).trans (HGR.out.block k hk hne)
end Go.Proofs.YtpdjahejcdmopaaDoor
