/- The contracts of the program's functions. No condition beyond the statement's own. -/
import Derived.Test.YtlinhogbnmnhjaaDoorXt
import Derived.Lib.ItoaNum
import Derived.Test.YtlinhogbnmnhjaaDoorProg
namespace Go.Proofs.YtlinhogbnmnhjaaDoor.X.D
open Go Go.Proofs.YtlinhogbnmnhjaaDoor.X Go.RowKit Go.Proofs
set_option linter.unusedVariables false
set_option maxRecDepth 4000
set_option linter.unusedSimpArgs false
def szI (n m : Int) : Int := if m - n < 0 then -1 else m - n

-- laws.szIntS
theorem c_laws_szIntS (l : List Int) (n : Int) (hy0 : l.length ≤ 140737488355328 ∧ n ≤ 1048576 ∧ 0 ≤ n) : Con Tryd.prog 29 [cL 1 1 0 (l.map eI), cI n] [cI (szI (l.length : Int) n)] := by
  refine con_mk hT (fn := Tryd.f29) 12 [.tmp 4] [(0, .c (cL 1 1 0 (l.map eI))), (1, .c (cI n))] rfl rfl rfl rfl rfl rfl rfl ?_
  refine AW_seq ?_
  refine AW_region ?_
  refine sv hT (vI 0) rfl trivial rfl rfl trivial ?_
  refine rN ?_
  refine AW_seq ?_
  refine AW_region ?_
  refine sv hT (vI n) rfl trivial rfl rfl trivial ?_
  refine sv hT (vL 1 1 0 (l.map eI)) rfl trivial rfl rfl trivial ?_
  refine sv hT (vI (l.length : Int)) lenM trivial rfl rfl trivial ?_
  refine sv hT (vI (n - (l.length : Int))) (eqI (wI_id (by omega) (by omega))) trivial rfl rfl trivial ?_
  refine sv hT (vI (n - (l.length : Int))) rfl trivial rfl rfl trivial ?_
  refine rN ?_
  refine AW_seq ?_
  refine AW_seq ?_
  refine AW_region ?_
  refine sv hT (vI (n - (l.length : Int))) rfl trivial rfl rfl trivial ?_
  refine sv hT (vB (decide ((n - (l.length : Int)) < 0))) rfl trivial rfl rfl trivial ?_
  refine rN ?_
  refine cnd decide_eq_true_iff rfl (fun h1 => ?_) (fun h1 => ?_)
  · refine AW_seq ?_
    refine AW_region ?_
    refine sv hT (vI (-1)) rfl trivial rfl rfl trivial ?_
    refine rN ?_
    refine AW_ret ?_
    exact thR ((qrR (ends [cI (-1)] [] rfl rfl (f2c (cm (f2c (lmI (by simp only [szI]; split <;> omega)) f20)) f20))))
  · refine AW_skip ?_
    refine thN ?_
    refine AW_seq ?_
    refine AW_region ?_
    refine sv hT (vI (n - (l.length : Int))) rfl trivial rfl rfl trivial ?_
    refine sv hT (vI (n - (l.length : Int))) rfl trivial rfl rfl trivial ?_
    refine rN ?_
    refine AW_ret ?_
    exact (qrR (ends [cI (n - (l.length : Int))] [] rfl rfl (f2c (cm (f2c (lmI (by simp only [szI]; split <;> omega)) f20)) f20)))

-- laws.szLand
theorem c_laws_szLand (x : Land) (n : Int) (hy0 : x.cells.length ≤ 140737488355328 ∧ n ≤ 1048576 ∧ 0 ≤ n) : Con Tryd.prog 7 [(true, Land.l x 1), cI n] [cI (szI (x.cells.length : Int) n)] := by
  refine con_mk hT (fn := Tryd.f7) 12 [.tmp 4] [(0, .c ((true, Land.l x 1))), (1, .c (cI n))] rfl rfl rfl rfl rfl rfl rfl ?_
  refine AW_seq ?_
  refine AW_region ?_
  refine sbox hT ((true, Land.l x 1)) rfl rfl rfl rfl (ls := Land.l x 1) rfl trivial ?_
  refine sv hT (vI 0) rfl trivial rfl rfl trivial ?_
  refine rN ?_
  refine AW_seq ?_
  refine AW_region ?_
  refine sv hT (vP 8 2) rfl trivial rfl rfl trivial ?_
  refine sv hT (vL 1 1 0 (x.cells.map eI)) rfl trivial rfl rfl trivial ?_
  refine sv hT (vI n) rfl trivial rfl rfl trivial ?_
  refine scall hT [(1, 1, 0)] [] (c_laws_szIntS x.cells n (by omega)) rfl rfl rfl (f2c (ca (f2c (las rfl rfl rfl) f20)) (f2c (ca (f2c (lav rfl) f20)) f20)) (f2c (cr (f2c lrv f20)) f20) rfl rfl trivial ?_
  refine sv hT (vI (szI (x.cells.length : Int) n)) rfl trivial rfl rfl trivial ?_
  refine rN ?_
  refine AW_seq ?_
  refine AW_seq ?_
  refine AW_region ?_
  refine sv hT (vI (szI (x.cells.length : Int) n)) rfl trivial rfl rfl trivial ?_
  refine sv hT (vB (decide ((szI (x.cells.length : Int) n) < 0))) rfl trivial rfl rfl trivial ?_
  refine rN ?_
  refine cnd decide_eq_true_iff rfl (fun h1 => ?_) (fun h1 => ?_)
  · refine AW_seq ?_
    refine AW_region ?_
    refine sv hT (vI (-1)) rfl trivial rfl rfl trivial ?_
    refine rN ?_
    refine AW_ret ?_
    exact thR ((qrR (ends [cI (-1)] [] rfl rfl (f2c (cm (f2c (lmI (by simp only [szI] at *; split at * <;> omega)) f20)) f20))))
  · refine AW_skip ?_
    refine thN ?_
    refine AW_seq ?_
    refine AW_region ?_
    refine sv hT (vI (szI (x.cells.length : Int) n)) rfl trivial rfl rfl trivial ?_
    refine sv hT (vI (szI (x.cells.length : Int) n)) rfl trivial rfl rfl trivial ?_
    refine rN ?_
    refine AW_ret ?_
    exact (qrR (ends [cI (szI (x.cells.length : Int) n)] [] rfl rfl (f2c (cm (f2c (lmI rfl) f20)) f20)))

-- spec.l1In
theorem c_spec_l1In (n : Int) (lo : Int) (hi : Int) : Con Tryd.prog 70 [cI n, cI lo, cI hi] [cB (decide (lo ≤ n ∧ n ≤ hi))] := by
  refine con_mk hT (fn := Tryd.f70) 15 [.tmp 6] [(0, .c (cI n)), (1, .c (cI lo)), (2, .c (cI hi))] rfl rfl rfl rfl rfl rfl rfl ?_
  refine AW_seq ?_
  refine AW_region ?_
  refine sv hT (vB false) rfl trivial rfl rfl trivial ?_
  refine rN ?_
  refine join ⟨[(6, vB (decide ((n ≥ lo) ∧ (n ≤ hi))))], [], 100, 8, 15⟩ ?_ ?_
  · refine AW_region ?_
    refine sv hT (vI n) rfl trivial rfl rfl trivial ?_
    refine sv hT (vI lo) rfl trivial rfl rfl trivial ?_
    refine sv hT (vB (decide (n ≥ lo))) rfl trivial rfl rfl trivial ?_
    refine sb hT decide_eq_true_iff rfl trivial rfl rfl trivial (fun h1 => ?_) (fun h1 => ?_)
    · refine sv hT (vI n) rfl trivial rfl rfl ⟨_, rfl, rfl, rfl⟩ ?_
      refine sv hT (vI hi) rfl trivial rfl rfl ⟨_, rfl, rfl, rfl⟩ ?_
      refine sv hT (vB (decide (n ≤ hi))) rfl trivial rfl rfl ⟨_, rfl, rfl, rfl⟩ ?_
      refine sv hT (vB (decide (n ≤ hi))) rfl trivial rfl rfl trivial ?_
      refine sv hT (vB (decide (n ≤ hi))) rfl trivial rfl rfl trivial ?_
      refine rE ?_
      exact thN ⟨[], [], (sm rfl (emc rfl (f2c (lmB (dB (Iff.trans decide_eq_true_iff (by simp only [h1, true_and, false_and, and_true, and_false, true_or, false_or, or_true, or_false, not_true_eq_false, not_false_eq_true, decide_true, decide_false, if_true, if_false])))) f20) em0) xm0)⟩
    · refine soff ⟨_, rfl, rfl, rfl⟩ rfl rfl ?_
      refine soff ⟨_, rfl, rfl, rfl⟩ rfl rfl ?_
      refine soff ⟨_, rfl, rfl, rfl⟩ rfl rfl ?_
      refine sv hT (vB false) rfl trivial rfl rfl trivial ?_
      refine sv hT (vB false) rfl trivial rfl rfl trivial ?_
      refine rE ?_
      exact thN ⟨[], [], (sm rfl (emc rfl (f2c (lmB (by simp only [h1, true_and, false_and, and_true, and_false, true_or, false_or, or_true, or_false, not_true_eq_false, not_false_eq_true, decide_true, decide_false, if_true, if_false])) f20) em0) xm0)⟩
  refine AW_ret ?_
  exact (qrR (ends [cB (decide ((n ≥ lo) ∧ (n ≤ hi)))] [] rfl rfl (f2c (cm (f2c (lmB (by exact decide_eq_decide.2 (by omega))) f20)) f20)))

-- impl.InRange
theorem c_impl_InRange (n : Int) (lo : Int) (hi : Int) : Con Tryd.prog 72 [cI n, cI lo, cI hi] [cB (decide (lo ≤ n ∧ n ≤ hi))] := by
  refine con_mk hT (fn := Tryd.f72) 15 [.tmp 6] [(0, .c (cI n)), (1, .c (cI lo)), (2, .c (cI hi))] rfl rfl rfl rfl rfl rfl rfl ?_
  refine AW_seq ?_
  refine AW_region ?_
  refine sv hT (vB false) rfl trivial rfl rfl trivial ?_
  refine rN ?_
  refine join ⟨[(6, vB (decide ((lo ≤ n) ∧ (n ≤ hi))))], [], 100, 8, 15⟩ ?_ ?_
  · refine AW_region ?_
    refine sv hT (vI lo) rfl trivial rfl rfl trivial ?_
    refine sv hT (vI n) rfl trivial rfl rfl trivial ?_
    refine sv hT (vB (decide (lo ≤ n))) rfl trivial rfl rfl trivial ?_
    refine sb hT decide_eq_true_iff rfl trivial rfl rfl trivial (fun h1 => ?_) (fun h1 => ?_)
    · refine sv hT (vI n) rfl trivial rfl rfl ⟨_, rfl, rfl, rfl⟩ ?_
      refine sv hT (vI hi) rfl trivial rfl rfl ⟨_, rfl, rfl, rfl⟩ ?_
      refine sv hT (vB (decide (n ≤ hi))) rfl trivial rfl rfl ⟨_, rfl, rfl, rfl⟩ ?_
      refine sv hT (vB (decide (n ≤ hi))) rfl trivial rfl rfl trivial ?_
      refine sv hT (vB (decide (n ≤ hi))) rfl trivial rfl rfl trivial ?_
      refine rE ?_
      exact thN ⟨[], [], (sm rfl (emc rfl (f2c (lmB (dB (Iff.trans decide_eq_true_iff (by simp only [h1, true_and, false_and, and_true, and_false, true_or, false_or, or_true, or_false, not_true_eq_false, not_false_eq_true, decide_true, decide_false, if_true, if_false])))) f20) em0) xm0)⟩
    · refine soff ⟨_, rfl, rfl, rfl⟩ rfl rfl ?_
      refine soff ⟨_, rfl, rfl, rfl⟩ rfl rfl ?_
      refine soff ⟨_, rfl, rfl, rfl⟩ rfl rfl ?_
      refine sv hT (vB false) rfl trivial rfl rfl trivial ?_
      refine sv hT (vB false) rfl trivial rfl rfl trivial ?_
      refine rE ?_
      exact thN ⟨[], [], (sm rfl (emc rfl (f2c (lmB (by simp only [h1, true_and, false_and, and_true, and_false, true_or, false_or, or_true, or_false, not_true_eq_false, not_false_eq_true, decide_true, decide_false, if_true, if_false])) f20) em0) xm0)⟩
  refine AW_ret ?_
  exact (qrR (ends [cB (decide ((lo ≤ n) ∧ (n ≤ hi)))] [] rfl rfl (f2c (cm (f2c (lmB (by exact decide_eq_decide.2 (by omega))) f20)) f20)))

-- impl.allIn
theorem c_impl_allIn (l : List Int) (lo : Int) (hi : Int) (hy0 : l.length ≤ 140737488355328) : Con Tryd.prog 76 [cL 1 1 0 (l.map eI), cI lo, cI hi] [cB (decide (∀ c ∈ l, lo ≤ c ∧ c ≤ hi))] := by
  refine con_mk hT (fn := Tryd.f76) 21 [.tmp 6] [(0, .c (cL 1 1 0 (l.map eI))), (1, .c (cI lo)), (2, .c (cI hi))] rfl rfl rfl rfl rfl rfl rfl ?_
  refine AW_seq ?_
  refine AW_region ?_
  refine sv hT (vB false) rfl trivial rfl rfl trivial ?_
  refine rN ?_
  refine AW_seq ?_
  refine AW_seq ?_
  refine AW_region ?_
  refine sv hT (vL 1 1 0 (l.map eI)) rfl trivial rfl rfl trivial ?_
  refine sv hT (vI (l.length : Int)) lenM trivial rfl rfl trivial ?_
  refine sv hT (vI 0) rfl trivial rfl rfl trivial ?_
  refine rN ?_
  refine AW_block ?_
  refine lp (α := {i : Nat // i ≤ l.length ∧ ∀ c ∈ l.take i, lo ≤ c ∧ c ≤ hi}) (fun x' => ⟨[(1, vI lo), (2, vI hi), (9, vL 1 1 0 (l.map eI)), (10, vI (l.length : Int)), (11, vI (x'.1 : Int))], [], 100, 8, 21⟩) (fun x' => l.length - x'.1) ⟨0, by omega, by simp⟩ [] [] (sm rfl (emc rfl (f2c (lmI rfl) f20) (emc rfl (f2c (lmI rfl) f20) (emc rfl (f2c (lma rfl rfl) f20) (emc rfl (f2c (lmI rfl) f20) (emc rfl (f2c (lmI (by rfl)) f20) em0))))) xm0) (fun x' => ?_)
  obtain ⟨i, hi1, hi2⟩ := x'
  change AW _ _ _ ⟨[(1, vI lo), (2, vI hi), (9, vL 1 1 0 (l.map eI)), (10, vI (l.length : Int)), (11, vI (i : Int))], [], 100, 8, 21⟩
  refine AW_seq ?_
  refine AW_region ?_
  refine sv hT (vB (decide ((i : Int) < (l.length : Int)))) rfl trivial rfl rfl trivial ?_
  refine rN ?_
  refine AW_seq ?_
  refine cnd decide_eq_true_iff rfl (fun h1 => ?_) (fun h1 => ?_)
  · refine AW_skip ?_
    refine thN ?_
    refine AW_seq ?_
    refine AW_block ?_
    refine AW_seq ?_
    refine AW_region ?_
    refine sv hT (vE 1 1 i 0 (eI (l.getD i 0))) (ixM (by omega)) (okM (by omega)) rfl rfl trivial ?_
    refine sv hT (vI (l.getD i 0)) rfl trivial rfl rfl trivial ?_
    refine sv hT (vI (l.getD i 0)) rfl trivial rfl rfl trivial ?_
    refine rN ?_
    refine AW_seq ?_
    refine AW_region ?_
    refine sv hT (vI (l.getD i 0)) rfl trivial rfl rfl trivial ?_
    refine sv hT (vI lo) rfl trivial rfl rfl trivial ?_
    refine sv hT (vI hi) rfl trivial rfl rfl trivial ?_
    refine scall hT [] [] (c_impl_InRange (l.getD i 0) lo hi) rfl rfl rfl (f2c (ca (f2c (lav rfl) f20)) (f2c (ca (f2c (lav rfl) f20)) (f2c (ca (f2c (lav rfl) f20)) f20))) (f2c (cr (f2c lrv f20)) f20) rfl rfl trivial ?_
    refine sv hT (vB (!(decide (lo ≤ (l.getD i 0) ∧ (l.getD i 0) ≤ hi)))) rfl trivial rfl rfl trivial ?_
    refine rN ?_
    refine cnd (notIff decide_eq_true_iff) rfl (fun h2 => ?_) (fun h2 => ?_)
    · refine AW_seq ?_
      refine AW_region ?_
      refine sv hT (vB false) rfl trivial rfl rfl trivial ?_
      refine rN ?_
      refine AW_ret ?_
      exact ibR (thR (thR (ibR (thR ((qrR (ends [cB false] [] rfl rfl (f2c (cm (f2c (lmB (by exact (decide_eq_false (fun h => by have := h _ (getD_mem' (d := 0) (i := i) (by omega)); omega)).symm)) f20)) f20))))))))
    · refine AW_skip ?_
      refine ibN ?_
      refine thN ?_
      refine AW_region ?_
      refine sv hT (vI ((i : Int) + 1)) (eqI (wI_id (by omega) (by omega))) trivial rfl rfl trivial ?_
      refine sv hT (vI ((i : Int) + 1)) rfl trivial rfl rfl trivial ?_
      refine rE ?_
      exact thN ⟨⟨i + 1, by omega, allTake (d := 0) hi2 (by omega) (by omega)⟩, [], [], (by show l.length - (i + 1) < l.length - i; omega), (sm rfl (emc rfl (f2c (lmI rfl) f20) (emc rfl (f2c (lmI rfl) f20) (emc rfl (f2c (lma rfl rfl) f20) (emc rfl (f2c (lmI rfl) f20) (emc rfl (f2c (lmI (by rfl)) f20) em0))))) xm0)⟩
  · refine AW_exit ?_
    refine thE (thE (ibH ?_))
    refine thN ?_
    refine AW_seq ?_
    refine AW_region ?_
    refine sv hT (vB true) rfl trivial rfl rfl trivial ?_
    refine rN ?_
    refine AW_ret ?_
    exact (qrR (ends [cB true] [] rfl rfl (f2c (cm (f2c (lmB (by exact (decide_eq_true (allOf hi2 (by omega))).symm)) f20)) f20)))

-- spec.IsLand
theorem c_spec_IsLand (x : Land) (hy0 : x.cells.length ≤ 140737488355328) : Con Tryd.prog 69 [(true, Land.l x 1)] [cB (decide (Land.ok x))] := by
  refine con_mk hT (fn := Tryd.f69) 39 [.tmp 2] [(0, .c ((true, Land.l x 1)))] rfl rfl rfl rfl rfl rfl rfl ?_
  refine AW_seq ?_
  refine AW_region ?_
  refine sbox hT ((true, Land.l x 1)) rfl rfl rfl rfl (ls := Land.l x 1) rfl trivial ?_
  refine sv hT (vB false) rfl trivial rfl rfl trivial ?_
  refine rN ?_
  refine AW_seq ?_
  refine join ⟨[(1, vP 8 0), (2, vB false), (24, vB (decide ((¬ (1 ≤ x.w ∧ x.w ≤ 8)) ∨ ((¬ (1 ≤ x.h ∧ x.h ≤ 8)) ∨ ((x.cells.length : Int) ≠ (x.w * x.h))))))], [(8, Land.l x 1)], 148, 11, 39⟩ ?_ ?_
  · refine AW_region ?_
    refine sv hT (vP 8 0) rfl trivial rfl rfl trivial ?_
    refine sv hT (vI x.w) rfl trivial rfl rfl trivial ?_
    refine scall hT [] [] (c_spec_l1In x.w 1 8) rfl rfl rfl (f2c (ca (f2c (lav rfl) f20)) (f2c (ca (f2c (lav rfl) f20)) (f2c (ca (f2c (lav rfl) f20)) f20))) (f2c (cr (f2c lrv f20)) f20) rfl rfl trivial ?_
    refine sv hT (vB (!(decide (1 ≤ x.w ∧ x.w ≤ 8)))) rfl trivial rfl rfl trivial ?_
    refine sb hT (notIff decide_eq_true_iff) rfl trivial rfl rfl trivial (fun h1 => ?_) (fun h1 => ?_)
    · refine soff ⟨_, rfl, rfl, rfl⟩ rfl rfl ?_
      refine soff ⟨_, rfl, rfl, rfl⟩ rfl rfl ?_
      refine soff ⟨_, rfl, rfl, rfl⟩ rfl rfl ?_
      refine soff ⟨_, rfl, rfl, rfl⟩ rfl rfl ?_
      refine sv hT (vB true) rfl trivial rfl rfl trivial ?_
      refine sv hT (vB true) rfl trivial rfl rfl trivial ?_
      refine soff ⟨_, rfl, rfl, rfl⟩ rfl rfl ?_
      refine soff ⟨_, rfl, rfl, rfl⟩ rfl rfl ?_
      refine soff ⟨_, rfl, rfl, rfl⟩ rfl rfl ?_
      refine soff ⟨_, rfl, rfl, rfl⟩ rfl rfl ?_
      refine soff ⟨_, rfl, rfl, rfl⟩ rfl rfl ?_
      refine soff ⟨_, rfl, rfl, rfl⟩ rfl rfl ?_
      refine soff ⟨_, rfl, rfl, rfl⟩ rfl rfl ?_
      refine soff ⟨_, rfl, rfl, rfl⟩ rfl rfl ?_
      refine soff ⟨_, rfl, rfl, rfl⟩ rfl rfl ?_
      refine sv hT (vB true) rfl trivial rfl rfl trivial ?_
      refine rE ?_
      exact thN ⟨[], [(8, 8)], (sm rfl (emc rfl (f2c (lmp rfl) f20) (emc rfl (f2c (lmB rfl) f20) (emc rfl (f2c (lmB (by simp only [h1, true_and, false_and, and_true, and_false, true_or, false_or, or_true, or_false, not_true_eq_false, not_false_eq_true, decide_true, decide_false, if_true, if_false])) f20) em0))) (xmc rfl rfl (f2c (lmI rfl) (f2c (lmI rfl) (f2c (lma rfl rfl) f20))) xm0))⟩
    · refine sv hT (vP 8 1) rfl trivial rfl rfl ⟨_, rfl, rfl, rfl⟩ ?_
      refine sv hT (vI x.h) rfl trivial rfl rfl ⟨_, rfl, rfl, rfl⟩ ?_
      refine scall hT [] [] (c_spec_l1In x.h 1 8) rfl rfl rfl (f2c (ca (f2c (lav rfl) f20)) (f2c (ca (f2c (lav rfl) f20)) (f2c (ca (f2c (lav rfl) f20)) f20))) (f2c (cr (f2c lrv f20)) f20) rfl rfl ⟨_, rfl, rfl, rfl⟩ ?_
      refine sv hT (vB (!(decide (1 ≤ x.h ∧ x.h ≤ 8)))) rfl trivial rfl rfl ⟨_, rfl, rfl, rfl⟩ ?_
      refine sv hT (vB (!(decide (1 ≤ x.h ∧ x.h ≤ 8)))) rfl trivial rfl rfl trivial ?_
      refine sb hT (notIff decide_eq_true_iff) rfl trivial rfl rfl trivial (fun h2 => ?_) (fun h2 => ?_)
      · refine soff ⟨_, rfl, rfl, rfl⟩ rfl rfl ?_
        refine soff ⟨_, rfl, rfl, rfl⟩ rfl rfl ?_
        refine soff ⟨_, rfl, rfl, rfl⟩ rfl rfl ?_
        refine soff ⟨_, rfl, rfl, rfl⟩ rfl rfl ?_
        refine soff ⟨_, rfl, rfl, rfl⟩ rfl rfl ?_
        refine soff ⟨_, rfl, rfl, rfl⟩ rfl rfl ?_
        refine soff ⟨_, rfl, rfl, rfl⟩ rfl rfl ?_
        refine soff ⟨_, rfl, rfl, rfl⟩ rfl rfl ?_
        refine soff ⟨_, rfl, rfl, rfl⟩ rfl rfl ?_
        refine sv hT (vB true) rfl trivial rfl rfl trivial ?_
        refine rE ?_
        exact thN ⟨[], [(8, 8)], (sm rfl (emc rfl (f2c (lmp rfl) f20) (emc rfl (f2c (lmB rfl) f20) (emc rfl (f2c (lmB (by simp only [h1, h2, true_and, false_and, and_true, and_false, true_or, false_or, or_true, or_false, not_true_eq_false, not_false_eq_true, decide_true, decide_false, if_true, if_false])) f20) em0))) (xmc rfl rfl (f2c (lmI rfl) (f2c (lmI rfl) (f2c (lma rfl rfl) f20))) xm0))⟩
      · refine sv hT (vP 8 2) rfl trivial rfl rfl ⟨_, rfl, rfl, rfl⟩ ?_
        refine sv hT (vL 1 1 0 (x.cells.map eI)) rfl trivial rfl rfl ⟨_, rfl, rfl, rfl⟩ ?_
        refine sv hT (vI (x.cells.length : Int)) lenM trivial rfl rfl ⟨_, rfl, rfl, rfl⟩ ?_
        refine sv hT (vP 8 0) rfl trivial rfl rfl ⟨_, rfl, rfl, rfl⟩ ?_
        refine sv hT (vI x.w) rfl trivial rfl rfl ⟨_, rfl, rfl, rfl⟩ ?_
        refine sv hT (vP 8 1) rfl trivial rfl rfl ⟨_, rfl, rfl, rfl⟩ ?_
        refine sv hT (vI x.h) rfl trivial rfl rfl ⟨_, rfl, rfl, rfl⟩ ?_
        refine sv hT (vI (x.w * x.h)) (eqI (wI_id (by (have := @mul8 x.w x.h (by omega) (by omega); omega)) (by (have := @mul8 x.w x.h (by omega) (by omega); omega)))) trivial rfl rfl ⟨_, rfl, rfl, rfl⟩ ?_
        refine sv hT (vB ((x.cells.length : Int) != (x.w * x.h))) rfl trivial rfl rfl ⟨_, rfl, rfl, rfl⟩ ?_
        refine sv hT (vB ((x.cells.length : Int) != (x.w * x.h))) rfl trivial rfl rfl trivial ?_
        refine rE ?_
        exact thN ⟨[], [(8, 8)], (sm rfl (emc rfl (f2c (lmp rfl) f20) (emc rfl (f2c (lmB rfl) f20) (emc rfl (f2c (lmB (dB (Iff.trans bne_iff_ne (by simp only [h1, h2, true_and, false_and, and_true, and_false, true_or, false_or, or_true, or_false, not_true_eq_false, not_false_eq_true, decide_true, decide_false, if_true, if_false])))) f20) em0))) (xmc rfl rfl (f2c (lmI rfl) (f2c (lmI rfl) (f2c (lma rfl rfl) f20))) xm0))⟩
  refine cnd decide_eq_true_iff rfl (fun h3 => ?_) (fun h3 => ?_)
  · refine AW_seq ?_
    refine AW_region ?_
    refine sv hT (vB false) rfl trivial rfl rfl trivial ?_
    refine rN ?_
    refine AW_ret ?_
    exact thR ((qrR (ends [cB false] [] rfl rfl (f2c (cm (f2c (lmB (by exact (decide_eq_false (by unfold Land.ok; omega)).symm)) f20)) f20))))
  · refine AW_skip ?_
    refine thN ?_
    refine AW_seq ?_
    refine AW_seq ?_
    refine AW_region ?_
    refine sv hT (vI 0) rfl trivial rfl rfl trivial ?_
    refine rN ?_
    refine AW_block ?_
    refine lp (α := {i : Nat // i ≤ x.cells.length ∧ ∀ c ∈ x.cells.take i, 0 ≤ c ∧ c ≤ 2}) (fun x' => ⟨[(1, vP 8 0), (3, vI (x'.1 : Int))], [(8, Land.l x 1)], 148, 11, 39⟩) (fun x' => x.cells.length - x'.1) ⟨0, by omega, by simp⟩ [] [(8, 8)] (sm rfl (emc rfl (f2c (lmp rfl) f20) (emc rfl (f2c (lmI (by rfl)) f20) em0)) (xmc rfl rfl (f2c (lmI rfl) (f2c (lmI rfl) (f2c (lma rfl rfl) f20))) xm0)) (fun x' => ?_)
    obtain ⟨i, hi1, hi2⟩ := x'
    change AW _ _ _ ⟨[(1, vP 8 0), (3, vI (i : Int))], [(8, Land.l x 1)], 148, 11, 39⟩
    refine AW_seq ?_
    refine AW_seq ?_
    refine AW_region ?_
    refine sv hT (vI (i : Int)) rfl trivial rfl rfl trivial ?_
    refine sv hT (vP 8 2) rfl trivial rfl rfl trivial ?_
    refine sv hT (vL 1 1 0 (x.cells.map eI)) rfl trivial rfl rfl trivial ?_
    refine sv hT (vI (x.cells.length : Int)) lenM trivial rfl rfl trivial ?_
    refine sv hT (vB (decide ((i : Int) < (x.cells.length : Int)))) rfl trivial rfl rfl trivial ?_
    refine rN ?_
    refine cnd decide_eq_true_iff rfl (fun h4 => ?_) (fun h4 => ?_)
    · refine AW_skip ?_
      refine thN ?_
      refine AW_seq ?_
      refine AW_block ?_
      refine AW_seq ?_
      refine AW_region ?_
      refine sv hT (vP 8 2) rfl trivial rfl rfl trivial ?_
      refine sv hT (vL 1 1 0 (x.cells.map eI)) rfl trivial rfl rfl trivial ?_
      refine sv hT (vI (i : Int)) rfl trivial rfl rfl trivial ?_
      refine sv hT (vE 1 1 i 0 (eI (x.cells.getD i 0))) (ixM (by omega)) (okM (by omega)) rfl rfl trivial ?_
      refine sv hT (vI (x.cells.getD i 0)) rfl trivial rfl rfl trivial ?_
      refine scall hT [] [] (c_spec_l1In (x.cells.getD i 0) 0 2) rfl rfl rfl (f2c (ca (f2c (lav rfl) f20)) (f2c (ca (f2c (lav rfl) f20)) (f2c (ca (f2c (lav rfl) f20)) f20))) (f2c (cr (f2c lrv f20)) f20) rfl rfl trivial ?_
      refine sv hT (vB (!(decide (0 ≤ (x.cells.getD i 0) ∧ (x.cells.getD i 0) ≤ 2)))) rfl trivial rfl rfl trivial ?_
      refine rN ?_
      refine cnd (notIff decide_eq_true_iff) rfl (fun h5 => ?_) (fun h5 => ?_)
      · refine AW_seq ?_
        refine AW_region ?_
        refine sv hT (vB false) rfl trivial rfl rfl trivial ?_
        refine rN ?_
        refine AW_ret ?_
        exact ibR (thR (thR (ibR (thR ((qrR (ends [cB false] [] rfl rfl (f2c (cm (f2c (lmB (by exact (decide_eq_false (fun h => by have := h.2.2.2 _ (getD_mem' (d := 0) (i := i) (by omega)); omega)).symm)) f20)) f20))))))))
      · refine AW_skip ?_
        refine ibN ?_
        refine thN ?_
        refine AW_region ?_
        refine sv hT (vI (i : Int)) rfl trivial rfl rfl trivial ?_
        refine sv hT (vI ((i : Int) + 1)) (eqI (wI_id (by omega) (by omega))) trivial rfl rfl trivial ?_
        refine sv hT (vI ((i : Int) + 1)) rfl trivial rfl rfl trivial ?_
        refine rE ?_
        exact thN ⟨⟨i + 1, by omega, allTake (d := 0) hi2 (by omega) (by omega)⟩, [], [(8, 8)], (by show x.cells.length - (i + 1) < x.cells.length - i; omega), (sm rfl (emc rfl (f2c (lmp rfl) f20) (emc rfl (f2c (lmI (by rfl)) f20) em0)) (xmc rfl rfl (f2c (lmI rfl) (f2c (lmI rfl) (f2c (lma rfl rfl) f20))) xm0))⟩
    · refine AW_exit ?_
      refine thE (thE (ibH ?_))
      refine thN ?_
      refine AW_seq ?_
      refine AW_region ?_
      refine sv hT (vB true) rfl trivial rfl rfl trivial ?_
      refine rN ?_
      refine AW_ret ?_
      exact (qrR (ends [cB true] [] rfl rfl (f2c (cm (f2c (lmB (by exact (decide_eq_true ⟨by omega, by omega, by omega, allOf hi2 (by omega)⟩).symm)) f20)) f20)))

-- impl.IsLand
theorem c_impl_IsLand (x : Land) (hy0 : x.cells.length ≤ 140737488355328) : Con Tryd.prog 71 [(true, Land.l x 1)] [cB (decide (Land.ok x))] := by
  refine con_mk hT (fn := Tryd.f71) 27 [.tmp 2] [(0, .c ((true, Land.l x 1)))] rfl rfl rfl rfl rfl rfl rfl ?_
  refine AW_seq ?_
  refine AW_region ?_
  refine sbox hT ((true, Land.l x 1)) rfl rfl rfl rfl (ls := Land.l x 1) rfl trivial ?_
  refine sv hT (vB false) rfl trivial rfl rfl trivial ?_
  refine rN ?_
  refine join ⟨[(2, vB (decide ((1 ≤ x.w ∧ x.w ≤ 8) ∧ ((1 ≤ x.h ∧ x.h ≤ 8) ∧ (((x.cells.length : Int) = (x.w * x.h)) ∧ (∀ c ∈ x.cells, 0 ≤ c ∧ c ≤ 2))))))], [(8, Land.l x 1)], 164, 12, 27⟩ ?_ ?_
  · refine AW_region ?_
    refine sv hT (vP 8 0) rfl trivial rfl rfl trivial ?_
    refine sv hT (vI x.w) rfl trivial rfl rfl trivial ?_
    refine scall hT [] [] (c_impl_InRange x.w 1 8) rfl rfl rfl (f2c (ca (f2c (lav rfl) f20)) (f2c (ca (f2c (lav rfl) f20)) (f2c (ca (f2c (lav rfl) f20)) f20))) (f2c (cr (f2c lrv f20)) f20) rfl rfl trivial ?_
    refine sb hT decide_eq_true_iff rfl trivial rfl rfl trivial (fun h1 => ?_) (fun h1 => ?_)
    · refine sv hT (vP 8 1) rfl trivial rfl rfl ⟨_, rfl, rfl, rfl⟩ ?_
      refine sv hT (vI x.h) rfl trivial rfl rfl ⟨_, rfl, rfl, rfl⟩ ?_
      refine scall hT [] [] (c_impl_InRange x.h 1 8) rfl rfl rfl (f2c (ca (f2c (lav rfl) f20)) (f2c (ca (f2c (lav rfl) f20)) (f2c (ca (f2c (lav rfl) f20)) f20))) (f2c (cr (f2c lrv f20)) f20) rfl rfl ⟨_, rfl, rfl, rfl⟩ ?_
      refine sv hT (vB (decide (1 ≤ x.h ∧ x.h ≤ 8))) rfl trivial rfl rfl trivial ?_
      refine sb hT decide_eq_true_iff rfl trivial rfl rfl trivial (fun h2 => ?_) (fun h2 => ?_)
      · refine sv hT (vP 8 2) rfl trivial rfl rfl ⟨_, rfl, rfl, rfl⟩ ?_
        refine sv hT (vL 1 1 0 (x.cells.map eI)) rfl trivial rfl rfl ⟨_, rfl, rfl, rfl⟩ ?_
        refine sv hT (vI (x.cells.length : Int)) lenM trivial rfl rfl ⟨_, rfl, rfl, rfl⟩ ?_
        refine sv hT (vP 8 0) rfl trivial rfl rfl ⟨_, rfl, rfl, rfl⟩ ?_
        refine sv hT (vI x.w) rfl trivial rfl rfl ⟨_, rfl, rfl, rfl⟩ ?_
        refine sv hT (vP 8 1) rfl trivial rfl rfl ⟨_, rfl, rfl, rfl⟩ ?_
        refine sv hT (vI x.h) rfl trivial rfl rfl ⟨_, rfl, rfl, rfl⟩ ?_
        refine sv hT (vI (x.w * x.h)) (eqI (wI_id (by (have := @mul8 x.w x.h (by omega) (by omega); omega)) (by (have := @mul8 x.w x.h (by omega) (by omega); omega)))) trivial rfl rfl ⟨_, rfl, rfl, rfl⟩ ?_
        refine sv hT (vB ((x.cells.length : Int) == (x.w * x.h))) rfl trivial rfl rfl ⟨_, rfl, rfl, rfl⟩ ?_
        refine sv hT (vB ((x.cells.length : Int) == (x.w * x.h))) rfl trivial rfl rfl trivial ?_
        refine sb hT beq_iff_eq rfl trivial rfl rfl trivial (fun h3 => ?_) (fun h3 => ?_)
        · refine sv hT (vP 8 2) rfl trivial rfl rfl ⟨_, rfl, rfl, rfl⟩ ?_
          refine sv hT (vL 1 1 0 (x.cells.map eI)) rfl trivial rfl rfl ⟨_, rfl, rfl, rfl⟩ ?_
          refine scall hT [(1, 1, 0)] [] (c_impl_allIn x.cells 0 2 (by omega)) rfl rfl rfl (f2c (ca (f2c (las rfl rfl rfl) f20)) (f2c (ca (f2c (lav rfl) f20)) (f2c (ca (f2c (lav rfl) f20)) f20))) (f2c (cr (f2c lrv f20)) f20) rfl rfl ⟨_, rfl, rfl, rfl⟩ ?_
          refine sv hT (vB (decide (∀ c ∈ x.cells, 0 ≤ c ∧ c ≤ 2))) rfl trivial rfl rfl trivial ?_
          refine sv hT (vB (decide (∀ c ∈ x.cells, 0 ≤ c ∧ c ≤ 2))) rfl trivial rfl rfl trivial ?_
          refine rE ?_
          exact thN ⟨[], [(8, 8)], (sm rfl (emc rfl (f2c (lmB (dB (Iff.trans decide_eq_true_iff (by simp only [h1, h2, h3, true_and, false_and, and_true, and_false, true_or, false_or, or_true, or_false, not_true_eq_false, not_false_eq_true, decide_true, decide_false, if_true, if_false])))) f20) em0) (xmc rfl rfl (f2c (lmI rfl) (f2c (lmI rfl) (f2c (lma rfl rfl) f20))) xm0))⟩
        · refine soff ⟨_, rfl, rfl, rfl⟩ rfl rfl ?_
          refine soff ⟨_, rfl, rfl, rfl⟩ rfl rfl ?_
          refine soff ⟨_, rfl, rfl, rfl⟩ rfl rfl ?_
          refine sv hT (vB false) rfl trivial rfl rfl trivial ?_
          refine sv hT (vB false) rfl trivial rfl rfl trivial ?_
          refine rE ?_
          exact thN ⟨[], [(8, 8)], (sm rfl (emc rfl (f2c (lmB (by simp only [h1, h2, h3, true_and, false_and, and_true, and_false, true_or, false_or, or_true, or_false, not_true_eq_false, not_false_eq_true, decide_true, decide_false, if_true, if_false])) f20) em0) (xmc rfl rfl (f2c (lmI rfl) (f2c (lmI rfl) (f2c (lma rfl rfl) f20))) xm0))⟩
      · refine soff ⟨_, rfl, rfl, rfl⟩ rfl rfl ?_
        refine soff ⟨_, rfl, rfl, rfl⟩ rfl rfl ?_
        refine soff ⟨_, rfl, rfl, rfl⟩ rfl rfl ?_
        refine soff ⟨_, rfl, rfl, rfl⟩ rfl rfl ?_
        refine soff ⟨_, rfl, rfl, rfl⟩ rfl rfl ?_
        refine soff ⟨_, rfl, rfl, rfl⟩ rfl rfl ?_
        refine soff ⟨_, rfl, rfl, rfl⟩ rfl rfl ?_
        refine soff ⟨_, rfl, rfl, rfl⟩ rfl rfl ?_
        refine soff ⟨_, rfl, rfl, rfl⟩ rfl rfl ?_
        refine sv hT (vB false) rfl trivial rfl rfl trivial ?_
        refine sv hT (vB false) rfl trivial rfl rfl trivial ?_
        refine soff ⟨_, rfl, rfl, rfl⟩ rfl rfl ?_
        refine soff ⟨_, rfl, rfl, rfl⟩ rfl rfl ?_
        refine soff ⟨_, rfl, rfl, rfl⟩ rfl rfl ?_
        refine sv hT (vB false) rfl trivial rfl rfl trivial ?_
        refine sv hT (vB false) rfl trivial rfl rfl trivial ?_
        refine rE ?_
        exact thN ⟨[], [(8, 8)], (sm rfl (emc rfl (f2c (lmB (by simp only [h1, h2, true_and, false_and, and_true, and_false, true_or, false_or, or_true, or_false, not_true_eq_false, not_false_eq_true, decide_true, decide_false, if_true, if_false])) f20) em0) (xmc rfl rfl (f2c (lmI rfl) (f2c (lmI rfl) (f2c (lma rfl rfl) f20))) xm0))⟩
    · refine soff ⟨_, rfl, rfl, rfl⟩ rfl rfl ?_
      refine soff ⟨_, rfl, rfl, rfl⟩ rfl rfl ?_
      refine soff ⟨_, rfl, rfl, rfl⟩ rfl rfl ?_
      refine sv hT (vB false) rfl trivial rfl rfl trivial ?_
      refine sv hT (vB false) rfl trivial rfl rfl trivial ?_
      refine soff ⟨_, rfl, rfl, rfl⟩ rfl rfl ?_
      refine soff ⟨_, rfl, rfl, rfl⟩ rfl rfl ?_
      refine soff ⟨_, rfl, rfl, rfl⟩ rfl rfl ?_
      refine soff ⟨_, rfl, rfl, rfl⟩ rfl rfl ?_
      refine soff ⟨_, rfl, rfl, rfl⟩ rfl rfl ?_
      refine soff ⟨_, rfl, rfl, rfl⟩ rfl rfl ?_
      refine soff ⟨_, rfl, rfl, rfl⟩ rfl rfl ?_
      refine soff ⟨_, rfl, rfl, rfl⟩ rfl rfl ?_
      refine soff ⟨_, rfl, rfl, rfl⟩ rfl rfl ?_
      refine sv hT (vB false) rfl trivial rfl rfl trivial ?_
      refine sv hT (vB false) rfl trivial rfl rfl trivial ?_
      refine soff ⟨_, rfl, rfl, rfl⟩ rfl rfl ?_
      refine soff ⟨_, rfl, rfl, rfl⟩ rfl rfl ?_
      refine soff ⟨_, rfl, rfl, rfl⟩ rfl rfl ?_
      refine sv hT (vB false) rfl trivial rfl rfl trivial ?_
      refine sv hT (vB false) rfl trivial rfl rfl trivial ?_
      refine rE ?_
      exact thN ⟨[], [(8, 8)], (sm rfl (emc rfl (f2c (lmB (by simp only [h1, true_and, false_and, and_true, and_false, true_or, false_or, or_true, or_false, not_true_eq_false, not_false_eq_true, decide_true, decide_false, if_true, if_false])) f20) em0) (xmc rfl rfl (f2c (lmI rfl) (f2c (lmI rfl) (f2c (lma rfl rfl) f20))) xm0))⟩
  refine AW_ret ?_
  exact (qrR (ends [cB (decide ((1 ≤ x.w ∧ x.w ≤ 8) ∧ ((1 ≤ x.h ∧ x.h ≤ 8) ∧ (((x.cells.length : Int) = (x.w * x.h)) ∧ (∀ c ∈ x.cells, 0 ≤ c ∧ c ≤ 2)))))] [] rfl rfl (f2c (cm (f2c (lmB (by unfold Land.ok; exact decide_eq_decide.2 (by constructor <;> (intro h; simp only [and_assoc] at h ⊢; exact h)))) f20)) f20)))

-- spec.IsCell
theorem c_spec_IsCell (x : Land) (n : Int) (hy0 : x.cells.length ≤ 140737488355328) : Con Tryd.prog 61 [(true, Land.l x 1), cI n] [cB (decide (Land.ok x ∧ 0 ≤ n ∧ n < x.cells.length))] := by
  refine con_mk hT (fn := Tryd.f61) 15 [.tmp 4] [(0, .c ((true, Land.l x 1))), (1, .c (cI n))] rfl rfl rfl rfl rfl rfl rfl ?_
  refine AW_seq ?_
  refine AW_region ?_
  refine sbox hT ((true, Land.l x 1)) rfl rfl rfl rfl (ls := Land.l x 1) rfl trivial ?_
  refine sv hT (vB false) rfl trivial rfl rfl trivial ?_
  refine rN ?_
  refine join ⟨[(4, vB (decide ((Land.ok x) ∧ (0 ≤ n ∧ n ≤ ((x.cells.length : Int) - 1)))))], [(8, Land.l x 1)], 148, 11, 15⟩ ?_ ?_
  · refine AW_region ?_
    refine sv hT (vR (Land.l x 1)) rfl trivial rfl rfl trivial ?_
    refine scall hT [(1, 1, 0)] [] (c_spec_IsLand x (by omega)) rfl rfl rfl (f2c (ca (f2c (lav rfl) (f2c (lav rfl) (f2c (las rfl rfl rfl) f20)))) f20) (f2c (cr (f2c lrv f20)) f20) rfl rfl trivial ?_
    refine sb hT decide_eq_true_iff rfl trivial rfl rfl trivial (fun h1 => ?_) (fun h1 => ?_)
    · refine sv hT (vI n) rfl trivial rfl rfl ⟨_, rfl, rfl, rfl⟩ ?_
      refine sv hT (vP 8 2) rfl trivial rfl rfl ⟨_, rfl, rfl, rfl⟩ ?_
      refine sv hT (vL 1 1 0 (x.cells.map eI)) rfl trivial rfl rfl ⟨_, rfl, rfl, rfl⟩ ?_
      refine sv hT (vI (x.cells.length : Int)) lenM trivial rfl rfl ⟨_, rfl, rfl, rfl⟩ ?_
      refine sv hT (vI ((x.cells.length : Int) - 1)) (eqI (wI_id (by omega) (by omega))) trivial rfl rfl ⟨_, rfl, rfl, rfl⟩ ?_
      refine scall hT [] [] (c_spec_l1In n 0 ((x.cells.length : Int) - 1)) rfl rfl rfl (f2c (ca (f2c (lav rfl) f20)) (f2c (ca (f2c (lav rfl) f20)) (f2c (ca (f2c (lav rfl) f20)) f20))) (f2c (cr (f2c lrv f20)) f20) rfl rfl ⟨_, rfl, rfl, rfl⟩ ?_
      refine sv hT (vB (decide (0 ≤ n ∧ n ≤ ((x.cells.length : Int) - 1)))) rfl trivial rfl rfl trivial ?_
      refine sv hT (vB (decide (0 ≤ n ∧ n ≤ ((x.cells.length : Int) - 1)))) rfl trivial rfl rfl trivial ?_
      refine rE ?_
      exact thN ⟨[], [(8, 8)], (sm rfl (emc rfl (f2c (lmB (dB (Iff.trans decide_eq_true_iff (by simp only [h1, true_and, false_and, and_true, and_false, true_or, false_or, or_true, or_false, not_true_eq_false, not_false_eq_true, decide_true, decide_false, if_true, if_false])))) f20) em0) (xmc rfl rfl (f2c (lmI rfl) (f2c (lmI rfl) (f2c (lma rfl rfl) f20))) xm0))⟩
    · refine soff ⟨_, rfl, rfl, rfl⟩ rfl rfl ?_
      refine soff ⟨_, rfl, rfl, rfl⟩ rfl rfl ?_
      refine soff ⟨_, rfl, rfl, rfl⟩ rfl rfl ?_
      refine soff ⟨_, rfl, rfl, rfl⟩ rfl rfl ?_
      refine soff ⟨_, rfl, rfl, rfl⟩ rfl rfl ?_
      refine soff ⟨_, rfl, rfl, rfl⟩ rfl rfl ?_
      refine sv hT (vB false) rfl trivial rfl rfl trivial ?_
      refine sv hT (vB false) rfl trivial rfl rfl trivial ?_
      refine rE ?_
      exact thN ⟨[], [(8, 8)], (sm rfl (emc rfl (f2c (lmB (by simp only [h1, true_and, false_and, and_true, and_false, true_or, false_or, or_true, or_false, not_true_eq_false, not_false_eq_true, decide_true, decide_false, if_true, if_false])) f20) em0) (xmc rfl rfl (f2c (lmI rfl) (f2c (lmI rfl) (f2c (lma rfl rfl) f20))) xm0))⟩
  refine AW_ret ?_
  exact (qrR (ends [cB (decide ((Land.ok x) ∧ (0 ≤ n ∧ n ≤ ((x.cells.length : Int) - 1))))] [] rfl rfl (f2c (cm (f2c (lmB (by exact decide_eq_decide.2 (by constructor <;> (intro h; refine ⟨h.1, ?_⟩; have := h.2; omega)))) f20)) f20)))

-- impl.IsCell
theorem c_impl_IsCell (x : Land) (n : Int) (hy0 : x.cells.length ≤ 140737488355328) : Con Tryd.prog 62 [(true, Land.l x 1), cI n] [cB (decide (Land.ok x ∧ 0 ≤ n ∧ n < x.cells.length))] := by
  refine con_mk hT (fn := Tryd.f62) 15 [.tmp 4] [(0, .c ((true, Land.l x 1))), (1, .c (cI n))] rfl rfl rfl rfl rfl rfl rfl ?_
  refine AW_seq ?_
  refine AW_region ?_
  refine sbox hT ((true, Land.l x 1)) rfl rfl rfl rfl (ls := Land.l x 1) rfl trivial ?_
  refine sv hT (vB false) rfl trivial rfl rfl trivial ?_
  refine rN ?_
  refine join ⟨[(4, vB (decide ((Land.ok x) ∧ (0 ≤ n ∧ n ≤ ((x.cells.length : Int) - 1)))))], [(8, Land.l x 1)], 148, 11, 15⟩ ?_ ?_
  · refine AW_region ?_
    refine sv hT (vR (Land.l x 1)) rfl trivial rfl rfl trivial ?_
    refine scall hT [(1, 1, 0)] [] (c_impl_IsLand x (by omega)) rfl rfl rfl (f2c (ca (f2c (lav rfl) (f2c (lav rfl) (f2c (las rfl rfl rfl) f20)))) f20) (f2c (cr (f2c lrv f20)) f20) rfl rfl trivial ?_
    refine sb hT decide_eq_true_iff rfl trivial rfl rfl trivial (fun h1 => ?_) (fun h1 => ?_)
    · refine sv hT (vI n) rfl trivial rfl rfl ⟨_, rfl, rfl, rfl⟩ ?_
      refine sv hT (vP 8 2) rfl trivial rfl rfl ⟨_, rfl, rfl, rfl⟩ ?_
      refine sv hT (vL 1 1 0 (x.cells.map eI)) rfl trivial rfl rfl ⟨_, rfl, rfl, rfl⟩ ?_
      refine sv hT (vI (x.cells.length : Int)) lenM trivial rfl rfl ⟨_, rfl, rfl, rfl⟩ ?_
      refine sv hT (vI ((x.cells.length : Int) - 1)) (eqI (wI_id (by omega) (by omega))) trivial rfl rfl ⟨_, rfl, rfl, rfl⟩ ?_
      refine scall hT [] [] (c_impl_InRange n 0 ((x.cells.length : Int) - 1)) rfl rfl rfl (f2c (ca (f2c (lav rfl) f20)) (f2c (ca (f2c (lav rfl) f20)) (f2c (ca (f2c (lav rfl) f20)) f20))) (f2c (cr (f2c lrv f20)) f20) rfl rfl ⟨_, rfl, rfl, rfl⟩ ?_
      refine sv hT (vB (decide (0 ≤ n ∧ n ≤ ((x.cells.length : Int) - 1)))) rfl trivial rfl rfl trivial ?_
      refine sv hT (vB (decide (0 ≤ n ∧ n ≤ ((x.cells.length : Int) - 1)))) rfl trivial rfl rfl trivial ?_
      refine rE ?_
      exact thN ⟨[], [(8, 8)], (sm rfl (emc rfl (f2c (lmB (dB (Iff.trans decide_eq_true_iff (by simp only [h1, true_and, false_and, and_true, and_false, true_or, false_or, or_true, or_false, not_true_eq_false, not_false_eq_true, decide_true, decide_false, if_true, if_false])))) f20) em0) (xmc rfl rfl (f2c (lmI rfl) (f2c (lmI rfl) (f2c (lma rfl rfl) f20))) xm0))⟩
    · refine soff ⟨_, rfl, rfl, rfl⟩ rfl rfl ?_
      refine soff ⟨_, rfl, rfl, rfl⟩ rfl rfl ?_
      refine soff ⟨_, rfl, rfl, rfl⟩ rfl rfl ?_
      refine soff ⟨_, rfl, rfl, rfl⟩ rfl rfl ?_
      refine soff ⟨_, rfl, rfl, rfl⟩ rfl rfl ?_
      refine soff ⟨_, rfl, rfl, rfl⟩ rfl rfl ?_
      refine sv hT (vB false) rfl trivial rfl rfl trivial ?_
      refine sv hT (vB false) rfl trivial rfl rfl trivial ?_
      refine rE ?_
      exact thN ⟨[], [(8, 8)], (sm rfl (emc rfl (f2c (lmB (by simp only [h1, true_and, false_and, and_true, and_false, true_or, false_or, or_true, or_false, not_true_eq_false, not_false_eq_true, decide_true, decide_false, if_true, if_false])) f20) em0) (xmc rfl rfl (f2c (lmI rfl) (f2c (lmI rfl) (f2c (lma rfl rfl) f20))) xm0))⟩
  refine AW_ret ?_
  exact (qrR (ends [cB (decide ((Land.ok x) ∧ (0 ≤ n ∧ n ≤ ((x.cells.length : Int) - 1))))] [] rfl rfl (f2c (cm (f2c (lmB (by exact decide_eq_decide.2 (by constructor <;> (intro h; refine ⟨h.1, ?_⟩; have := h.2; omega)))) f20)) f20)))

-- impl.FormatInt
theorem c_impl_FormatInt (n : Int) (hy0 : -9223372036854775808 ≤ n ∧ n ≤ 9223372036854775807) : Con Tryd.prog 36 [cI n] [cS (Lib.itoa n)] := by
  refine con_mk hT (fn := Tryd.f36) 5 [.tmp 2] [(0, .c (cI n))] rfl rfl rfl rfl rfl rfl rfl ?_
  refine AW_seq ?_
  refine AW_region ?_
  refine sv hT (vS []) rfl trivial rfl rfl trivial ?_
  refine rN ?_
  refine AW_seq ?_
  refine AW_region ?_
  refine sv hT (vI n) rfl trivial rfl rfl trivial ?_
  refine scall hT [] [] (c_strconv_Itoa n (by omega)) rfl rfl rfl (f2c (ca (f2c (lav rfl) f20)) f20) (f2c (cr (f2c lrv f20)) f20) rfl rfl trivial ?_
  refine sv hT (vS (Lib.itoa n)) rfl trivial rfl rfl trivial ?_
  refine rN ?_
  refine AW_ret ?_
  exact (qrR (ends [cS (Lib.itoa n)] [] rfl rfl (f2c (cm (f2c (lmS rfl) f20)) f20)))

-- spec.FormatInt
theorem c_spec_FormatInt (n : Int) (hy0 : -9223372036854775808 ≤ n ∧ n ≤ 9223372036854775807) : Con Tryd.prog 34 [cI n] [cS (Lib.itoa n)] := by
  refine con_mk hT (fn := Tryd.f34) 31 [.tmp 2] [(0, .c (cI n))] rfl rfl rfl rfl rfl rfl rfl ?_
  refine AW_seq ?_
  refine AW_region ?_
  refine sv hT (vS []) rfl trivial rfl rfl trivial ?_
  refine rN ?_
  refine AW_seq ?_
  refine AW_seq ?_
  refine AW_region ?_
  refine sv hT (vI n) rfl trivial rfl rfl trivial ?_
  refine sv hT (vB (n == 0)) rfl trivial rfl rfl trivial ?_
  refine rN ?_
  refine cnd beq_iff_eq rfl (fun h1 => ?_) (fun h1 => ?_)
  · refine AW_seq ?_
    refine AW_region ?_
    refine sv hT (vS [48]) rfl trivial rfl rfl trivial ?_
    refine rN ?_
    refine AW_ret ?_
    exact thR ((qrR (ends [cS [48]] [] rfl rfl (f2c (cm (f2c (lmS (by simp [Lib.itoa, h1, Lib.decDigits])) f20)) f20))))
  · refine AW_skip ?_
    refine thN ?_
    refine AW_seq ?_
    refine AW_region ?_
    refine sv hT (vS []) rfl trivial rfl rfl trivial ?_
    refine rN ?_
    refine AW_seq ?_
    refine AW_seq ?_
    refine AW_region ?_
    refine sv hT (vI n) rfl trivial rfl rfl trivial ?_
    refine sv hT (vI n) rfl trivial rfl rfl trivial ?_
    refine rN ?_
    refine AW_block ?_
    refine lp (α := {p : Int × List UInt8 // FI n p.1 p.2}) (fun x' => ⟨[(0, vI n), (2, vS []), (3, vS x'.1.2), (4, vI x'.1.1)], [], 100, 8, 31⟩) (fun x' => x'.1.1.natAbs) ⟨(n, []), FI.init h1 hy0⟩ [] [] (sm rfl (emc rfl (f2c (lmI rfl) f20) (emc rfl (f2c (lmS rfl) f20) (emc rfl (f2c (lmS rfl) f20) (emc rfl (f2c (lmI rfl) f20) em0)))) xm0) (fun x' => ?_)
    obtain ⟨⟨m, s⟩, hi⟩ := x'
    dsimp only at hi
    change AW _ _ _ ⟨[(0, vI n), (2, vS []), (3, vS s), (4, vI m)], [], 100, 8, 31⟩
    refine AW_seq ?_
    refine AW_seq ?_
    refine AW_region ?_
    refine sv hT (vI m) rfl trivial rfl rfl trivial ?_
    refine sv hT (vB (m != 0)) rfl trivial rfl rfl trivial ?_
    refine rN ?_
    refine cnd bne_iff_ne rfl (fun h2 => ?_) (fun h2 => ?_)
    · refine AW_skip ?_
      refine thN ?_
      refine AW_seq ?_
      refine AW_block ?_
      refine AW_seq ?_
      refine AW_region ?_
      refine sv hT (vI m) rfl trivial rfl rfl trivial ?_
      refine sv hT (vI (Int.tmod m 10)) rfl (by omega) rfl rfl trivial ?_
      refine sv hT (vI (Int.tmod m 10)) rfl trivial rfl rfl trivial ?_
      refine rN ?_
      refine join ⟨[(0, vI n), (2, vS []), (3, vS s), (4, vI m), (9, vI m), (10, vB (m != 0)), (13, vI m), (14, vI (Int.tmod m 10)), (5, vI (if (Int.tmod m 10) < 0 then (0 - (Int.tmod m 10)) else (Int.tmod m 10))), (15, vI (Int.tmod m 10)), (16, vB (decide ((Int.tmod m 10) < 0)))], [], 100, 8, 31⟩ ?_ ?_
      · refine AW_seq ?_
        refine AW_region ?_
        refine sv hT (vI (Int.tmod m 10)) rfl trivial rfl rfl trivial ?_
        refine sv hT (vB (decide ((Int.tmod m 10) < 0))) rfl trivial rfl rfl trivial ?_
        refine rN ?_
        refine cnd decide_eq_true_iff rfl (fun h3 => ?_) (fun h3 => ?_)
        · refine AW_region ?_
          refine sv hT (vI (Int.tmod m 10)) rfl trivial rfl rfl trivial ?_
          refine sv hT (vI (0 - (Int.tmod m 10))) (eqI (wI_id (by (have := tmodB m; omega)) (by (have := tmodB m; omega)))) trivial rfl rfl trivial ?_
          refine sv hT (vI (0 - (Int.tmod m 10))) rfl trivial rfl rfl trivial ?_
          refine rE ?_
          exact thN ⟨[], [], (sm rfl (emc rfl (f2c (lmI rfl) f20) (emc rfl (f2c (lmS rfl) f20) (emc rfl (f2c (lmS rfl) f20) (emc rfl (f2c (lmI rfl) f20) (emc rfl (f2c (lmI rfl) f20) (emc rfl (f2c (lmB rfl) f20) (emc rfl (f2c (lmI rfl) f20) (emc rfl (f2c (lmI rfl) f20) (emc rfl (f2c (lmI (by simp only [if_neg h1, if_pos h2, if_pos h3])) f20) (emc rfl (f2c (lmI rfl) f20) (emc rfl (f2c (lmB rfl) f20) em0))))))))))) xm0)⟩
        · refine AW_skip ?_
          exact thN ⟨[], [], (sm rfl (emc rfl (f2c (lmI rfl) f20) (emc rfl (f2c (lmS rfl) f20) (emc rfl (f2c (lmS rfl) f20) (emc rfl (f2c (lmI rfl) f20) (emc rfl (f2c (lmI rfl) f20) (emc rfl (f2c (lmB rfl) f20) (emc rfl (f2c (lmI rfl) f20) (emc rfl (f2c (lmI rfl) f20) (emc rfl (f2c (lmI (by simp only [if_neg h1, if_pos h2, if_neg h3])) f20) (emc rfl (f2c (lmI rfl) f20) (emc rfl (f2c (lmB rfl) f20) em0))))))))))) xm0)⟩
      refine AW_region ?_
      refine sv hT (vI (if (Int.tmod m 10) < 0 then (0 - (Int.tmod m 10)) else (Int.tmod m 10))) rfl trivial rfl rfl trivial ?_
      refine sv hT (vI (48 + (if (Int.tmod m 10) < 0 then (0 - (Int.tmod m 10)) else (Int.tmod m 10)))) (eqI (wI_id (by (have := tmodB m; split <;> omega)) (by (have := tmodB m; split <;> omega)))) trivial rfl rfl trivial ?_
      refine sv hT (.c (false, [.v (.int .u8 (IntKind.u8.wrap (48 + (if (Int.tmod m 10) < 0 then (0 - (Int.tmod m 10)) else (Int.tmod m 10)))))])) rfl trivial rfl rfl trivial ?_
      refine slit hT ([IntKind.u8.wrap (48 + (if (Int.tmod m 10) < 0 then (0 - (Int.tmod m 10)) else (Int.tmod m 10)))].map eU) rfl rfl rfl (z := 1) rfl rfl rfl rfl rfl rfl trivial ?_
      refine sbstr hT (bytesOf [IntKind.u8.wrap (48 + (if (Int.tmod m 10) < 0 then (0 - (Int.tmod m 10)) else (Int.tmod m 10)))]) rfl rfl rfl rfl rfl rfl rfl rfl trivial ?_
      refine sv hT (vS s) rfl trivial rfl rfl trivial ?_
      refine sv hT (vS ((bytesOf [IntKind.u8.wrap (48 + (if (Int.tmod m 10) < 0 then (0 - (Int.tmod m 10)) else (Int.tmod m 10)))]) ++ s)) rfl (by have := hi.len; simp [bytesOf]; omega) rfl rfl trivial ?_
      refine sv hT (vS ((bytesOf [IntKind.u8.wrap (48 + (if (Int.tmod m 10) < 0 then (0 - (Int.tmod m 10)) else (Int.tmod m 10)))]) ++ s)) rfl trivial rfl rfl trivial ?_
      refine rE ?_
      refine ibN ?_
      refine thN ?_
      refine AW_region ?_
      refine sv hT (vI m) rfl trivial rfl rfl trivial ?_
      refine sv hT (vI (Int.tdiv m 10)) (eqI (wI_id (by (have := tdivB hi.2.2.1; omega)) (by (have := tdivB hi.2.2.1; omega)))) (by omega) rfl rfl trivial ?_
      refine sv hT (vI (Int.tdiv m 10)) rfl trivial rfl rfl trivial ?_
      refine rE ?_
      exact thN ⟨⟨(Int.tdiv m 10, bytesOf [IntKind.u8.wrap (48 + (if Int.tmod m 10 < 0 then 0 - Int.tmod m 10 else Int.tmod m 10))] ++ s), hi.step (by omega)⟩, [], [], (by show (Int.tdiv m 10).natAbs < m.natAbs; have := tdiv10 m; omega), (sm rfl (emc rfl (f2c (lmI rfl) f20) (emc rfl (f2c (lmS rfl) f20) (emc rfl (f2c (lmS (by simp)) f20) (emc rfl (f2c (lmI rfl) f20) em0)))) xm0)⟩
    · refine AW_exit ?_
      refine thE (thE (ibH ?_))
      refine thN ?_
      refine AW_seq ?_
      refine AW_seq ?_
      refine AW_region ?_
      refine sv hT (vI n) rfl trivial rfl rfl trivial ?_
      refine sv hT (vB (decide (n < 0))) rfl trivial rfl rfl trivial ?_
      refine rN ?_
      refine cnd decide_eq_true_iff rfl (fun h4 => ?_) (fun h4 => ?_)
      · refine AW_seq ?_
        refine AW_region ?_
        refine sv hT (vS s) rfl trivial rfl rfl trivial ?_
        refine sv hT (vS ([45] ++ s)) rfl (by have := hi.len; simp; omega) rfl rfl trivial ?_
        refine sv hT (vS ([45] ++ s)) rfl trivial rfl rfl trivial ?_
        refine rN ?_
        refine AW_ret ?_
        exact thR ((qrR (ends [cS ([45] ++ s)] [] rfl rfl (f2c (cm (f2c (lmS (by simp only [Lib.itoa]; rw [if_pos (by omega)]; have := hi.2.2.2.1 (by omega); simp [this])) f20)) f20))))
      · refine AW_skip ?_
        refine thN ?_
        refine AW_seq ?_
        refine AW_region ?_
        refine sv hT (vS s) rfl trivial rfl rfl trivial ?_
        refine sv hT (vS s) rfl trivial rfl rfl trivial ?_
        refine rN ?_
        refine AW_ret ?_
        exact (qrR (ends [cS s] [] rfl rfl (f2c (cm (f2c (lmS (by simp only [Lib.itoa]; rw [if_neg (by omega)]; rw [hi.2.2.2.1 (by omega)]; congr 1; omega)) f20)) f20)))

-- spec.CellText
theorem c_spec_CellText (x : Land) (n : Int) (hy0 : x.cells.length ≤ 140737488355328) : Con Tryd.prog 49 [(true, Land.l x 1), cI n] [cS (cellT x n)] := by
  refine con_mk hT (fn := Tryd.f49) 25 [.tmp 4] [(0, .c ((true, Land.l x 1))), (1, .c (cI n))] rfl rfl rfl rfl rfl rfl rfl ?_
  refine AW_seq ?_
  refine AW_region ?_
  refine sbox hT ((true, Land.l x 1)) rfl rfl rfl rfl (ls := Land.l x 1) rfl trivial ?_
  refine sv hT (vS []) rfl trivial rfl rfl trivial ?_
  refine rN ?_
  refine AW_seq ?_
  refine AW_seq ?_
  refine AW_region ?_
  refine sv hT (vR (Land.l x 1)) rfl trivial rfl rfl trivial ?_
  refine sv hT (vI n) rfl trivial rfl rfl trivial ?_
  refine scall hT [(1, 1, 0)] [] (c_spec_IsCell x n (by omega)) rfl rfl rfl (f2c (ca (f2c (lav rfl) (f2c (lav rfl) (f2c (las rfl rfl rfl) f20)))) (f2c (ca (f2c (lav rfl) f20)) f20)) (f2c (cr (f2c lrv f20)) f20) rfl rfl trivial ?_
  refine sv hT (vB (!(decide (Land.ok x ∧ 0 ≤ n ∧ n < x.cells.length)))) rfl trivial rfl rfl trivial ?_
  refine rN ?_
  refine cnd (notIff decide_eq_true_iff) rfl (fun h1 => ?_) (fun h1 => ?_)
  · refine AW_seq ?_
    refine AW_region ?_
    refine sv hT (vS []) rfl trivial rfl rfl trivial ?_
    refine rN ?_
    refine AW_ret ?_
    exact thR ((qrR (ends [cS []] [] rfl rfl (f2c (cm (f2c (lmS (by unfold cellT; rw [if_neg (by simpa [Land.has] using h1)])) f20)) f20))))
  · refine AW_skip ?_
    refine thN ?_
    refine AW_seq ?_
    refine dstart 404 27 rfl ?_
    refine dv hT (vI n) [] rfl trivial rfl rfl rfl trivial ?_
    refine dv hT (vP 8 0) [] rfl trivial rfl rfl rfl trivial ?_
    refine dv hT (vI x.w) [8] rfl trivial rfl rfl rfl trivial ?_
    refine dv hT (vI (Int.tmod n x.w)) [] rfl (colB (by simpa [Land.has] using h1)).1 rfl rfl rfl trivial ?_
    refine dv hT (vI n) [] rfl trivial rfl rfl rfl trivial ?_
    refine dv hT (vP 8 0) [] rfl trivial rfl rfl rfl trivial ?_
    refine dv hT (vI x.w) [8] rfl trivial rfl rfl rfl trivial ?_
    refine dv hT (vI (Int.tmod n x.w)) [] rfl (colB (by simpa [Land.has] using h1)).1 rfl rfl rfl trivial ?_
    refine dv hT (vI ((Int.tmod n x.w) + 1)) [] (eqI (wI_id (by (have := colB (by simpa [Land.has] using h1); omega)) (by (have := colB (by simpa [Land.has] using h1); omega)))) trivial rfl rfl rfl trivial ?_
    refine dv hT (vS (([97, 98, 99, 100, 101, 102, 103, 104].take ((Int.tmod n x.w) + 1).toNat).drop (Int.tmod n x.w).toNat)) [] rfl ⟨by (have := colB (by simpa [Land.has] using h1); simp <;> omega), by (have := colB (by simpa [Land.has] using h1); simp <;> omega), by (have := colB (by simpa [Land.has] using h1); simp <;> omega)⟩ rfl rfl rfl trivial ?_
    refine dv hT (vI n) [] rfl trivial rfl rfl rfl trivial ?_
    refine dv hT (vP 8 0) [] rfl trivial rfl rfl rfl trivial ?_
    refine dv hT (vI x.w) [8] rfl trivial rfl rfl rfl trivial ?_
    refine dv hT (vI (Int.tdiv n x.w)) [] (eqI (wI_id (by (have := colB (by simpa [Land.has] using h1); omega)) (by (have := colB (by simpa [Land.has] using h1); omega)))) (colB (by simpa [Land.has] using h1)).1 rfl rfl rfl trivial ?_
    refine dcall hT [] [] (c_spec_FormatInt (Int.tdiv n x.w) (by have := colB (by simpa [Land.has] using h1); omega)) rfl rfl rfl (f2c (ca (f2c (lav rfl) f20)) f20) (f2c (cr (f2c lrv f20)) f20) rfl rfl trivial ?_
    refine dv hT (vS ((([97, 98, 99, 100, 101, 102, 103, 104].take ((Int.tmod n x.w) + 1).toNat).drop (Int.tmod n x.w).toNat) ++ (Lib.itoa (Int.tdiv n x.w)))) [] rfl (by have h3 := colB (by simpa [Land.has] using h1); have := itoa_len (n := n.tdiv x.w) (by omega); simp; omega) rfl rfl rfl trivial ?_
    refine dv hT (vS ((([97, 98, 99, 100, 101, 102, 103, 104].take ((Int.tmod n x.w) + 1).toNat).drop (Int.tmod n x.w).toNat) ++ (Lib.itoa (Int.tdiv n x.w)))) [] rfl trivial rfl rfl rfl trivial ?_
    refine dend hm (by kernel_rfl) ?_
    refine thN ?_
    refine AW_ret ?_
    exact (qrR (ends [cS ((([97, 98, 99, 100, 101, 102, 103, 104].take ((Int.tmod n x.w) + 1).toNat).drop (Int.tmod n x.w).toNat) ++ (Lib.itoa (Int.tdiv n x.w)))] [] rfl rfl (f2c (cm (f2c (lmS (by have h3 := colB (by simpa [Land.has] using h1); unfold cellT; rw [if_pos (by simpa [Land.has] using h1), letE h3.2.1]; rfl)) f20)) f20)))

-- impl.CellText
theorem c_impl_CellText (x : Land) (n : Int) (hy0 : x.cells.length ≤ 140737488355328) : Con Tryd.prog 50 [(true, Land.l x 1), cI n] [cS (cellT x n)] := by
  refine con_mk hT (fn := Tryd.f50) 22 [.tmp 4] [(0, .c ((true, Land.l x 1))), (1, .c (cI n))] rfl rfl rfl rfl rfl rfl rfl ?_
  refine AW_seq ?_
  refine AW_region ?_
  refine sbox hT ((true, Land.l x 1)) rfl rfl rfl rfl (ls := Land.l x 1) rfl trivial ?_
  refine sv hT (vS []) rfl trivial rfl rfl trivial ?_
  refine rN ?_
  refine AW_seq ?_
  refine AW_seq ?_
  refine AW_region ?_
  refine sv hT (vR (Land.l x 1)) rfl trivial rfl rfl trivial ?_
  refine sv hT (vI n) rfl trivial rfl rfl trivial ?_
  refine scall hT [(1, 1, 0)] [] (c_impl_IsCell x n (by omega)) rfl rfl rfl (f2c (ca (f2c (lav rfl) (f2c (lav rfl) (f2c (las rfl rfl rfl) f20)))) (f2c (ca (f2c (lav rfl) f20)) f20)) (f2c (cr (f2c lrv f20)) f20) rfl rfl trivial ?_
  refine sv hT (vB (!(decide (Land.ok x ∧ 0 ≤ n ∧ n < x.cells.length)))) rfl trivial rfl rfl trivial ?_
  refine rN ?_
  refine cnd (notIff decide_eq_true_iff) rfl (fun h1 => ?_) (fun h1 => ?_)
  · refine AW_seq ?_
    refine AW_region ?_
    refine sv hT (vS []) rfl trivial rfl rfl trivial ?_
    refine rN ?_
    refine AW_ret ?_
    exact thR ((qrR (ends [cS []] [] rfl rfl (f2c (cm (f2c (lmS (by unfold cellT; rw [if_neg (by simpa [Land.has] using h1)])) f20)) f20))))
  · refine AW_skip ?_
    refine thN ?_
    refine AW_seq ?_
    refine dstart 356 24 rfl ?_
    refine dv hT (vI n) [] rfl trivial rfl rfl rfl trivial ?_
    refine dv hT (vP 8 0) [] rfl trivial rfl rfl rfl trivial ?_
    refine dv hT (vI x.w) [8] rfl trivial rfl rfl rfl trivial ?_
    refine dv hT (vI (Int.tmod n x.w)) [] rfl (colB (by simpa [Land.has] using h1)).1 rfl rfl rfl trivial ?_
    refine dv hT (vI (97 + (Int.tmod n x.w))) [] (eqI (wI_id (by (have := colB (by simpa [Land.has] using h1); omega)) (by (have := colB (by simpa [Land.has] using h1); omega)))) trivial rfl rfl rfl trivial ?_
    refine dv hT (.c (false, [.v (.int .i32 (IntKind.i32.wrap (97 + (Int.tmod n x.w))))])) [] rfl trivial rfl rfl rfl trivial ?_
    refine dv hT (vS ((Utf8.encode (IntKind.i32.wrap (97 + (Int.tmod n x.w)))).data.toList)) [] rfl trivial rfl rfl rfl trivial ?_
    refine dv hT (vI n) [] rfl trivial rfl rfl rfl trivial ?_
    refine dv hT (vP 8 0) [] rfl trivial rfl rfl rfl trivial ?_
    refine dv hT (vI x.w) [8] rfl trivial rfl rfl rfl trivial ?_
    refine dv hT (vI (Int.tdiv n x.w)) [] (eqI (wI_id (by (have := colB (by simpa [Land.has] using h1); omega)) (by (have := colB (by simpa [Land.has] using h1); omega)))) (colB (by simpa [Land.has] using h1)).1 rfl rfl rfl trivial ?_
    refine dcall hT [] [] (c_impl_FormatInt (Int.tdiv n x.w) (by have := colB (by simpa [Land.has] using h1); omega)) rfl rfl rfl (f2c (ca (f2c (lav rfl) f20)) f20) (f2c (cr (f2c lrv f20)) f20) rfl rfl trivial ?_
    refine dv hT (vS (((Utf8.encode (IntKind.i32.wrap (97 + (Int.tmod n x.w)))).data.toList) ++ (Lib.itoa (Int.tdiv n x.w)))) [] rfl (by have h3 := colB (by simpa [Land.has] using h1); have := itoa_len (n := n.tdiv x.w) (by omega); have h4 := congrArg List.length (encE h3.2.1); simp at h4; simp; omega) rfl rfl rfl trivial ?_
    refine dv hT (vS (((Utf8.encode (IntKind.i32.wrap (97 + (Int.tmod n x.w)))).data.toList) ++ (Lib.itoa (Int.tdiv n x.w)))) [] rfl trivial rfl rfl rfl trivial ?_
    refine dend hm (by kernel_rfl) ?_
    refine thN ?_
    refine AW_ret ?_
    exact (qrR (ends [cS (((Utf8.encode (IntKind.i32.wrap (97 + (Int.tmod n x.w)))).data.toList) ++ (Lib.itoa (Int.tdiv n x.w)))] [] rfl rfl (f2c (cm (f2c (lmS (by have h3 := colB (by simpa [Land.has] using h1); unfold cellT; rw [if_pos (by simpa [Land.has] using h1), encE h3.2.1]; rfl)) f20)) f20)))

-- spec.l39Cell
theorem c_spec_l39Cell (x : Land) (n : Int) (hy0 : x.cells.length ≤ 140737488355328) : Con Tryd.prog 30 [(true, Land.l x 1), cI n] [cS (cellN x n)] := by
  refine con_mk hT (fn := Tryd.f30) 12 [.tmp 4] [(0, .c ((true, Land.l x 1))), (1, .c (cI n))] rfl rfl rfl rfl rfl rfl rfl ?_
  refine AW_seq ?_
  refine AW_region ?_
  refine sbox hT ((true, Land.l x 1)) rfl rfl rfl rfl (ls := Land.l x 1) rfl trivial ?_
  refine sv hT (vS []) rfl trivial rfl rfl trivial ?_
  refine rN ?_
  refine AW_seq ?_
  refine AW_seq ?_
  refine AW_region ?_
  refine sv hT (vR (Land.l x 1)) rfl trivial rfl rfl trivial ?_
  refine sv hT (vI n) rfl trivial rfl rfl trivial ?_
  refine scall hT [(1, 1, 0)] [] (c_spec_CellText x n (by omega)) rfl rfl rfl (f2c (ca (f2c (lav rfl) (f2c (lav rfl) (f2c (las rfl rfl rfl) f20)))) (f2c (ca (f2c (lav rfl) f20)) f20)) (f2c (cr (f2c lrv f20)) f20) rfl rfl trivial ?_
  refine sv hT (vS (cellT x n)) rfl trivial rfl rfl trivial ?_
  refine rN ?_
  refine AW_seq ?_
  refine AW_region ?_
  refine sv hT (vS (cellT x n)) rfl trivial rfl rfl trivial ?_
  refine sv hT (vB (!((cellT x n) == []))) rfl trivial rfl rfl trivial ?_
  refine rN ?_
  refine cnd (notIff eqStr) rfl (fun h1 => ?_) (fun h1 => ?_)
  · refine AW_seq ?_
    refine AW_region ?_
    refine sv hT (vS (cellT x n)) rfl trivial rfl rfl trivial ?_
    refine sv hT (vS (cellT x n)) rfl trivial rfl rfl trivial ?_
    refine rN ?_
    refine AW_ret ?_
    exact thR ((qrR (ends [cS (cellT x n)] [] rfl rfl (f2c (cm (f2c (lmS (by unfold cellN; rw [if_neg h1])) f20)) f20))))
  · refine AW_skip ?_
    refine thN ?_
    refine AW_seq ?_
    refine AW_region ?_
    refine sv hT (vS [63]) rfl trivial rfl rfl trivial ?_
    refine rN ?_
    refine AW_ret ?_
    exact (qrR (ends [cS [63]] [] rfl rfl (f2c (cm (f2c (lmS (by unfold cellN; rw [if_pos (by simpa using h1)])) f20)) f20)))

-- impl.nameOf
theorem c_impl_nameOf (x : Land) (n : Int) (hy0 : x.cells.length ≤ 140737488355328) : Con Tryd.prog 32 [(true, Land.l x 1), cI n] [cS (cellN x n)] := by
  refine con_mk hT (fn := Tryd.f32) 12 [.tmp 4] [(0, .c ((true, Land.l x 1))), (1, .c (cI n))] rfl rfl rfl rfl rfl rfl rfl ?_
  refine AW_seq ?_
  refine AW_region ?_
  refine sbox hT ((true, Land.l x 1)) rfl rfl rfl rfl (ls := Land.l x 1) rfl trivial ?_
  refine sv hT (vS []) rfl trivial rfl rfl trivial ?_
  refine rN ?_
  refine AW_seq ?_
  refine AW_seq ?_
  refine AW_region ?_
  refine sv hT (vR (Land.l x 1)) rfl trivial rfl rfl trivial ?_
  refine sv hT (vI n) rfl trivial rfl rfl trivial ?_
  refine scall hT [(1, 1, 0)] [] (c_impl_CellText x n (by omega)) rfl rfl rfl (f2c (ca (f2c (lav rfl) (f2c (lav rfl) (f2c (las rfl rfl rfl) f20)))) (f2c (ca (f2c (lav rfl) f20)) f20)) (f2c (cr (f2c lrv f20)) f20) rfl rfl trivial ?_
  refine sv hT (vS (cellT x n)) rfl trivial rfl rfl trivial ?_
  refine rN ?_
  refine AW_seq ?_
  refine AW_region ?_
  refine sv hT (vS (cellT x n)) rfl trivial rfl rfl trivial ?_
  refine sv hT (vB (!((cellT x n) == []))) rfl trivial rfl rfl trivial ?_
  refine rN ?_
  refine cnd (notIff eqStr) rfl (fun h1 => ?_) (fun h1 => ?_)
  · refine AW_seq ?_
    refine AW_region ?_
    refine sv hT (vS (cellT x n)) rfl trivial rfl rfl trivial ?_
    refine sv hT (vS (cellT x n)) rfl trivial rfl rfl trivial ?_
    refine rN ?_
    refine AW_ret ?_
    exact thR ((qrR (ends [cS (cellT x n)] [] rfl rfl (f2c (cm (f2c (lmS (by unfold cellN; rw [if_neg h1])) f20)) f20))))
  · refine AW_skip ?_
    refine thN ?_
    refine AW_seq ?_
    refine AW_region ?_
    refine sv hT (vS [63]) rfl trivial rfl rfl trivial ?_
    refine rN ?_
    refine AW_ret ?_
    exact (qrR (ends [cS [63]] [] rfl rfl (f2c (cm (f2c (lmS (by unfold cellN; rw [if_pos (by simpa using h1)])) f20)) f20)))

-- spec.l39Join
theorem c_spec_l39Join (l : List (List UInt8)) (hy0 : lens l + l.length ≤ 1099511627776) : Con Tryd.prog 31 [cL 1 1 0 (l.map eS)] [cS (joinT l)] := by
  refine con_mk hT (fn := Tryd.f31) 25 [.tmp 2] [(0, .c (cL 1 1 0 (l.map eS)))] rfl rfl rfl rfl rfl rfl rfl ?_
  refine AW_seq ?_
  refine AW_region ?_
  refine sv hT (vS []) rfl trivial rfl rfl trivial ?_
  refine rN ?_
  refine AW_seq ?_
  refine AW_region ?_
  refine sv hT (vS []) rfl trivial rfl rfl trivial ?_
  refine rN ?_
  refine AW_seq ?_
  refine AW_seq ?_
  refine AW_region ?_
  refine sv hT (vI 0) rfl trivial rfl rfl trivial ?_
  refine rN ?_
  refine AW_block ?_
  refine lp (α := {i : Nat // i ≤ l.length}) (fun x' => ⟨[(0, vL 1 1 0 (l.map eS)), (2, vS []), (3, vS (Lib.join (l.take x'.1) [32])), (4, vI (x'.1 : Int))], [], 100, 8, 25⟩) (fun x' => l.length - x'.1) ⟨0, by omega⟩ [] [] (sm rfl (emc rfl (f2c (lma rfl rfl) f20) (emc rfl (f2c (lmS rfl) f20) (emc rfl (f2c (lmS (by first | exact joinStep (by omega) | simp [Lib.join])) f20) (emc rfl (f2c (lmI (by simp)) f20) em0)))) xm0) (fun x' => ?_)
  obtain ⟨i, hi⟩ := x'
  change AW _ _ _ ⟨[(0, vL 1 1 0 (l.map eS)), (2, vS []), (3, vS (Lib.join (l.take i) [32])), (4, vI (i : Int))], [], 100, 8, 25⟩
  refine AW_seq ?_
  refine AW_seq ?_
  refine AW_region ?_
  refine sv hT (vI (i : Int)) rfl trivial rfl rfl trivial ?_
  refine sv hT (vL 1 1 0 (l.map eS)) rfl trivial rfl rfl trivial ?_
  refine sv hT (vI (l.length : Int)) lenM trivial rfl rfl trivial ?_
  refine sv hT (vB (decide ((i : Int) < (l.length : Int)))) rfl trivial rfl rfl trivial ?_
  refine rN ?_
  refine cnd decide_eq_true_iff rfl (fun h1 => ?_) (fun h1 => ?_)
  · refine AW_skip ?_
    refine thN ?_
    refine AW_seq ?_
    refine AW_block ?_
    refine join ⟨[(0, vL 1 1 0 (l.map eS)), (2, vS []), (3, vS (if (i : Int) > 0 then (Lib.join (l.take i) [32]) ++ [32] else Lib.join (l.take i) [32])), (4, vI (i : Int)), (5, vI (i : Int)), (6, vL 1 1 0 (l.map eS)), (7, vI (l.length : Int)), (8, vB (decide ((i : Int) < (l.length : Int)))), (11, vI (i : Int)), (12, vB (decide ((i : Int) > 0)))], [], 100, 8, 25⟩ ?_ ?_
    · refine AW_seq ?_
      refine AW_region ?_
      refine sv hT (vI (i : Int)) rfl trivial rfl rfl trivial ?_
      refine sv hT (vB (decide ((i : Int) > 0))) rfl trivial rfl rfl trivial ?_
      refine rN ?_
      refine cnd decide_eq_true_iff rfl (fun h2 => ?_) (fun h2 => ?_)
      · refine AW_region ?_
        refine sv hT (vS (Lib.join (l.take i) [32])) rfl trivial rfl rfl trivial ?_
        refine sv hT (vS ((Lib.join (l.take i) [32]) ++ [32])) rfl (by have := joinB l i; simp; omega) rfl rfl trivial ?_
        refine sv hT (vS ((Lib.join (l.take i) [32]) ++ [32])) rfl trivial rfl rfl trivial ?_
        refine rE ?_
        exact thN ⟨[], [], (sm rfl (emc rfl (f2c (lma rfl rfl) f20) (emc rfl (f2c (lmS rfl) f20) (emc rfl (f2c (lmS (by simp only [if_pos h1, if_pos h2])) f20) (emc rfl (f2c (lmI rfl) f20) (emc rfl (f2c (lmI rfl) f20) (emc rfl (f2c (lma rfl rfl) f20) (emc rfl (f2c (lmI rfl) f20) (emc rfl (f2c (lmB rfl) f20) (emc rfl (f2c (lmI rfl) f20) (emc rfl (f2c (lmB rfl) f20) em0)))))))))) xm0)⟩
      · refine AW_skip ?_
        exact thN ⟨[], [], (sm rfl (emc rfl (f2c (lma rfl rfl) f20) (emc rfl (f2c (lmS rfl) f20) (emc rfl (f2c (lmS (by simp only [if_pos h1, if_neg h2])) f20) (emc rfl (f2c (lmI rfl) f20) (emc rfl (f2c (lmI rfl) f20) (emc rfl (f2c (lma rfl rfl) f20) (emc rfl (f2c (lmI rfl) f20) (emc rfl (f2c (lmB rfl) f20) (emc rfl (f2c (lmI rfl) f20) (emc rfl (f2c (lmB rfl) f20) em0)))))))))) xm0)⟩
    refine AW_region ?_
    refine sv hT (vS (if (i : Int) > 0 then (Lib.join (l.take i) [32]) ++ [32] else Lib.join (l.take i) [32])) rfl trivial rfl rfl trivial ?_
    refine sv hT (vL 1 1 0 (l.map eS)) rfl trivial rfl rfl trivial ?_
    refine sv hT (vI (i : Int)) rfl trivial rfl rfl trivial ?_
    refine sv hT (vE 1 1 i 0 (eS (l.getD i []))) (ixM (by omega)) (okM (by omega)) rfl rfl trivial ?_
    refine sv hT (vS (l.getD i [])) rfl trivial rfl rfl trivial ?_
    refine sv hT (vS ((if (i : Int) > 0 then (Lib.join (l.take i) [32]) ++ [32] else Lib.join (l.take i) [32]) ++ (l.getD i []))) rfl (by have := joinB l i; have := lens_getD l i; split <;> simp only [List.length_append, List.length_cons, List.length_nil] <;> omega) rfl rfl trivial ?_
    refine sv hT (vS ((if (i : Int) > 0 then (Lib.join (l.take i) [32]) ++ [32] else Lib.join (l.take i) [32]) ++ (l.getD i []))) rfl trivial rfl rfl trivial ?_
    refine rE ?_
    refine ibN ?_
    refine thN ?_
    refine AW_region ?_
    refine sv hT (vI (i : Int)) rfl trivial rfl rfl trivial ?_
    refine sv hT (vI ((i : Int) + 1)) (eqI (wI_id (by omega) (by omega))) trivial rfl rfl trivial ?_
    refine sv hT (vI ((i : Int) + 1)) rfl trivial rfl rfl trivial ?_
    refine rE ?_
    exact thN ⟨⟨i + 1, by omega⟩, [], [], (by show l.length - (i + 1) < l.length - i; omega), (sm rfl (emc rfl (f2c (lma rfl rfl) f20) (emc rfl (f2c (lmS rfl) f20) (emc rfl (f2c (lmS (by first | exact joinStep (by omega) | simp [Lib.join])) f20) (emc rfl (f2c (lmI (by simp)) f20) em0)))) xm0)⟩
  · refine AW_exit ?_
    refine thE (thE (ibH ?_))
    refine thN ?_
    refine AW_seq ?_
    refine AW_seq ?_
    refine AW_region ?_
    refine sv hT (vL 1 1 0 (l.map eS)) rfl trivial rfl rfl trivial ?_
    refine sv hT (vI (l.length : Int)) lenM trivial rfl rfl trivial ?_
    refine sv hT (vB ((l.length : Int) == 0)) rfl trivial rfl rfl trivial ?_
    refine rN ?_
    refine cnd beq_iff_eq rfl (fun h3 => ?_) (fun h3 => ?_)
    · refine AW_seq ?_
      refine AW_region ?_
      refine sv hT (vS [45]) rfl trivial rfl rfl trivial ?_
      refine rN ?_
      refine AW_ret ?_
      exact thR ((qrR (ends [cS [45]] [] rfl rfl (f2c (cm (f2c (lmS (by unfold joinT; rw [if_pos (by simpa using h3)])) f20)) f20))))
    · refine AW_skip ?_
      refine thN ?_
      refine AW_seq ?_
      refine AW_region ?_
      refine sv hT (vS (Lib.join (l.take i) [32])) rfl trivial rfl rfl trivial ?_
      refine sv hT (vS (Lib.join (l.take i) [32])) rfl trivial rfl rfl trivial ?_
      refine rN ?_
      refine AW_ret ?_
      exact (qrR (ends [cS (Lib.join (l.take i) [32])] [] rfl rfl (f2c (cm (f2c (lmS (by unfold joinT; rw [if_neg (by simpa using h3), List.take_of_length_le (by omega)])) f20)) f20)))

-- impl.orDash
theorem c_impl_orDash (l : List (List UInt8)) (hy0 : lens l + l.length ≤ 1099511627776) : Con Tryd.prog 33 [cL 1 1 0 (l.map eS)] [cS (joinT l)] := by
  refine con_mk hT (fn := Tryd.f33) 8 [.tmp 2] [(0, .c (cL 1 1 0 (l.map eS)))] rfl rfl rfl rfl rfl rfl rfl ?_
  refine AW_seq ?_
  refine AW_region ?_
  refine sv hT (vS []) rfl trivial rfl rfl trivial ?_
  refine rN ?_
  refine AW_seq ?_
  refine AW_seq ?_
  refine AW_region ?_
  refine sv hT (vL 1 1 0 (l.map eS)) rfl trivial rfl rfl trivial ?_
  refine sv hT (vI (l.length : Int)) lenM trivial rfl rfl trivial ?_
  refine sv hT (vB ((l.length : Int) == 0)) rfl trivial rfl rfl trivial ?_
  refine rN ?_
  refine cnd beq_iff_eq rfl (fun h1 => ?_) (fun h1 => ?_)
  · refine AW_seq ?_
    refine AW_region ?_
    refine sv hT (vS [45]) rfl trivial rfl rfl trivial ?_
    refine rN ?_
    refine AW_ret ?_
    exact thR ((qrR (ends [cS [45]] [] rfl rfl (f2c (cm (f2c (lmS (by unfold joinT; rw [if_pos (by simpa using h1)])) f20)) f20))))
  · refine AW_skip ?_
    refine thN ?_
    refine AW_seq ?_
    refine AW_region ?_
    refine sv hT (vL 1 1 0 (l.map eS)) rfl trivial rfl rfl trivial ?_
    refine scall hT [(1, 1, 0)] [] (c_strings_Join l [32] (by have := join_len l; omega)) rfl rfl rfl (f2c (ca (f2c (las rfl rfl rfl) f20)) (f2c (ca (f2c (lav rfl) f20)) f20)) (f2c (cr (f2c lrv f20)) f20) rfl rfl trivial ?_
    refine sv hT (vS (Lib.join l [32])) rfl trivial rfl rfl trivial ?_
    refine rN ?_
    refine AW_ret ?_
    exact (qrR (ends [cS (Lib.join l [32])] [] rfl rfl (f2c (cm (f2c (lmS (by unfold joinT; rw [if_neg (by simpa using h1)])) f20)) f20)))

-- spec.FormatCells
theorem c_spec_FormatCells (x : Land) (l : List Int) (hy0 : x.cells.length ≤ 1099511627776 ∧ l.length ≤ 10995116277) : Con Tryd.prog 8 [(true, Land.l x 1), cL 1 2 0 (l.map eI)] [cS (joinT (l.map (cellN x)))] := by
  refine con_mk hT (fn := Tryd.f8) 25 [.tmp 4] [(0, .c ((true, Land.l x 1))), (1, .c (cL 1 2 0 (l.map eI)))] rfl rfl rfl rfl rfl rfl rfl ?_
  refine AW_seq ?_
  refine AW_region ?_
  refine sbox hT ((true, Land.l x 1)) rfl rfl rfl rfl (ls := Land.l x 1) rfl trivial ?_
  refine sv hT (vS []) rfl trivial rfl rfl trivial ?_
  refine rN ?_
  refine AW_seq ?_
  refine AW_region ?_
  refine slit0 hT rfl rfl rfl rfl rfl (z := 1) rfl trivial ?_
  refine sv hT (vL 1 0 0 []) rfl trivial rfl rfl trivial ?_
  refine rN ?_
  refine AW_seq ?_
  refine AW_seq ?_
  refine AW_region ?_
  refine sv hT (vI 0) rfl trivial rfl rfl trivial ?_
  refine rN ?_
  refine AW_block ?_
  refine own1 5 rfl ?_
  refine lp (α := {i : Nat // i ≤ l.length}) (fun x' => ⟨[(1, vL 1 2 0 (l.map eI)), (2, vP 8 0), (4, vS []), (5, vL 1 132 0 (((l.take x'.1).map (cellN x)).map eS)), (6, vI (x'.1 : Int))], [(8, Land.l x 1)], 4244, 10, 25⟩) (fun x' => l.length - x'.1) ⟨0, by omega⟩ [(132, 132, 0)] [(8, 8)] (sm rfl (emc rfl (f2c (lma rfl rfl) f20) (emc rfl (f2c (lmp rfl) f20) (emc rfl (f2c (lmS rfl) f20) (emc rfl (f2c (lmo (by first | rfl | exact congrArg (List.map eS) (mapStep (by omega))) rfl rfl rfl) f20) (emc rfl (f2c (lmI (by simp)) f20) em0))))) (xmc rfl rfl (f2c (lmI rfl) (f2c (lmI rfl) (f2c (lma rfl rfl) f20))) xm0)) (fun x' => ?_)
  obtain ⟨i, hi⟩ := x'
  change AW _ _ _ ⟨[(1, vL 1 2 0 (l.map eI)), (2, vP 8 0), (4, vS []), (5, vL 1 132 0 (((l.take i).map (cellN x)).map eS)), (6, vI (i : Int))], [(8, Land.l x 1)], 4244, 10, 25⟩
  refine AW_seq ?_
  refine AW_seq ?_
  refine AW_region ?_
  refine sv hT (vI (i : Int)) rfl trivial rfl rfl trivial ?_
  refine sv hT (vL 1 2 0 (l.map eI)) rfl trivial rfl rfl trivial ?_
  refine sv hT (vI (l.length : Int)) lenM trivial rfl rfl trivial ?_
  refine sv hT (vB (decide ((i : Int) < (l.length : Int)))) rfl trivial rfl rfl trivial ?_
  refine rN ?_
  refine cnd decide_eq_true_iff rfl (fun h1 => ?_) (fun h1 => ?_)
  · refine AW_skip ?_
    refine thN ?_
    refine AW_seq ?_
    refine AW_block ?_
    refine dstart 4404 20 rfl ?_
    refine dv hT (vL 1 132 0 (((l.take i).map (cellN x)).map eS)) [] rfl trivial rfl rfl rfl trivial ?_
    refine dv hT (vR (Land.l x 1)) [8] rfl trivial rfl rfl rfl trivial ?_
    refine dv hT (vL 1 2 0 (l.map eI)) [] rfl trivial rfl rfl rfl trivial ?_
    refine dv hT (vI (i : Int)) [] rfl trivial rfl rfl rfl trivial ?_
    refine dv hT (vE 1 2 i 0 (eI (l.getD i 0))) [] (ixM (by omega)) (okM (by omega)) rfl rfl rfl trivial ?_
    refine dv hT (vI (l.getD i 0)) [] rfl trivial rfl rfl rfl trivial ?_
    refine dcall hT [(1, 1, 0)] [] (c_spec_l39Cell x (l.getD i 0) (by omega)) rfl rfl rfl (f2c (ca (f2c (lav rfl) (f2c (lav rfl) (f2c (las rfl rfl rfl) f20)))) (f2c (ca (f2c (lav rfl) f20)) f20)) (f2c (cr (f2c lrv f20)) f20) rfl rfl trivial ?_
    refine dlit hT 4356 ([cellN x (l.getD i 0)].map eS) rfl rfl rfl rfl (z := 1) rfl rfl rfl rfl rfl rfl trivial ?_
    refine dapk hT 4372 ((((l.take i).map (cellN x)) ++ [cellN x (l.getD i 0)]).map eS) [5, 14] rfl rfl rfl rfl rfl rfl rfl (by change (_ + _) * 16 ≤ _; simp <;> omega) (z := 1) rfl List.map_append.symm rfl rfl trivial ?_
    refine dv hT (vL 1 4372 0 ((((l.take i).map (cellN x)) ++ [cellN x (l.getD i 0)]).map eS)) [] rfl trivial rfl rfl rfl trivial ?_
    refine dend hm (by kernel_rfl) ?_
    refine ibN ?_
    refine thN ?_
    refine AW_region ?_
    refine sv hT (vI (i : Int)) rfl trivial rfl rfl trivial ?_
    refine sv hT (vI ((i : Int) + 1)) (eqI (wI_id (by omega) (by omega))) trivial rfl rfl trivial ?_
    refine sv hT (vI ((i : Int) + 1)) rfl trivial rfl rfl trivial ?_
    refine rE ?_
    exact thN ⟨⟨i + 1, by omega⟩, [(132, 4372, 0)], [(8, 8)], (by show l.length - (i + 1) < l.length - i; omega), (sm rfl (emc rfl (f2c (lma rfl rfl) f20) (emc rfl (f2c (lmp rfl) f20) (emc rfl (f2c (lmS rfl) f20) (emc rfl (f2c (lmo (by first | rfl | exact congrArg (List.map eS) (mapStep (by omega))) rfl rfl rfl) f20) (emc rfl (f2c (lmI (by simp)) f20) em0))))) (xmc rfl rfl (f2c (lmI rfl) (f2c (lmI rfl) (f2c (lma rfl rfl) f20))) xm0))⟩
  · refine AW_exit ?_
    refine thE (thE (ibH ?_))
    refine thN ?_
    refine AW_seq ?_
    refine AW_region ?_
    refine sv hT (vL 1 132 0 (((l.take i).map (cellN x)).map eS)) rfl trivial rfl rfl trivial ?_
    refine scall hT [(1, 132, 0)] [] (c_spec_l39Join ((l.take i).map (cellN x)) (by rw [List.take_of_length_le (by omega)]; have := lens_map (cellN x) 21 (cellN_len x) l; simp only [List.length_map]; omega)) rfl rfl rfl (f2c (ca (f2c (las rfl rfl rfl) f20)) f20) (f2c (cr (f2c lrv f20)) f20) rfl rfl trivial ?_
    refine sv hT (vS (joinT ((l.take i).map (cellN x)))) rfl trivial rfl rfl trivial ?_
    refine rN ?_
    refine AW_ret ?_
    exact (qrR (ends [cS (joinT ((l.take i).map (cellN x)))] [] rfl rfl (f2c (cm (f2c (lmS (by rw [List.take_of_length_le (by omega)])) f20)) f20)))

-- impl.FormatCells
theorem c_impl_FormatCells (x : Land) (l : List Int) (hy0 : x.cells.length ≤ 1099511627776 ∧ l.length ≤ 10995116277) : Con Tryd.prog 11 [(true, Land.l x 1), cL 1 2 0 (l.map eI)] [cS (joinT (l.map (cellN x)))] := by
  refine con_mk hT (fn := Tryd.f11) 24 [.tmp 4] [(0, .c ((true, Land.l x 1))), (1, .c (cL 1 2 0 (l.map eI)))] rfl rfl rfl rfl rfl rfl rfl ?_
  refine AW_seq ?_
  refine AW_region ?_
  refine sbox hT ((true, Land.l x 1)) rfl rfl rfl rfl (ls := Land.l x 1) rfl trivial ?_
  refine sv hT (vS []) rfl trivial rfl rfl trivial ?_
  refine rN ?_
  refine AW_seq ?_
  refine AW_region ?_
  refine slit0 hT rfl rfl rfl rfl rfl (z := 1) rfl trivial ?_
  refine sv hT (vL 1 0 0 []) rfl trivial rfl rfl trivial ?_
  refine rN ?_
  refine AW_seq ?_
  refine AW_seq ?_
  refine AW_region ?_
  refine sv hT (vL 1 2 0 (l.map eI)) rfl trivial rfl rfl trivial ?_
  refine sv hT (vI (l.length : Int)) lenM trivial rfl rfl trivial ?_
  refine sv hT (vI 0) rfl trivial rfl rfl trivial ?_
  refine rN ?_
  refine AW_block ?_
  refine own1 5 rfl ?_
  refine lp (α := {i : Nat // i ≤ l.length}) (fun x' => ⟨[(2, vP 8 0), (4, vS []), (5, vL 1 132 0 (((l.take x'.1).map (cellN x)).map eS)), (9, vL 1 2 0 (l.map eI)), (10, vI (l.length : Int)), (11, vI (x'.1 : Int))], [(8, Land.l x 1)], 4244, 10, 24⟩) (fun x' => l.length - x'.1) ⟨0, by omega⟩ [(132, 132, 0)] [(8, 8)] (sm rfl (emc rfl (f2c (lmp rfl) f20) (emc rfl (f2c (lmS rfl) f20) (emc rfl (f2c (lmo (by first | rfl | exact congrArg (List.map eS) (mapStep (by omega))) rfl rfl rfl) f20) (emc rfl (f2c (lma rfl rfl) f20) (emc rfl (f2c (lmI rfl) f20) (emc rfl (f2c (lmI (by simp)) f20) em0)))))) (xmc rfl rfl (f2c (lmI rfl) (f2c (lmI rfl) (f2c (lma rfl rfl) f20))) xm0)) (fun x' => ?_)
  obtain ⟨i, hi⟩ := x'
  change AW _ _ _ ⟨[(2, vP 8 0), (4, vS []), (5, vL 1 132 0 (((l.take i).map (cellN x)).map eS)), (9, vL 1 2 0 (l.map eI)), (10, vI (l.length : Int)), (11, vI (i : Int))], [(8, Land.l x 1)], 4244, 10, 24⟩
  refine AW_seq ?_
  refine AW_region ?_
  refine sv hT (vB (decide ((i : Int) < (l.length : Int)))) rfl trivial rfl rfl trivial ?_
  refine rN ?_
  refine AW_seq ?_
  refine cnd decide_eq_true_iff rfl (fun h1 => ?_) (fun h1 => ?_)
  · refine AW_skip ?_
    refine thN ?_
    refine AW_seq ?_
    refine AW_block ?_
    refine AW_seq ?_
    refine AW_region ?_
    refine sv hT (vE 1 2 i 0 (eI (l.getD i 0))) (ixM (by omega)) (okM (by omega)) rfl rfl trivial ?_
    refine sv hT (vI (l.getD i 0)) rfl trivial rfl rfl trivial ?_
    refine sv hT (vI (l.getD i 0)) rfl trivial rfl rfl trivial ?_
    refine rN ?_
    refine AW_region ?_
    refine sv hT (vL 1 132 0 (((l.take i).map (cellN x)).map eS)) rfl trivial rfl rfl trivial ?_
    refine sv hT (vR (Land.l x 1)) rfl trivial rfl rfl trivial ?_
    refine sv hT (vI (l.getD i 0)) rfl trivial rfl rfl trivial ?_
    refine scall hT [(1, 1, 0)] [] (c_impl_nameOf x (l.getD i 0) (by omega)) rfl rfl rfl (f2c (ca (f2c (lav rfl) (f2c (lav rfl) (f2c (las rfl rfl rfl) f20)))) (f2c (ca (f2c (lav rfl) f20)) f20)) (f2c (cr (f2c lrv f20)) f20) rfl rfl trivial ?_
    refine slit hT ([cellN x (l.getD i 0)].map eS) rfl rfl rfl (z := 1) rfl rfl rfl rfl rfl rfl trivial ?_
    refine sapk hT ((((l.take i).map (cellN x)) ++ [cellN x (l.getD i 0)]).map eS) [5, 15] rfl rfl rfl rfl rfl rfl (by change (_ + _) * 16 ≤ _; simp <;> omega) (z := 1) rfl List.map_append.symm rfl rfl trivial ?_
    refine sv hT (vL 1 4276 0 ((((l.take i).map (cellN x)) ++ [cellN x (l.getD i 0)]).map eS)) rfl trivial rfl rfl trivial ?_
    refine rE ?_
    refine ibN ?_
    refine thN ?_
    refine AW_region ?_
    refine sv hT (vI ((i : Int) + 1)) (eqI (wI_id (by omega) (by omega))) trivial rfl rfl trivial ?_
    refine sv hT (vI ((i : Int) + 1)) rfl trivial rfl rfl trivial ?_
    refine rE ?_
    exact thN ⟨⟨i + 1, by omega⟩, [(132, 4276, 0)], [(8, 8)], (by show l.length - (i + 1) < l.length - i; omega), (sm rfl (emc rfl (f2c (lmp rfl) f20) (emc rfl (f2c (lmS rfl) f20) (emc rfl (f2c (lmo (by first | rfl | exact congrArg (List.map eS) (mapStep (by omega))) rfl rfl rfl) f20) (emc rfl (f2c (lma rfl rfl) f20) (emc rfl (f2c (lmI rfl) f20) (emc rfl (f2c (lmI (by simp)) f20) em0)))))) (xmc rfl rfl (f2c (lmI rfl) (f2c (lmI rfl) (f2c (lma rfl rfl) f20))) xm0))⟩
  · refine AW_exit ?_
    refine thE (thE (ibH ?_))
    refine thN ?_
    refine AW_seq ?_
    refine AW_region ?_
    refine sv hT (vL 1 132 0 (((l.take i).map (cellN x)).map eS)) rfl trivial rfl rfl trivial ?_
    refine scall hT [(1, 132, 0)] [] (c_impl_orDash ((l.take i).map (cellN x)) (by rw [List.take_of_length_le (by omega)]; have := lens_map (cellN x) 21 (cellN_len x) l; simp only [List.length_map]; omega)) rfl rfl rfl (f2c (ca (f2c (las rfl rfl rfl) f20)) f20) (f2c (cr (f2c lrv f20)) f20) rfl rfl trivial ?_
    refine sv hT (vS (joinT ((l.take i).map (cellN x)))) rfl trivial rfl rfl trivial ?_
    refine rN ?_
    refine AW_ret ?_
    exact (qrR (ends [cS (joinT ((l.take i).map (cellN x)))] [] rfl rfl (f2c (cm (f2c (lmS (by rw [List.take_of_length_le (by omega)])) f20)) f20)))

-- laws.toIntS
theorem c_laws_toIntS (l : List Int) (hy0 : l.length ≤ 1048576) : Con Tryd.prog 10 [cL 1 1 0 (l.map eI)] [cL 1 100 0 (l.map eI)] := by
  refine con_mk hT (fn := Tryd.f10) 22 [.tmp 2] [(0, .c (cL 1 1 0 (l.map eI)))] rfl rfl rfl rfl rfl rfl rfl ?_
  refine AW_seq ?_
  refine AW_region ?_
  refine sv hT (vL 1 0 0 []) rfl trivial rfl rfl trivial ?_
  refine rN ?_
  refine AW_seq ?_
  refine AW_region ?_
  refine sv hT (vL 1 1 0 (l.map eI)) rfl trivial rfl rfl trivial ?_
  refine sv hT (vI (l.length : Int)) lenM trivial rfl rfl trivial ?_
  refine smake hT ((List.replicate l.length 0).map eI) rfl rfl rfl (z := 1) rfl rfl rfl rfl rfl ⟨by omega, rfl, by show (8 : Int) * _ ≤ _; omega, by omega⟩ (by simp []) rfl rfl trivial ?_
  refine sv hT (vL 1 100 0 ((List.replicate l.length 0).map eI)) rfl trivial rfl rfl trivial ?_
  refine rN ?_
  refine AW_seq ?_
  refine AW_seq ?_
  refine AW_region ?_
  refine sv hT (vI 0) rfl trivial rfl rfl trivial ?_
  refine rN ?_
  refine AW_block ?_
  refine lp (α := {i : Nat // i ≤ l.length}) (fun x' => ⟨[(0, vL 1 1 0 (l.map eI)), (2, vL 1 0 0 []), (3, vL 1 100 0 ((l.take x'.1 ++ List.replicate (l.length - x'.1) 0).map eI)), (4, vI (x'.1 : Int))], [], 180, 9, 22⟩) (fun x' => l.length - x'.1) ⟨0, by omega⟩ [(100, 100, 0)] [] (sm rfl (emc rfl (f2c (lma rfl rfl) f20) (emc rfl (f2c (lma rfl rfl) f20) (emc rfl (f2c (lmo (by first | rfl | exact congrArg (List.map eI) (setStep (by omega))) rfl rfl rfl) f20) (emc rfl (f2c (lmI (by simp)) f20) em0)))) xm0) (fun x' => ?_)
  obtain ⟨i, hi⟩ := x'
  change AW _ _ _ ⟨[(0, vL 1 1 0 (l.map eI)), (2, vL 1 0 0 []), (3, vL 1 100 0 ((l.take i ++ List.replicate (l.length - i) 0).map eI)), (4, vI (i : Int))], [], 180, 9, 22⟩
  refine AW_seq ?_
  refine AW_seq ?_
  refine AW_region ?_
  refine sv hT (vI (i : Int)) rfl trivial rfl rfl trivial ?_
  refine sv hT (vL 1 1 0 (l.map eI)) rfl trivial rfl rfl trivial ?_
  refine sv hT (vI (l.length : Int)) lenM trivial rfl rfl trivial ?_
  refine sv hT (vB (decide ((i : Int) < (l.length : Int)))) rfl trivial rfl rfl trivial ?_
  refine rN ?_
  refine cnd decide_eq_true_iff rfl (fun h1 => ?_) (fun h1 => ?_)
  · refine AW_skip ?_
    refine thN ?_
    refine AW_seq ?_
    refine AW_block ?_
    refine AW_region ?_
    refine sv hT (vL 1 100 0 ((l.take i ++ List.replicate (l.length - i) 0).map eI)) rfl trivial rfl rfl trivial ?_
    refine sv hT (vI (i : Int)) rfl trivial rfl rfl trivial ?_
    refine sv hT (vL 1 1 0 (l.map eI)) rfl trivial rfl rfl trivial ?_
    refine sv hT (vI (i : Int)) rfl trivial rfl rfl trivial ?_
    refine sv hT (vE 1 1 i 0 (eI (l.getD i 0))) (ixM (by omega)) (okM (by omega)) rfl rfl trivial ?_
    refine sv hT (vI (l.getD i 0)) rfl trivial rfl rfl trivial ?_
    refine sv hT (vE 1 100 i 0 (eI ((l.take i ++ List.replicate (l.length - i) 0 : List Int).getD i 0))) (ixM (by (simp only [List.length_append, List.length_replicate, List.length_take]; omega))) (okM (by (simp only [List.length_append, List.length_replicate, List.length_take]; omega))) rfl rfl trivial ?_
    refine ssek hT [Value.int .i64 (l.getD i 0)] [(3, vL 1 100 0 (((l.take i ++ List.replicate (l.length - i) 0).set i (l.getD i 0)).map eI)), (14, vL 1 100 0 (((l.take i ++ List.replicate (l.length - i) 0).set i (l.getD i 0)).map eI)), (20, .u)] rfl rfl rfl rfl rfl rfl rfl rfl (fun p hp => by simp only [List.mem_cons, List.not_mem_nil, or_false] at hp; rcases hp with rfl | rfl | rfl <;> first | exact .inl rfl | exact .inr (updOk _)) trivial ?_
    refine rE ?_
    refine ibN ?_
    refine thN ?_
    refine AW_region ?_
    refine sv hT (vI (i : Int)) rfl trivial rfl rfl trivial ?_
    refine sv hT (vI ((i : Int) + 1)) (eqI (wI_id (by omega) (by omega))) trivial rfl rfl trivial ?_
    refine sv hT (vI ((i : Int) + 1)) rfl trivial rfl rfl trivial ?_
    refine rE ?_
    exact thN ⟨⟨i + 1, by omega⟩, [(100, 100, 0)], [], (by show l.length - (i + 1) < l.length - i; omega), (sm rfl (emc rfl (f2c (lma rfl rfl) f20) (emc rfl (f2c (lma rfl rfl) f20) (emc rfl (f2c (lmo (by first | rfl | exact congrArg (List.map eI) (setStep (by omega))) rfl rfl rfl) f20) (emc rfl (f2c (lmI (by simp)) f20) em0)))) xm0)⟩
  · refine AW_exit ?_
    refine thE (thE (ibH ?_))
    refine thN ?_
    refine AW_seq ?_
    refine AW_region ?_
    refine sv hT (vL 1 100 0 ((l.take i ++ List.replicate (l.length - i) 0).map eI)) rfl trivial rfl rfl trivial ?_
    refine sv hT (vL 1 100 0 ((l.take i ++ List.replicate (l.length - i) 0).map eI)) rfl trivial rfl rfl trivial ?_
    refine rN ?_
    refine AW_ret ?_
    exact (qrR (ends [cL 1 100 0 ((l.take i ++ List.replicate (l.length - i) 0).map eI)] [(100, 100, 0)] rfl rfl (f2c (cm (f2c (lmo (by exact congrArg (List.map eI) (by rw [List.take_of_length_le (by omega), show l.length - i = 0 by omega]; simp)) rfl rfl rfl) f20)) f20)))

-- laws.toLand
theorem c_laws_toLand (x : Land) (hy0 : x.cells.length ≤ 1048576) : Con Tryd.prog 9 [(true, Land.l x 1)] [(true, Land.l x 100)] := by
  refine con_mk hT (fn := Tryd.f9) 15 [.cell 2 27] [(0, .c ((true, Land.l x 1)))] rfl rfl rfl rfl rfl rfl rfl ?_
  refine AW_seq ?_
  refine AW_region ?_
  refine sbox hT ((true, Land.l x 1)) rfl rfl rfl rfl (ls := Land.l x 1) rfl trivial ?_
  refine salloc hT rfl rfl rfl rfl (ls := [lI 0, lI 0, .sl 1 0 0 []]) rfl trivial ?_
  refine rN ?_
  refine AW_seq ?_
  refine AW_region ?_
  refine salloc hT rfl rfl rfl rfl (ls := [lI 0, lI 0, .sl 1 0 0 []]) rfl trivial ?_
  refine rN ?_
  refine AW_seq ?_
  refine AW_region ?_
  refine sv hT (vP 8 0) rfl trivial rfl rfl trivial ?_
  refine sv hT (vI x.w) rfl trivial rfl rfl trivial ?_
  refine sv hT (vP 10 0) rfl trivial rfl rfl trivial ?_
  refine sst hT [lI x.w, lI 0, .sl 1 0 0 []] rfl rfl rfl rfl rfl rfl rfl rfl trivial ?_
  refine rN ?_
  refine AW_seq ?_
  refine AW_region ?_
  refine sv hT (vP 8 1) rfl trivial rfl rfl trivial ?_
  refine sv hT (vI x.h) rfl trivial rfl rfl trivial ?_
  refine sv hT (vP 10 1) rfl trivial rfl rfl trivial ?_
  refine sst hT [lI x.w, lI x.h, .sl 1 0 0 []] rfl rfl rfl rfl rfl rfl rfl rfl trivial ?_
  refine rN ?_
  refine AW_seq ?_
  refine AW_region ?_
  refine sv hT (vP 8 2) rfl trivial rfl rfl trivial ?_
  refine sv hT (vL 1 1 0 (x.cells.map eI)) rfl trivial rfl rfl trivial ?_
  refine scall hT [(1, 1, 0)] [(148, 100)] (c_laws_toIntS x.cells (by omega)) rfl rfl rfl (f2c (ca (f2c (las rfl rfl rfl) f20)) f20) (f2c (cr (f2c (lrn (t := 148) rfl rfl) f20)) f20) rfl rfl trivial ?_
  refine sv hT (vP 10 2) rfl trivial rfl rfl trivial ?_
  refine sst hT (Land.l x 148) rfl rfl rfl rfl rfl rfl rfl rfl trivial ?_
  refine rN ?_
  refine AW_seq ?_
  refine AW_region ?_
  refine sv hT (vR (Land.l x 148)) rfl trivial rfl rfl trivial ?_
  refine sst hT (Land.l x 148) rfl rfl rfl rfl rfl rfl rfl rfl trivial ?_
  refine rN ?_
  refine AW_ret ?_
  exact (qrR (ends [(true, Land.l x 148)] [(100, 148, 0)] rfl rfl (f2c (cm (f2c (lmI rfl) (f2c (lmI rfl) (f2c (lmo rfl rfl rfl rfl) f20)))) f20)))

-- laws.eqIntS
theorem c_laws_eqIntS (a : List Int) (b : List Int) (hy0 : a.length ≤ 1099511627776) : Con Tryd.prog 13 [cL 1 1 0 (a.map eI), cL 1 2 0 (b.map eI)] [cB (decide (a = b))] := by
  refine con_mk hT (fn := Tryd.f13) 26 [.tmp 4] [(0, .c (cL 1 1 0 (a.map eI))), (1, .c (cL 1 2 0 (b.map eI)))] rfl rfl rfl rfl rfl rfl rfl ?_
  refine AW_seq ?_
  refine AW_region ?_
  refine sv hT (vB false) rfl trivial rfl rfl trivial ?_
  refine rN ?_
  refine AW_seq ?_
  refine AW_seq ?_
  refine AW_region ?_
  refine sv hT (vL 1 1 0 (a.map eI)) rfl trivial rfl rfl trivial ?_
  refine sv hT (vI (a.length : Int)) lenM trivial rfl rfl trivial ?_
  refine sv hT (vL 1 2 0 (b.map eI)) rfl trivial rfl rfl trivial ?_
  refine sv hT (vI (b.length : Int)) lenM trivial rfl rfl trivial ?_
  refine sv hT (vB ((a.length : Int) != (b.length : Int))) rfl trivial rfl rfl trivial ?_
  refine rN ?_
  refine cnd bne_iff_ne rfl (fun h1 => ?_) (fun h1 => ?_)
  · refine AW_seq ?_
    refine AW_region ?_
    refine sv hT (vB false) rfl trivial rfl rfl trivial ?_
    refine rN ?_
    refine AW_ret ?_
    exact thR ((qrR (ends [cB false] [] rfl rfl (f2c (cm (f2c (lmB (by exact (decide_eq_false (fun h => h1 (by rw [h]))).symm)) f20)) f20))))
  · refine AW_skip ?_
    refine thN ?_
    refine AW_seq ?_
    refine AW_seq ?_
    refine AW_region ?_
    refine sv hT (vI 0) rfl trivial rfl rfl trivial ?_
    refine rN ?_
    refine AW_block ?_
    refine lp (α := {i : Nat // i ≤ a.length ∧ a.take i = b.take i}) (fun x' => ⟨[(0, vL 1 1 0 (a.map eI)), (1, vL 1 2 0 (b.map eI)), (5, vI (x'.1 : Int))], [], 100, 8, 26⟩) (fun x' => a.length - x'.1) ⟨0, by omega, rfl⟩ [] [] (sm rfl (emc rfl (f2c (lma rfl rfl) f20) (emc rfl (f2c (lma rfl rfl) f20) (emc rfl (f2c (lmI (by simp)) f20) em0))) xm0) (fun x' => ?_)
    obtain ⟨i, hi1, hi2⟩ := x'
    change AW _ _ _ ⟨[(0, vL 1 1 0 (a.map eI)), (1, vL 1 2 0 (b.map eI)), (5, vI (i : Int))], [], 100, 8, 26⟩
    refine AW_seq ?_
    refine AW_seq ?_
    refine AW_region ?_
    refine sv hT (vI (i : Int)) rfl trivial rfl rfl trivial ?_
    refine sv hT (vL 1 1 0 (a.map eI)) rfl trivial rfl rfl trivial ?_
    refine sv hT (vI (a.length : Int)) lenM trivial rfl rfl trivial ?_
    refine sv hT (vB (decide ((i : Int) < (a.length : Int)))) rfl trivial rfl rfl trivial ?_
    refine rN ?_
    refine cnd decide_eq_true_iff rfl (fun h2 => ?_) (fun h2 => ?_)
    · refine AW_skip ?_
      refine thN ?_
      refine AW_seq ?_
      refine AW_block ?_
      refine AW_seq ?_
      refine dstart 244 17 rfl ?_
      refine dv hT (vL 1 1 0 (a.map eI)) [] rfl trivial rfl rfl rfl trivial ?_
      refine dv hT (vI (i : Int)) [] rfl trivial rfl rfl rfl trivial ?_
      refine dv hT (vE 1 1 i 0 (eI (a.getD i 0))) [] (ixM (by omega)) (okM (by omega)) rfl rfl rfl trivial ?_
      refine dv hT (vI (a.getD i 0)) [] rfl trivial rfl rfl rfl trivial ?_
      refine dv hT (vL 1 2 0 (b.map eI)) [] rfl trivial rfl rfl rfl trivial ?_
      refine dv hT (vI (i : Int)) [] rfl trivial rfl rfl rfl trivial ?_
      refine dv hT (vE 1 2 i 0 (eI (b.getD i 0))) [] (ixM (by omega)) (okM (by omega)) rfl rfl rfl trivial ?_
      refine dv hT (vI (b.getD i 0)) [] rfl trivial rfl rfl rfl trivial ?_
      refine dv hT (vB ((a.getD i 0) != (b.getD i 0))) [] rfl trivial rfl rfl rfl trivial ?_
      refine dend hm (by kernel_rfl) ?_
      refine thN ?_
      refine cnd bne_iff_ne rfl (fun h3 => ?_) (fun h3 => ?_)
      · refine AW_seq ?_
        refine AW_region ?_
        refine sv hT (vB false) rfl trivial rfl rfl trivial ?_
        refine rN ?_
        refine AW_ret ?_
        exact ibR (thR (thR (ibR (thR ((qrR (ends [cB false] [] rfl rfl (f2c (cm (f2c (lmB (by exact (decide_eq_false (fun h => absurd (by rw [h]) h3)).symm)) f20)) f20))))))))
      · refine AW_skip ?_
        refine ibN ?_
        refine thN ?_
        refine AW_region ?_
        refine sv hT (vI (i : Int)) rfl trivial rfl rfl trivial ?_
        refine sv hT (vI ((i : Int) + 1)) (eqI (wI_id (by omega) (by omega))) trivial rfl rfl trivial ?_
        refine sv hT (vI ((i : Int) + 1)) rfl trivial rfl rfl trivial ?_
        refine rE ?_
        exact thN ⟨⟨i + 1, by omega, eqTake (d := 0) hi2 (by omega) (by omega) (by omega)⟩, [], [], (by show a.length - (i + 1) < a.length - i; omega), (sm rfl (emc rfl (f2c (lma rfl rfl) f20) (emc rfl (f2c (lma rfl rfl) f20) (emc rfl (f2c (lmI (by simp)) f20) em0))) xm0)⟩
    · refine AW_exit ?_
      refine thE (thE (ibH ?_))
      refine thN ?_
      refine AW_seq ?_
      refine AW_region ?_
      refine sv hT (vB true) rfl trivial rfl rfl trivial ?_
      refine rN ?_
      refine AW_ret ?_
      exact (qrR (ends [cB true] [] rfl rfl (f2c (cm (f2c (lmB (by exact (decide_eq_true (eqOf hi2 (by omega) (by omega))).symm)) f20)) f20)))

-- laws.eqLand
theorem c_laws_eqLand (x : Land) (y : Land) (hy0 : x.cells.length ≤ 1099511627776) : Con Tryd.prog 12 [(true, Land.l x 1), (true, Land.l y 2)] [cB (decide (x = y))] := by
  refine con_mk hT (fn := Tryd.f12) 21 [.tmp 4] [(0, .c ((true, Land.l x 1))), (1, .c ((true, Land.l y 2)))] rfl rfl rfl rfl rfl rfl rfl ?_
  refine AW_seq ?_
  refine AW_region ?_
  refine sbox hT ((true, Land.l x 1)) rfl rfl rfl rfl (ls := Land.l x 1) rfl trivial ?_
  refine sbox hT ((true, Land.l y 2)) rfl rfl rfl rfl (ls := Land.l y 2) rfl trivial ?_
  refine sv hT (vB false) rfl trivial rfl rfl trivial ?_
  refine rN ?_
  refine AW_seq ?_
  refine AW_seq ?_
  refine AW_region ?_
  refine sv hT (vP 8 0) rfl trivial rfl rfl trivial ?_
  refine sv hT (vI x.w) rfl trivial rfl rfl trivial ?_
  refine sv hT (vP 9 0) rfl trivial rfl rfl trivial ?_
  refine sv hT (vI y.w) rfl trivial rfl rfl trivial ?_
  refine sv hT (vB (x.w != y.w)) rfl trivial rfl rfl trivial ?_
  refine rN ?_
  refine cnd bne_iff_ne rfl (fun h1 => ?_) (fun h1 => ?_)
  · refine AW_seq ?_
    refine AW_region ?_
    refine sv hT (vB false) rfl trivial rfl rfl trivial ?_
    refine rN ?_
    refine AW_ret ?_
    exact thR ((qrR (ends [cB false] [] rfl rfl (f2c (cm (f2c (lmB (by exact (decide_eq_false (fun h => absurd (by rw [h]) h1)).symm)) f20)) f20))))
  · refine AW_skip ?_
    refine thN ?_
    refine AW_seq ?_
    refine AW_seq ?_
    refine AW_region ?_
    refine sv hT (vP 8 1) rfl trivial rfl rfl trivial ?_
    refine sv hT (vI x.h) rfl trivial rfl rfl trivial ?_
    refine sv hT (vP 9 1) rfl trivial rfl rfl trivial ?_
    refine sv hT (vI y.h) rfl trivial rfl rfl trivial ?_
    refine sv hT (vB (x.h != y.h)) rfl trivial rfl rfl trivial ?_
    refine rN ?_
    refine cnd bne_iff_ne rfl (fun h2 => ?_) (fun h2 => ?_)
    · refine AW_seq ?_
      refine AW_region ?_
      refine sv hT (vB false) rfl trivial rfl rfl trivial ?_
      refine rN ?_
      refine AW_ret ?_
      exact thR ((qrR (ends [cB false] [] rfl rfl (f2c (cm (f2c (lmB (by exact (decide_eq_false (fun h => absurd (by rw [h]) h2)).symm)) f20)) f20))))
    · refine AW_skip ?_
      refine thN ?_
      refine AW_seq ?_
      refine AW_seq ?_
      refine AW_region ?_
      refine sv hT (vP 8 2) rfl trivial rfl rfl trivial ?_
      refine sv hT (vL 1 1 0 (x.cells.map eI)) rfl trivial rfl rfl trivial ?_
      refine sv hT (vP 9 2) rfl trivial rfl rfl trivial ?_
      refine sv hT (vL 1 2 0 (y.cells.map eI)) rfl trivial rfl rfl trivial ?_
      refine scall hT [(1, 1, 0), (2, 2, 0)] [] (c_laws_eqIntS x.cells y.cells (by omega)) rfl rfl rfl (f2c (ca (f2c (las rfl rfl rfl) f20)) (f2c (ca (f2c (las rfl rfl rfl) f20)) f20)) (f2c (cr (f2c lrv f20)) f20) rfl rfl trivial ?_
      refine sv hT (vB (!(decide (x.cells = y.cells)))) rfl trivial rfl rfl trivial ?_
      refine rN ?_
      refine cnd (notIff decide_eq_true_iff) rfl (fun h3 => ?_) (fun h3 => ?_)
      · refine AW_seq ?_
        refine AW_region ?_
        refine sv hT (vB false) rfl trivial rfl rfl trivial ?_
        refine rN ?_
        refine AW_ret ?_
        exact thR ((qrR (ends [cB false] [] rfl rfl (f2c (cm (f2c (lmB (by exact (decide_eq_false (fun h => absurd (by rw [h]) h3)).symm)) f20)) f20))))
      · refine AW_skip ?_
        refine thN ?_
        refine AW_seq ?_
        refine AW_region ?_
        refine sv hT (vB true) rfl trivial rfl rfl trivial ?_
        refine rN ?_
        refine AW_ret ?_
        exact (qrR (ends [cB true] [] rfl rfl (f2c (cm (f2c (lmB (by exact (decide_eq_true (Land.ext' (by omega) (by omega) (by simpa using h3))).symm)) f20)) f20)))

-- laws.FnExactFormatCells
theorem c_laws_FnExactFormatCells (x : Land) (l : List Int) (hy0 : x.cells.length ≤ 140737488355328 ∧ l.length ≤ 140737488355328) : Con Tryd.prog 3 [(true, Land.l x 1), cL 1 2 0 (l.map eI)] [cB true] := by
  refine con_mk hT (fn := Tryd.f3) 43 [.tmp 4] [(0, .c ((true, Land.l x 1))), (1, .c (cL 1 2 0 (l.map eI)))] rfl rfl rfl rfl rfl rfl rfl ?_
  refine AW_seq ?_
  refine AW_region ?_
  refine sbox hT ((true, Land.l x 1)) rfl rfl rfl rfl (ls := Land.l x 1) rfl trivial ?_
  refine sv hT (vB false) rfl trivial rfl rfl trivial ?_
  refine rN ?_
  refine AW_seq ?_
  refine AW_seq ?_
  refine AW_region ?_
  refine sv hT (vL 1 2 0 (l.map eI)) rfl trivial rfl rfl trivial ?_
  refine sv hT (vI (l.length : Int)) lenM trivial rfl rfl trivial ?_
  refine sv hT (vB (decide ((l.length : Int) > 1048576))) rfl trivial rfl rfl trivial ?_
  refine rN ?_
  refine cnd decide_eq_true_iff rfl (fun h1 => ?_) (fun h1 => ?_)
  · refine AW_seq ?_
    refine AW_region ?_
    refine sv hT (vB true) rfl trivial rfl rfl trivial ?_
    refine rN ?_
    refine AW_ret ?_
    exact thR ((qrR (ends [cB true] [] rfl rfl (f2c (cm (f2c (lmB rfl) f20)) f20))))
  · refine AW_skip ?_
    refine thN ?_
    refine AW_seq ?_
    refine AW_region ?_
    refine sv hT (vI 1048576) rfl trivial rfl rfl trivial ?_
    refine rN ?_
    refine AW_seq ?_
    refine AW_region ?_
    refine sv hT (vR (Land.l x 1)) rfl trivial rfl rfl trivial ?_
    refine sv hT (vI 1048576) rfl trivial rfl rfl trivial ?_
    refine scall hT [(1, 1, 0)] [] (c_laws_szLand x 1048576 (by first | omega | (simp only [szI] at h2; split at h2 <;> omega))) rfl rfl rfl (f2c (ca (f2c (lav rfl) (f2c (lav rfl) (f2c (las rfl rfl rfl) f20)))) (f2c (ca (f2c (lav rfl) f20)) f20)) (f2c (cr (f2c lrv f20)) f20) rfl rfl trivial ?_
    refine sv hT (vI (szI (x.cells.length : Int) 1048576)) rfl trivial rfl rfl trivial ?_
    refine rN ?_
    refine AW_seq ?_
    refine AW_seq ?_
    refine AW_region ?_
    refine sv hT (vI (szI (x.cells.length : Int) 1048576)) rfl trivial rfl rfl trivial ?_
    refine sv hT (vB (decide ((szI (x.cells.length : Int) 1048576) < 0))) rfl trivial rfl rfl trivial ?_
    refine rN ?_
    refine cnd decide_eq_true_iff rfl (fun h2 => ?_) (fun h2 => ?_)
    · refine AW_seq ?_
      refine AW_region ?_
      refine sv hT (vB true) rfl trivial rfl rfl trivial ?_
      refine rN ?_
      refine AW_ret ?_
      exact thR ((qrR (ends [cB true] [] rfl rfl (f2c (cm (f2c (lmB rfl) f20)) f20))))
    · refine AW_skip ?_
      refine thN ?_
      refine AW_seq ?_
      refine AW_region ?_
      refine sv hT (vR (Land.l x 1)) rfl trivial rfl rfl trivial ?_
      refine scall hT [(1, 1, 0)] [(132, 100)] (c_laws_toLand x (by first | omega | (simp only [szI] at h2; split at h2 <;> omega))) rfl rfl rfl (f2c (ca (f2c (lav rfl) (f2c (lav rfl) (f2c (las rfl rfl rfl) f20)))) f20) (f2c (cr (f2c lrv (f2c lrv (f2c (lrn (t := 132) rfl rfl) f20)))) f20) rfl rfl trivial ?_
      refine sv hT (vL 1 2 0 (l.map eI)) rfl trivial rfl rfl trivial ?_
      refine scall hT [(1, 2, 0)] [(148, 100)] (c_laws_toIntS l (by first | omega | (simp only [szI] at h2; split at h2 <;> omega))) rfl rfl rfl (f2c (ca (f2c (las rfl rfl rfl) f20)) f20) (f2c (cr (f2c (lrn (t := 148) rfl rfl) f20)) f20) rfl rfl trivial ?_
      refine scall hT [(1, 132, 0), (2, 148, 0)] [] (c_spec_FormatCells x l (by first | omega | (simp only [szI] at h2; split at h2 <;> omega))) rfl rfl rfl (f2c (ca (f2c (lav rfl) (f2c (lav rfl) (f2c (las rfl rfl rfl) f20)))) (f2c (ca (f2c (las rfl rfl rfl) f20)) f20)) (f2c (cr (f2c lrv f20)) f20) rfl rfl trivial ?_
      refine sv hT (vS (joinT (l.map (cellN x)))) rfl trivial rfl rfl trivial ?_
      refine rN ?_
      refine AW_seq ?_
      refine AW_region ?_
      refine sv hT (vR (Land.l x 1)) rfl trivial rfl rfl trivial ?_
      refine scall hT [(1, 1, 0)] [(180, 100)] (c_laws_toLand x (by first | omega | (simp only [szI] at h2; split at h2 <;> omega))) rfl rfl rfl (f2c (ca (f2c (lav rfl) (f2c (lav rfl) (f2c (las rfl rfl rfl) f20)))) f20) (f2c (cr (f2c lrv (f2c lrv (f2c (lrn (t := 180) rfl rfl) f20)))) f20) rfl rfl trivial ?_
      refine salloc hT rfl rfl rfl rfl (ls := [lI 0, lI 0, .sl 1 0 0 []]) rfl trivial ?_
      refine sst hT (Land.l x 180) rfl rfl rfl rfl rfl rfl rfl rfl trivial ?_
      refine rN ?_
      refine AW_seq ?_
      refine AW_region ?_
      refine sv hT (vL 1 2 0 (l.map eI)) rfl trivial rfl rfl trivial ?_
      refine scall hT [(1, 2, 0)] [(212, 100)] (c_laws_toIntS l (by first | omega | (simp only [szI] at h2; split at h2 <;> omega))) rfl rfl rfl (f2c (ca (f2c (las rfl rfl rfl) f20)) f20) (f2c (cr (f2c (lrn (t := 212) rfl rfl) f20)) f20) rfl rfl trivial ?_
      refine sv hT (vL 1 212 0 (l.map eI)) rfl trivial rfl rfl trivial ?_
      refine rN ?_
      refine AW_seq ?_
      refine AW_region ?_
      refine sv hT (vR (Land.l x 180)) rfl trivial rfl rfl trivial ?_
      refine sv hT (vL 1 212 0 (l.map eI)) rfl trivial rfl rfl trivial ?_
      refine scall hT [(1, 180, 0), (2, 212, 0)] [] (c_impl_FormatCells x l (by first | omega | (simp only [szI] at h2; split at h2 <;> omega))) rfl rfl rfl (f2c (ca (f2c (lav rfl) (f2c (lav rfl) (f2c (las rfl rfl rfl) f20)))) (f2c (ca (f2c (las rfl rfl rfl) f20)) f20)) (f2c (cr (f2c lrv f20)) f20) rfl rfl trivial ?_
      refine sv hT (vS (joinT (l.map (cellN x)))) rfl trivial rfl rfl trivial ?_
      refine rN ?_
      refine AW_seq ?_
      refine AW_seq ?_
      refine AW_region ?_
      refine sv hT (vS (joinT (l.map (cellN x)))) rfl trivial rfl rfl trivial ?_
      refine sv hT (vS (joinT (l.map (cellN x)))) rfl trivial rfl rfl trivial ?_
      refine sv hT (vB (!((joinT (l.map (cellN x))) == (joinT (l.map (cellN x)))))) rfl trivial rfl rfl trivial ?_
      refine rN ?_
      refine cnd (notIff eqStr) rfl (fun h3 => ?_) (fun h3 => ?_)
      · refine AW_seq ?_
        refine AW_region ?_
        refine sv hT (vB false) rfl trivial rfl rfl trivial ?_
        refine rN ?_
        refine AW_ret ?_
        exact thR ((qrR (ends [cB false] [] rfl rfl (f2c (cm (f2c (lmB (by first | rfl | (exfalso; simp_all))) f20)) f20))))
      · refine AW_skip ?_
        refine thN ?_
        refine AW_seq ?_
        refine AW_seq ?_
        refine dstart 324 22 rfl ?_
        refine dv hT (vR (Land.l x 180)) [14] rfl trivial rfl rfl rfl trivial ?_
        refine dv hT (vR (Land.l x 1)) [8] rfl trivial rfl rfl rfl trivial ?_
        refine dcall hT [(1, 1, 0)] [(276, 100)] (c_laws_toLand x (by first | omega | (simp only [szI] at h2; split at h2 <;> omega))) rfl rfl rfl (f2c (ca (f2c (lav rfl) (f2c (lav rfl) (f2c (las rfl rfl rfl) f20)))) f20) (f2c (cr (f2c lrv (f2c lrv (f2c (lrn (t := 276) rfl rfl) f20)))) f20) rfl rfl trivial ?_
        refine dcall hT [(1, 180, 0), (2, 276, 0)] [] (c_laws_eqLand x x (by first | omega | (simp only [szI] at h2; split at h2 <;> omega))) rfl rfl rfl (f2c (ca (f2c (lav rfl) (f2c (lav rfl) (f2c (las rfl rfl rfl) f20)))) (f2c (ca (f2c (lav rfl) (f2c (lav rfl) (f2c (las rfl rfl rfl) f20)))) f20)) (f2c (cr (f2c lrv f20)) f20) rfl rfl trivial ?_
        refine dv hT (vB (!(decide (x = x)))) [] rfl trivial rfl rfl rfl trivial ?_
        refine dend hm (by kernel_rfl) ?_
        refine thN ?_
        refine cnd (notIff decide_eq_true_iff) rfl (fun h4 => ?_) (fun h4 => ?_)
        · refine AW_seq ?_
          refine AW_region ?_
          refine sv hT (vB false) rfl trivial rfl rfl trivial ?_
          refine rN ?_
          refine AW_ret ?_
          exact thR ((qrR (ends [cB false] [] rfl rfl (f2c (cm (f2c (lmB (by first | rfl | (exfalso; simp_all))) f20)) f20))))
        · refine AW_skip ?_
          refine thN ?_
          refine AW_seq ?_
          refine AW_seq ?_
          refine AW_region ?_
          refine sv hT (vL 1 212 0 (l.map eI)) rfl trivial rfl rfl trivial ?_
          refine sv hT (vL 1 2 0 (l.map eI)) rfl trivial rfl rfl trivial ?_
          refine scall hT [(1, 2, 0)] [(324, 100)] (c_laws_toIntS l (by first | omega | (simp only [szI] at h2; split at h2 <;> omega))) rfl rfl rfl (f2c (ca (f2c (las rfl rfl rfl) f20)) f20) (f2c (cr (f2c (lrn (t := 324) rfl rfl) f20)) f20) rfl rfl trivial ?_
          refine scall hT [(1, 212, 0), (2, 324, 0)] [] (c_laws_eqIntS l l (by first | omega | (simp only [szI] at h2; split at h2 <;> omega))) rfl rfl rfl (f2c (ca (f2c (las rfl rfl rfl) f20)) (f2c (ca (f2c (las rfl rfl rfl) f20)) f20)) (f2c (cr (f2c lrv f20)) f20) rfl rfl trivial ?_
          refine sv hT (vB (!(decide (l = l)))) rfl trivial rfl rfl trivial ?_
          refine rN ?_
          refine cnd (notIff decide_eq_true_iff) rfl (fun h5 => ?_) (fun h5 => ?_)
          · refine AW_seq ?_
            refine AW_region ?_
            refine sv hT (vB false) rfl trivial rfl rfl trivial ?_
            refine rN ?_
            refine AW_ret ?_
            exact thR ((qrR (ends [cB false] [] rfl rfl (f2c (cm (f2c (lmB (by first | rfl | (exfalso; simp_all))) f20)) f20))))
          · refine AW_skip ?_
            refine thN ?_
            refine AW_seq ?_
            refine AW_region ?_
            refine sv hT (vB true) rfl trivial rfl rfl trivial ?_
            refine rN ?_
            refine AW_ret ?_
            exact (qrR (ends [cB true] [] rfl rfl (f2c (cm (f2c (lmB rfl) f20)) f20)))

-- laws.szDepotS
theorem c_laws_szDepotS (l : List Depot) (n : Int) (hy0 : l.length ≤ 140737488355328 ∧ n ≤ 1048576 ∧ 0 ≤ n) : Con Tryd.prog 14 [cL 2 1 0 (l.map Depot.e), cI n] [cI (szI (l.length : Int) n)] := by
  refine con_mk hT (fn := Tryd.f14) 12 [.tmp 4] [(0, .c (cL 2 1 0 (l.map Depot.e))), (1, .c (cI n))] rfl rfl rfl rfl rfl rfl rfl ?_
  refine AW_seq ?_
  refine AW_region ?_
  refine sv hT (vI 0) rfl trivial rfl rfl trivial ?_
  refine rN ?_
  refine AW_seq ?_
  refine AW_region ?_
  refine sv hT (vI n) rfl trivial rfl rfl trivial ?_
  refine sv hT (vL 2 1 0 (l.map Depot.e)) rfl trivial rfl rfl trivial ?_
  refine sv hT (vI (l.length : Int)) lenM trivial rfl rfl trivial ?_
  refine sv hT (vI (n - (l.length : Int))) (eqI (wI_id (by omega) (by omega))) trivial rfl rfl trivial ?_
  refine sv hT (vI (n - (l.length : Int))) rfl trivial rfl rfl trivial ?_
  refine rN ?_
  refine AW_seq ?_
  refine AW_seq ?_
  refine AW_region ?_
  refine sv hT (vI (n - (l.length : Int))) rfl trivial rfl rfl trivial ?_
  refine sv hT (vB (decide ((n - (l.length : Int)) < 0))) rfl trivial rfl rfl trivial ?_
  refine rN ?_
  refine cnd decide_eq_true_iff rfl (fun h1 => ?_) (fun h1 => ?_)
  · refine AW_seq ?_
    refine AW_region ?_
    refine sv hT (vI (-1)) rfl trivial rfl rfl trivial ?_
    refine rN ?_
    refine AW_ret ?_
    exact thR ((qrR (ends [cI (-1)] [] rfl rfl (f2c (cm (f2c (lmI (by simp only [szI]; split <;> omega)) f20)) f20))))
  · refine AW_skip ?_
    refine thN ?_
    refine AW_seq ?_
    refine AW_region ?_
    refine sv hT (vI (n - (l.length : Int))) rfl trivial rfl rfl trivial ?_
    refine sv hT (vI (n - (l.length : Int))) rfl trivial rfl rfl trivial ?_
    refine rN ?_
    refine AW_ret ?_
    exact (qrR (ends [cI (n - (l.length : Int))] [] rfl rfl (f2c (cm (f2c (lmI (by simp only [szI]; split <;> omega)) f20)) f20)))

-- laws.szPageS
theorem c_laws_szPageS (l : List Page) (n : Int) (hy0 : l.length ≤ 140737488355328 ∧ n ≤ 1048576 ∧ 0 ≤ n) : Con Tryd.prog 19 [cL 4 1 0 (l.map Page.e), cI n] [cI (szI (l.length : Int) n)] := by
  refine con_mk hT (fn := Tryd.f19) 12 [.tmp 4] [(0, .c (cL 4 1 0 (l.map Page.e))), (1, .c (cI n))] rfl rfl rfl rfl rfl rfl rfl ?_
  refine AW_seq ?_
  refine AW_region ?_
  refine sv hT (vI 0) rfl trivial rfl rfl trivial ?_
  refine rN ?_
  refine AW_seq ?_
  refine AW_region ?_
  refine sv hT (vI n) rfl trivial rfl rfl trivial ?_
  refine sv hT (vL 4 1 0 (l.map Page.e)) rfl trivial rfl rfl trivial ?_
  refine sv hT (vI (l.length : Int)) lenM trivial rfl rfl trivial ?_
  refine sv hT (vI (n - (l.length : Int))) (eqI (wI_id (by omega) (by omega))) trivial rfl rfl trivial ?_
  refine sv hT (vI (n - (l.length : Int))) rfl trivial rfl rfl trivial ?_
  refine rN ?_
  refine AW_seq ?_
  refine AW_seq ?_
  refine AW_region ?_
  refine sv hT (vI (n - (l.length : Int))) rfl trivial rfl rfl trivial ?_
  refine sv hT (vB (decide ((n - (l.length : Int)) < 0))) rfl trivial rfl rfl trivial ?_
  refine rN ?_
  refine cnd decide_eq_true_iff rfl (fun h1 => ?_) (fun h1 => ?_)
  · refine AW_seq ?_
    refine AW_region ?_
    refine sv hT (vI (-1)) rfl trivial rfl rfl trivial ?_
    refine rN ?_
    refine AW_ret ?_
    exact thR ((qrR (ends [cI (-1)] [] rfl rfl (f2c (cm (f2c (lmI (by simp only [szI]; split <;> omega)) f20)) f20))))
  · refine AW_skip ?_
    refine thN ?_
    refine AW_seq ?_
    refine AW_region ?_
    refine sv hT (vI (n - (l.length : Int))) rfl trivial rfl rfl trivial ?_
    refine sv hT (vI (n - (l.length : Int))) rfl trivial rfl rfl trivial ?_
    refine rN ?_
    refine AW_ret ?_
    exact (qrR (ends [cI (n - (l.length : Int))] [] rfl rfl (f2c (cm (f2c (lmI (by simp only [szI]; split <;> omega)) f20)) f20)))

-- laws.toDepot
theorem c_laws_toDepot (x : Depot) : Con Tryd.prog 35 [(true, Depot.l x)] [(true, Depot.l x)] := by
  refine con_mk hT (fn := Tryd.f35) 11 [.cell 2 71] [(0, .c ((true, Depot.l x)))] rfl rfl rfl rfl rfl rfl rfl ?_
  refine AW_seq ?_
  refine AW_region ?_
  refine sbox hT ((true, Depot.l x)) rfl rfl rfl rfl (ls := Depot.l x) rfl trivial ?_
  refine salloc hT rfl rfl rfl rfl (ls := [lI 0, lI 0]) rfl trivial ?_
  refine rN ?_
  refine AW_seq ?_
  refine AW_region ?_
  refine salloc hT rfl rfl rfl rfl (ls := [lI 0, lI 0]) rfl trivial ?_
  refine rN ?_
  refine AW_seq ?_
  refine AW_region ?_
  refine sv hT (vP 8 0) rfl trivial rfl rfl trivial ?_
  refine sv hT (vI x.cell) rfl trivial rfl rfl trivial ?_
  refine sv hT (vP 10 0) rfl trivial rfl rfl trivial ?_
  refine sst hT [lI x.cell, lI 0] rfl rfl rfl rfl rfl rfl rfl rfl trivial ?_
  refine rN ?_
  refine AW_seq ?_
  refine AW_region ?_
  refine sv hT (vP 8 1) rfl trivial rfl rfl trivial ?_
  refine sv hT (vI x.food) rfl trivial rfl rfl trivial ?_
  refine sv hT (vP 10 1) rfl trivial rfl rfl trivial ?_
  refine sst hT (Depot.l x) rfl rfl rfl rfl rfl rfl rfl rfl trivial ?_
  refine rN ?_
  refine AW_seq ?_
  refine AW_region ?_
  refine sv hT (vR (Depot.l x)) rfl trivial rfl rfl trivial ?_
  refine sst hT (Depot.l x) rfl rfl rfl rfl rfl rfl rfl rfl trivial ?_
  refine rN ?_
  refine AW_ret ?_
  exact (qrR (ends [(true, Depot.l x)] [] rfl rfl (f2c (cm (f2c (lmI rfl) (f2c (lmI rfl) f20))) f20)))

-- laws.toPage
theorem c_laws_toPage (x : Page) : Con Tryd.prog 38 [(true, Page.l x)] [(true, Page.l x)] := by
  refine con_mk hT (fn := Tryd.f38) 17 [.cell 2 77] [(0, .c ((true, Page.l x)))] rfl rfl rfl rfl rfl rfl rfl ?_
  refine AW_seq ?_
  refine AW_region ?_
  refine sbox hT ((true, Page.l x)) rfl rfl rfl rfl (ls := Page.l x) rfl trivial ?_
  refine salloc hT rfl rfl rfl rfl (ls := [lI 0, lI 0, lI 0, lI 0]) rfl trivial ?_
  refine rN ?_
  refine AW_seq ?_
  refine AW_region ?_
  refine salloc hT rfl rfl rfl rfl (ls := [lI 0, lI 0, lI 0, lI 0]) rfl trivial ?_
  refine rN ?_
  refine AW_seq ?_
  refine AW_region ?_
  refine sv hT (vP 8 0) rfl trivial rfl rfl trivial ?_
  refine sv hT (vI x.day) rfl trivial rfl rfl trivial ?_
  refine sv hT (vP 10 0) rfl trivial rfl rfl trivial ?_
  refine sst hT [lI x.day, lI 0, lI 0, lI 0] rfl rfl rfl rfl rfl rfl rfl rfl trivial ?_
  refine rN ?_
  refine AW_seq ?_
  refine AW_region ?_
  refine sv hT (vP 8 1) rfl trivial rfl rfl trivial ?_
  refine sv hT (vI x.cell) rfl trivial rfl rfl trivial ?_
  refine sv hT (vP 10 1) rfl trivial rfl rfl trivial ?_
  refine sst hT [lI x.day, lI x.cell, lI 0, lI 0] rfl rfl rfl rfl rfl rfl rfl rfl trivial ?_
  refine rN ?_
  refine AW_seq ?_
  refine AW_region ?_
  refine sv hT (vP 8 2) rfl trivial rfl rfl trivial ?_
  refine sv hT (vI x.food) rfl trivial rfl rfl trivial ?_
  refine sv hT (vP 10 2) rfl trivial rfl rfl trivial ?_
  refine sst hT [lI x.day, lI x.cell, lI x.food, lI 0] rfl rfl rfl rfl rfl rfl rfl rfl trivial ?_
  refine rN ?_
  refine AW_seq ?_
  refine AW_region ?_
  refine sv hT (vP 8 3) rfl trivial rfl rfl trivial ?_
  refine sv hT (vI x.seal_) rfl trivial rfl rfl trivial ?_
  refine sv hT (vP 10 3) rfl trivial rfl rfl trivial ?_
  refine sst hT (Page.l x) rfl rfl rfl rfl rfl rfl rfl rfl trivial ?_
  refine rN ?_
  refine AW_seq ?_
  refine AW_region ?_
  refine sv hT (vR (Page.l x)) rfl trivial rfl rfl trivial ?_
  refine sst hT (Page.l x) rfl rfl rfl rfl rfl rfl rfl rfl trivial ?_
  refine rN ?_
  refine AW_ret ?_
  exact (qrR (ends [(true, Page.l x)] [] rfl rfl (f2c (cm (f2c (lmI rfl) (f2c (lmI rfl) (f2c (lmI rfl) (f2c (lmI rfl) f20))))) f20)))

-- laws.toDepotS
theorem c_laws_toDepotS (l : List Depot) (hy0 : l.length ≤ 1048576) : Con Tryd.prog 16 [cL 2 1 0 (l.map Depot.e)] [cL 2 100 0 (l.map Depot.e)] := by
  refine con_mk hT (fn := Tryd.f16) 23 [.tmp 2] [(0, .c (cL 2 1 0 (l.map Depot.e)))] rfl rfl rfl rfl rfl rfl rfl ?_
  refine AW_seq ?_
  refine AW_region ?_
  refine sv hT (vL 2 0 0 []) rfl trivial rfl rfl trivial ?_
  refine rN ?_
  refine AW_seq ?_
  refine AW_region ?_
  refine sv hT (vL 2 1 0 (l.map Depot.e)) rfl trivial rfl rfl trivial ?_
  refine sv hT (vI (l.length : Int)) lenM trivial rfl rfl trivial ?_
  refine smake hT ((List.replicate l.length (⟨0, 0⟩ : Depot)).map Depot.e) rfl rfl rfl (z := 2) rfl rfl rfl rfl rfl ⟨by omega, rfl, by show (16 : Int) * _ ≤ _; omega, by omega⟩ (by simp [Depot.e]) rfl rfl trivial ?_
  refine sv hT (vL 2 100 0 ((List.replicate l.length (⟨0, 0⟩ : Depot)).map Depot.e)) rfl trivial rfl rfl trivial ?_
  refine rN ?_
  refine AW_seq ?_
  refine AW_seq ?_
  refine AW_region ?_
  refine sv hT (vI 0) rfl trivial rfl rfl trivial ?_
  refine rN ?_
  refine AW_block ?_
  refine lp (α := {i : Nat // i ≤ l.length}) (fun x' => ⟨[(0, vL 2 1 0 (l.map Depot.e)), (2, vL 2 0 0 []), (3, vL 2 100 0 ((l.take x'.1 ++ List.replicate (l.length - x'.1) (⟨0, 0⟩ : Depot)).map Depot.e)), (4, vI (x'.1 : Int))], [], 1140, 9, 23⟩) (fun x' => l.length - x'.1) ⟨0, by omega⟩ [(100, 100, 0)] [] (sm rfl (emc rfl (f2c (lma rfl rfl) f20) (emc rfl (f2c (lma rfl rfl) f20) (emc rfl (f2c (lmo (by first | rfl | exact congrArg (List.map Depot.e) (setStep (by omega))) rfl rfl rfl) f20) (emc rfl (f2c (lmI (by simp)) f20) em0)))) xm0) (fun x' => ?_)
  obtain ⟨i, hi⟩ := x'
  change AW _ _ _ ⟨[(0, vL 2 1 0 (l.map Depot.e)), (2, vL 2 0 0 []), (3, vL 2 100 0 ((l.take i ++ List.replicate (l.length - i) (⟨0, 0⟩ : Depot)).map Depot.e)), (4, vI (i : Int))], [], 1140, 9, 23⟩
  refine AW_seq ?_
  refine AW_seq ?_
  refine AW_region ?_
  refine sv hT (vI (i : Int)) rfl trivial rfl rfl trivial ?_
  refine sv hT (vL 2 1 0 (l.map Depot.e)) rfl trivial rfl rfl trivial ?_
  refine sv hT (vI (l.length : Int)) lenM trivial rfl rfl trivial ?_
  refine sv hT (vB (decide ((i : Int) < (l.length : Int)))) rfl trivial rfl rfl trivial ?_
  refine rN ?_
  refine cnd decide_eq_true_iff rfl (fun h1 => ?_) (fun h1 => ?_)
  · refine AW_skip ?_
    refine thN ?_
    refine AW_seq ?_
    refine AW_block ?_
    refine AW_region ?_
    refine sv hT (vL 2 100 0 ((l.take i ++ List.replicate (l.length - i) (⟨0, 0⟩ : Depot)).map Depot.e)) rfl trivial rfl rfl trivial ?_
    refine sv hT (vI (i : Int)) rfl trivial rfl rfl trivial ?_
    refine sv hT (vL 2 1 0 (l.map Depot.e)) rfl trivial rfl rfl trivial ?_
    refine sv hT (vI (i : Int)) rfl trivial rfl rfl trivial ?_
    refine sv hT (vE 2 1 i 0 (Depot.e (l.getD i default))) (ixM (by omega)) (okM (by omega)) rfl rfl trivial ?_
    refine sv hT (vR (Depot.l (l.getD i default))) rfl trivial rfl rfl trivial ?_
    refine scall hT [] [] (c_laws_toDepot (l.getD i default)) rfl rfl rfl (f2c (ca (f2c (lav rfl) (f2c (lav rfl) f20))) f20) (f2c (cr (f2c lrv (f2c lrv f20))) f20) rfl rfl trivial ?_
    refine sv hT (vE 2 100 i 0 (Depot.e ((l.take i ++ List.replicate (l.length - i) (⟨0, 0⟩ : Depot) : List Depot).getD i default))) (ixM (by (simp only [List.length_append, List.length_replicate, List.length_take]; omega))) (okM (by (simp only [List.length_append, List.length_replicate, List.length_take]; omega))) rfl rfl trivial ?_
    refine ssek hT [Value.int .i64 ((l.getD i default).cell), Value.int .i64 ((l.getD i default).food)] [(3, vL 2 100 0 (((l.take i ++ List.replicate (l.length - i) (⟨0, 0⟩ : Depot)).set i (⟨(l.getD i default).cell, (l.getD i default).food⟩)).map Depot.e)), (14, vL 2 100 0 (((l.take i ++ List.replicate (l.length - i) (⟨0, 0⟩ : Depot)).set i (⟨(l.getD i default).cell, (l.getD i default).food⟩)).map Depot.e)), (21, .u)] rfl rfl rfl rfl rfl rfl rfl rfl (fun p hp => by simp only [List.mem_cons, List.not_mem_nil, or_false] at hp; rcases hp with rfl | rfl | rfl <;> first | exact .inl rfl | exact .inr (updOk _)) trivial ?_
    refine rE ?_
    refine ibN ?_
    refine thN ?_
    refine AW_region ?_
    refine sv hT (vI (i : Int)) rfl trivial rfl rfl trivial ?_
    refine sv hT (vI ((i : Int) + 1)) (eqI (wI_id (by omega) (by omega))) trivial rfl rfl trivial ?_
    refine sv hT (vI ((i : Int) + 1)) rfl trivial rfl rfl trivial ?_
    refine rE ?_
    exact thN ⟨⟨i + 1, by omega⟩, [(100, 100, 0)], [], (by show l.length - (i + 1) < l.length - i; omega), (sm rfl (emc rfl (f2c (lma rfl rfl) f20) (emc rfl (f2c (lma rfl rfl) f20) (emc rfl (f2c (lmo (by first | rfl | exact congrArg (List.map Depot.e) (setStep (by omega))) rfl rfl rfl) f20) (emc rfl (f2c (lmI (by simp)) f20) em0)))) xm0)⟩
  · refine AW_exit ?_
    refine thE (thE (ibH ?_))
    refine thN ?_
    refine AW_seq ?_
    refine AW_region ?_
    refine sv hT (vL 2 100 0 ((l.take i ++ List.replicate (l.length - i) (⟨0, 0⟩ : Depot)).map Depot.e)) rfl trivial rfl rfl trivial ?_
    refine sv hT (vL 2 100 0 ((l.take i ++ List.replicate (l.length - i) (⟨0, 0⟩ : Depot)).map Depot.e)) rfl trivial rfl rfl trivial ?_
    refine rN ?_
    refine AW_ret ?_
    exact (qrR (ends [cL 2 100 0 ((l.take i ++ List.replicate (l.length - i) (⟨0, 0⟩ : Depot)).map Depot.e)] [(100, 100, 0)] rfl rfl (f2c (cm (f2c (lmo (by exact congrArg (List.map Depot.e) (by rw [List.take_of_length_le (by omega), show l.length - i = 0 by omega]; simp)) rfl rfl rfl) f20)) f20)))

-- laws.toPageS
theorem c_laws_toPageS (l : List Page) (hy0 : l.length ≤ 1048576) : Con Tryd.prog 21 [cL 4 1 0 (l.map Page.e)] [cL 4 100 0 (l.map Page.e)] := by
  refine con_mk hT (fn := Tryd.f21) 23 [.tmp 2] [(0, .c (cL 4 1 0 (l.map Page.e)))] rfl rfl rfl rfl rfl rfl rfl ?_
  refine AW_seq ?_
  refine AW_region ?_
  refine sv hT (vL 4 0 0 []) rfl trivial rfl rfl trivial ?_
  refine rN ?_
  refine AW_seq ?_
  refine AW_region ?_
  refine sv hT (vL 4 1 0 (l.map Page.e)) rfl trivial rfl rfl trivial ?_
  refine sv hT (vI (l.length : Int)) lenM trivial rfl rfl trivial ?_
  refine smake hT ((List.replicate l.length (⟨0, 0, 0, 0⟩ : Page)).map Page.e) rfl rfl rfl (z := 4) rfl rfl rfl rfl rfl ⟨by omega, rfl, by show (32 : Int) * _ ≤ _; omega, by omega⟩ (by simp [Page.e]) rfl rfl trivial ?_
  refine sv hT (vL 4 100 0 ((List.replicate l.length (⟨0, 0, 0, 0⟩ : Page)).map Page.e)) rfl trivial rfl rfl trivial ?_
  refine rN ?_
  refine AW_seq ?_
  refine AW_seq ?_
  refine AW_region ?_
  refine sv hT (vI 0) rfl trivial rfl rfl trivial ?_
  refine rN ?_
  refine AW_block ?_
  refine lp (α := {i : Nat // i ≤ l.length}) (fun x' => ⟨[(0, vL 4 1 0 (l.map Page.e)), (2, vL 4 0 0 []), (3, vL 4 100 0 ((l.take x'.1 ++ List.replicate (l.length - x'.1) (⟨0, 0, 0, 0⟩ : Page)).map Page.e)), (4, vI (x'.1 : Int))], [], 1140, 9, 23⟩) (fun x' => l.length - x'.1) ⟨0, by omega⟩ [(100, 100, 0)] [] (sm rfl (emc rfl (f2c (lma rfl rfl) f20) (emc rfl (f2c (lma rfl rfl) f20) (emc rfl (f2c (lmo (by first | rfl | exact congrArg (List.map Page.e) (setStep (by omega))) rfl rfl rfl) f20) (emc rfl (f2c (lmI (by simp)) f20) em0)))) xm0) (fun x' => ?_)
  obtain ⟨i, hi⟩ := x'
  change AW _ _ _ ⟨[(0, vL 4 1 0 (l.map Page.e)), (2, vL 4 0 0 []), (3, vL 4 100 0 ((l.take i ++ List.replicate (l.length - i) (⟨0, 0, 0, 0⟩ : Page)).map Page.e)), (4, vI (i : Int))], [], 1140, 9, 23⟩
  refine AW_seq ?_
  refine AW_seq ?_
  refine AW_region ?_
  refine sv hT (vI (i : Int)) rfl trivial rfl rfl trivial ?_
  refine sv hT (vL 4 1 0 (l.map Page.e)) rfl trivial rfl rfl trivial ?_
  refine sv hT (vI (l.length : Int)) lenM trivial rfl rfl trivial ?_
  refine sv hT (vB (decide ((i : Int) < (l.length : Int)))) rfl trivial rfl rfl trivial ?_
  refine rN ?_
  refine cnd decide_eq_true_iff rfl (fun h1 => ?_) (fun h1 => ?_)
  · refine AW_skip ?_
    refine thN ?_
    refine AW_seq ?_
    refine AW_block ?_
    refine AW_region ?_
    refine sv hT (vL 4 100 0 ((l.take i ++ List.replicate (l.length - i) (⟨0, 0, 0, 0⟩ : Page)).map Page.e)) rfl trivial rfl rfl trivial ?_
    refine sv hT (vI (i : Int)) rfl trivial rfl rfl trivial ?_
    refine sv hT (vL 4 1 0 (l.map Page.e)) rfl trivial rfl rfl trivial ?_
    refine sv hT (vI (i : Int)) rfl trivial rfl rfl trivial ?_
    refine sv hT (vE 4 1 i 0 (Page.e (l.getD i default))) (ixM (by omega)) (okM (by omega)) rfl rfl trivial ?_
    refine sv hT (vR (Page.l (l.getD i default))) rfl trivial rfl rfl trivial ?_
    refine scall hT [] [] (c_laws_toPage (l.getD i default)) rfl rfl rfl (f2c (ca (f2c (lav rfl) (f2c (lav rfl) (f2c (lav rfl) (f2c (lav rfl) f20))))) f20) (f2c (cr (f2c lrv (f2c lrv (f2c lrv (f2c lrv f20))))) f20) rfl rfl trivial ?_
    refine sv hT (vE 4 100 i 0 (Page.e ((l.take i ++ List.replicate (l.length - i) (⟨0, 0, 0, 0⟩ : Page) : List Page).getD i default))) (ixM (by (simp only [List.length_append, List.length_replicate, List.length_take]; omega))) (okM (by (simp only [List.length_append, List.length_replicate, List.length_take]; omega))) rfl rfl trivial ?_
    refine ssek hT [Value.int .i64 ((l.getD i default).day), Value.int .i64 ((l.getD i default).cell), Value.int .i64 ((l.getD i default).food), Value.int .i64 ((l.getD i default).seal_)] [(3, vL 4 100 0 (((l.take i ++ List.replicate (l.length - i) (⟨0, 0, 0, 0⟩ : Page)).set i (⟨(l.getD i default).day, (l.getD i default).cell, (l.getD i default).food, (l.getD i default).seal_⟩)).map Page.e)), (14, vL 4 100 0 (((l.take i ++ List.replicate (l.length - i) (⟨0, 0, 0, 0⟩ : Page)).set i (⟨(l.getD i default).day, (l.getD i default).cell, (l.getD i default).food, (l.getD i default).seal_⟩)).map Page.e)), (21, .u)] rfl rfl rfl rfl rfl rfl rfl rfl (fun p hp => by simp only [List.mem_cons, List.not_mem_nil, or_false] at hp; rcases hp with rfl | rfl | rfl <;> first | exact .inl rfl | exact .inr (updOk _)) trivial ?_
    refine rE ?_
    refine ibN ?_
    refine thN ?_
    refine AW_region ?_
    refine sv hT (vI (i : Int)) rfl trivial rfl rfl trivial ?_
    refine sv hT (vI ((i : Int) + 1)) (eqI (wI_id (by omega) (by omega))) trivial rfl rfl trivial ?_
    refine sv hT (vI ((i : Int) + 1)) rfl trivial rfl rfl trivial ?_
    refine rE ?_
    exact thN ⟨⟨i + 1, by omega⟩, [(100, 100, 0)], [], (by show l.length - (i + 1) < l.length - i; omega), (sm rfl (emc rfl (f2c (lma rfl rfl) f20) (emc rfl (f2c (lma rfl rfl) f20) (emc rfl (f2c (lmo (by first | rfl | exact congrArg (List.map Page.e) (setStep (by omega))) rfl rfl rfl) f20) (emc rfl (f2c (lmI (by simp)) f20) em0)))) xm0)⟩
  · refine AW_exit ?_
    refine thE (thE (ibH ?_))
    refine thN ?_
    refine AW_seq ?_
    refine AW_region ?_
    refine sv hT (vL 4 100 0 ((l.take i ++ List.replicate (l.length - i) (⟨0, 0, 0, 0⟩ : Page)).map Page.e)) rfl trivial rfl rfl trivial ?_
    refine sv hT (vL 4 100 0 ((l.take i ++ List.replicate (l.length - i) (⟨0, 0, 0, 0⟩ : Page)).map Page.e)) rfl trivial rfl rfl trivial ?_
    refine rN ?_
    refine AW_ret ?_
    exact (qrR (ends [cL 4 100 0 ((l.take i ++ List.replicate (l.length - i) (⟨0, 0, 0, 0⟩ : Page)).map Page.e)] [(100, 100, 0)] rfl rfl (f2c (cm (f2c (lmo (by exact congrArg (List.map Page.e) (by rw [List.take_of_length_le (by omega), show l.length - i = 0 by omega]; simp)) rfl rfl rfl) f20)) f20)))

-- laws.eqDepot
theorem c_laws_eqDepot (x : Depot) (y : Depot) : Con Tryd.prog 37 [(true, Depot.l x), (true, Depot.l y)] [cB (decide (x = y))] := by
  refine con_mk hT (fn := Tryd.f37) 15 [.tmp 4] [(0, .c ((true, Depot.l x))), (1, .c ((true, Depot.l y)))] rfl rfl rfl rfl rfl rfl rfl ?_
  refine AW_seq ?_
  refine AW_region ?_
  refine sbox hT ((true, Depot.l x)) rfl rfl rfl rfl (ls := Depot.l x) rfl trivial ?_
  refine sbox hT ((true, Depot.l y)) rfl rfl rfl rfl (ls := Depot.l y) rfl trivial ?_
  refine sv hT (vB false) rfl trivial rfl rfl trivial ?_
  refine rN ?_
  refine AW_seq ?_
  refine AW_seq ?_
  refine AW_region ?_
  refine sv hT (vP 8 0) rfl trivial rfl rfl trivial ?_
  refine sv hT (vI x.cell) rfl trivial rfl rfl trivial ?_
  refine sv hT (vP 9 0) rfl trivial rfl rfl trivial ?_
  refine sv hT (vI y.cell) rfl trivial rfl rfl trivial ?_
  refine sv hT (vB (x.cell != y.cell)) rfl trivial rfl rfl trivial ?_
  refine rN ?_
  refine cnd bne_iff_ne rfl (fun h1 => ?_) (fun h1 => ?_)
  · refine AW_seq ?_
    refine AW_region ?_
    refine sv hT (vB false) rfl trivial rfl rfl trivial ?_
    refine rN ?_
    refine AW_ret ?_
    exact thR ((qrR (ends [cB false] [] rfl rfl (f2c (cm (f2c (lmB (by first | exact (decide_eq_false (by intro h; subst h; simp_all)).symm | exact (decide_eq_true (by cases x; cases y; simp_all)).symm)) f20)) f20))))
  · refine AW_skip ?_
    refine thN ?_
    refine AW_seq ?_
    refine AW_seq ?_
    refine AW_region ?_
    refine sv hT (vP 8 1) rfl trivial rfl rfl trivial ?_
    refine sv hT (vI x.food) rfl trivial rfl rfl trivial ?_
    refine sv hT (vP 9 1) rfl trivial rfl rfl trivial ?_
    refine sv hT (vI y.food) rfl trivial rfl rfl trivial ?_
    refine sv hT (vB (x.food != y.food)) rfl trivial rfl rfl trivial ?_
    refine rN ?_
    refine cnd bne_iff_ne rfl (fun h2 => ?_) (fun h2 => ?_)
    · refine AW_seq ?_
      refine AW_region ?_
      refine sv hT (vB false) rfl trivial rfl rfl trivial ?_
      refine rN ?_
      refine AW_ret ?_
      exact thR ((qrR (ends [cB false] [] rfl rfl (f2c (cm (f2c (lmB (by first | exact (decide_eq_false (by intro h; subst h; simp_all)).symm | exact (decide_eq_true (by cases x; cases y; simp_all)).symm)) f20)) f20))))
    · refine AW_skip ?_
      refine thN ?_
      refine AW_seq ?_
      refine AW_region ?_
      refine sv hT (vB true) rfl trivial rfl rfl trivial ?_
      refine rN ?_
      refine AW_ret ?_
      exact (qrR (ends [cB true] [] rfl rfl (f2c (cm (f2c (lmB (by first | exact (decide_eq_false (by intro h; subst h; simp_all)).symm | exact (decide_eq_true (by cases x; cases y; simp_all)).symm)) f20)) f20)))

-- laws.eqPage
theorem c_laws_eqPage (x : Page) (y : Page) : Con Tryd.prog 39 [(true, Page.l x), (true, Page.l y)] [cB (decide (x = y))] := by
  refine con_mk hT (fn := Tryd.f39) 25 [.tmp 4] [(0, .c ((true, Page.l x))), (1, .c ((true, Page.l y)))] rfl rfl rfl rfl rfl rfl rfl ?_
  refine AW_seq ?_
  refine AW_region ?_
  refine sbox hT ((true, Page.l x)) rfl rfl rfl rfl (ls := Page.l x) rfl trivial ?_
  refine sbox hT ((true, Page.l y)) rfl rfl rfl rfl (ls := Page.l y) rfl trivial ?_
  refine sv hT (vB false) rfl trivial rfl rfl trivial ?_
  refine rN ?_
  refine AW_seq ?_
  refine AW_seq ?_
  refine AW_region ?_
  refine sv hT (vP 8 0) rfl trivial rfl rfl trivial ?_
  refine sv hT (vI x.day) rfl trivial rfl rfl trivial ?_
  refine sv hT (vP 9 0) rfl trivial rfl rfl trivial ?_
  refine sv hT (vI y.day) rfl trivial rfl rfl trivial ?_
  refine sv hT (vB (x.day != y.day)) rfl trivial rfl rfl trivial ?_
  refine rN ?_
  refine cnd bne_iff_ne rfl (fun h1 => ?_) (fun h1 => ?_)
  · refine AW_seq ?_
    refine AW_region ?_
    refine sv hT (vB false) rfl trivial rfl rfl trivial ?_
    refine rN ?_
    refine AW_ret ?_
    exact thR ((qrR (ends [cB false] [] rfl rfl (f2c (cm (f2c (lmB (by first | exact (decide_eq_false (by intro h; subst h; simp_all)).symm | exact (decide_eq_true (by cases x; cases y; simp_all)).symm)) f20)) f20))))
  · refine AW_skip ?_
    refine thN ?_
    refine AW_seq ?_
    refine AW_seq ?_
    refine AW_region ?_
    refine sv hT (vP 8 1) rfl trivial rfl rfl trivial ?_
    refine sv hT (vI x.cell) rfl trivial rfl rfl trivial ?_
    refine sv hT (vP 9 1) rfl trivial rfl rfl trivial ?_
    refine sv hT (vI y.cell) rfl trivial rfl rfl trivial ?_
    refine sv hT (vB (x.cell != y.cell)) rfl trivial rfl rfl trivial ?_
    refine rN ?_
    refine cnd bne_iff_ne rfl (fun h2 => ?_) (fun h2 => ?_)
    · refine AW_seq ?_
      refine AW_region ?_
      refine sv hT (vB false) rfl trivial rfl rfl trivial ?_
      refine rN ?_
      refine AW_ret ?_
      exact thR ((qrR (ends [cB false] [] rfl rfl (f2c (cm (f2c (lmB (by first | exact (decide_eq_false (by intro h; subst h; simp_all)).symm | exact (decide_eq_true (by cases x; cases y; simp_all)).symm)) f20)) f20))))
    · refine AW_skip ?_
      refine thN ?_
      refine AW_seq ?_
      refine AW_seq ?_
      refine AW_region ?_
      refine sv hT (vP 8 2) rfl trivial rfl rfl trivial ?_
      refine sv hT (vI x.food) rfl trivial rfl rfl trivial ?_
      refine sv hT (vP 9 2) rfl trivial rfl rfl trivial ?_
      refine sv hT (vI y.food) rfl trivial rfl rfl trivial ?_
      refine sv hT (vB (x.food != y.food)) rfl trivial rfl rfl trivial ?_
      refine rN ?_
      refine cnd bne_iff_ne rfl (fun h3 => ?_) (fun h3 => ?_)
      · refine AW_seq ?_
        refine AW_region ?_
        refine sv hT (vB false) rfl trivial rfl rfl trivial ?_
        refine rN ?_
        refine AW_ret ?_
        exact thR ((qrR (ends [cB false] [] rfl rfl (f2c (cm (f2c (lmB (by first | exact (decide_eq_false (by intro h; subst h; simp_all)).symm | exact (decide_eq_true (by cases x; cases y; simp_all)).symm)) f20)) f20))))
      · refine AW_skip ?_
        refine thN ?_
        refine AW_seq ?_
        refine AW_seq ?_
        refine AW_region ?_
        refine sv hT (vP 8 3) rfl trivial rfl rfl trivial ?_
        refine sv hT (vI x.seal_) rfl trivial rfl rfl trivial ?_
        refine sv hT (vP 9 3) rfl trivial rfl rfl trivial ?_
        refine sv hT (vI y.seal_) rfl trivial rfl rfl trivial ?_
        refine sv hT (vB (x.seal_ != y.seal_)) rfl trivial rfl rfl trivial ?_
        refine rN ?_
        refine cnd bne_iff_ne rfl (fun h4 => ?_) (fun h4 => ?_)
        · refine AW_seq ?_
          refine AW_region ?_
          refine sv hT (vB false) rfl trivial rfl rfl trivial ?_
          refine rN ?_
          refine AW_ret ?_
          exact thR ((qrR (ends [cB false] [] rfl rfl (f2c (cm (f2c (lmB (by first | exact (decide_eq_false (by intro h; subst h; simp_all)).symm | exact (decide_eq_true (by cases x; cases y; simp_all)).symm)) f20)) f20))))
        · refine AW_skip ?_
          refine thN ?_
          refine AW_seq ?_
          refine AW_region ?_
          refine sv hT (vB true) rfl trivial rfl rfl trivial ?_
          refine rN ?_
          refine AW_ret ?_
          exact (qrR (ends [cB true] [] rfl rfl (f2c (cm (f2c (lmB (by first | exact (decide_eq_false (by intro h; subst h; simp_all)).symm | exact (decide_eq_true (by cases x; cases y; simp_all)).symm)) f20)) f20)))

-- laws.eqDepotS
theorem c_laws_eqDepotS (a : List Depot) (b : List Depot) (hy0 : a.length ≤ 140737488355328) : Con Tryd.prog 18 [cL 2 1 0 (a.map Depot.e), cL 2 2 0 (b.map Depot.e)] [cB (decide (a = b))] := by
  refine con_mk hT (fn := Tryd.f18) 27 [.tmp 4] [(0, .c (cL 2 1 0 (a.map Depot.e))), (1, .c (cL 2 2 0 (b.map Depot.e)))] rfl rfl rfl rfl rfl rfl rfl ?_
  refine AW_seq ?_
  refine AW_region ?_
  refine sv hT (vB false) rfl trivial rfl rfl trivial ?_
  refine rN ?_
  refine AW_seq ?_
  refine AW_seq ?_
  refine AW_region ?_
  refine sv hT (vL 2 1 0 (a.map Depot.e)) rfl trivial rfl rfl trivial ?_
  refine sv hT (vI (a.length : Int)) lenM trivial rfl rfl trivial ?_
  refine sv hT (vL 2 2 0 (b.map Depot.e)) rfl trivial rfl rfl trivial ?_
  refine sv hT (vI (b.length : Int)) lenM trivial rfl rfl trivial ?_
  refine sv hT (vB ((a.length : Int) != (b.length : Int))) rfl trivial rfl rfl trivial ?_
  refine rN ?_
  refine cnd bne_iff_ne rfl (fun h1 => ?_) (fun h1 => ?_)
  · refine AW_seq ?_
    refine AW_region ?_
    refine sv hT (vB false) rfl trivial rfl rfl trivial ?_
    refine rN ?_
    refine AW_ret ?_
    exact thR ((qrR (ends [cB false] [] rfl rfl (f2c (cm (f2c (lmB (by exact (decide_eq_false (fun h => h1 (by rw [h]))).symm)) f20)) f20))))
  · refine AW_skip ?_
    refine thN ?_
    refine AW_seq ?_
    refine AW_seq ?_
    refine AW_region ?_
    refine sv hT (vI 0) rfl trivial rfl rfl trivial ?_
    refine rN ?_
    refine AW_block ?_
    refine lp (α := {i : Nat // i ≤ a.length ∧ a.take i = b.take i}) (fun x' => ⟨[(0, vL 2 1 0 (a.map Depot.e)), (1, vL 2 2 0 (b.map Depot.e)), (5, vI (x'.1 : Int))], [], 100, 8, 27⟩) (fun x' => a.length - x'.1) ⟨0, by omega, rfl⟩ [] [] (sm rfl (emc rfl (f2c (lma rfl rfl) f20) (emc rfl (f2c (lma rfl rfl) f20) (emc rfl (f2c (lmI (by simp)) f20) em0))) xm0) (fun x' => ?_)
    obtain ⟨i, hi1, hi2⟩ := x'
    change AW _ _ _ ⟨[(0, vL 2 1 0 (a.map Depot.e)), (1, vL 2 2 0 (b.map Depot.e)), (5, vI (i : Int))], [], 100, 8, 27⟩
    refine AW_seq ?_
    refine AW_seq ?_
    refine AW_region ?_
    refine sv hT (vI (i : Int)) rfl trivial rfl rfl trivial ?_
    refine sv hT (vL 2 1 0 (a.map Depot.e)) rfl trivial rfl rfl trivial ?_
    refine sv hT (vI (a.length : Int)) lenM trivial rfl rfl trivial ?_
    refine sv hT (vB (decide ((i : Int) < (a.length : Int)))) rfl trivial rfl rfl trivial ?_
    refine rN ?_
    refine cnd decide_eq_true_iff rfl (fun h2 => ?_) (fun h2 => ?_)
    · refine AW_skip ?_
      refine thN ?_
      refine AW_seq ?_
      refine AW_block ?_
      refine AW_seq ?_
      refine dstart 260 18 rfl ?_
      refine dv hT (vL 2 1 0 (a.map Depot.e)) [] rfl trivial rfl rfl rfl trivial ?_
      refine dv hT (vI (i : Int)) [] rfl trivial rfl rfl rfl trivial ?_
      refine dv hT (vE 2 1 i 0 (Depot.e (a.getD i default))) [] (ixM (by omega)) (okM (by omega)) rfl rfl rfl trivial ?_
      refine dv hT (vR (Depot.l (a.getD i default))) [] rfl trivial rfl rfl rfl trivial ?_
      refine dv hT (vL 2 2 0 (b.map Depot.e)) [] rfl trivial rfl rfl rfl trivial ?_
      refine dv hT (vI (i : Int)) [] rfl trivial rfl rfl rfl trivial ?_
      refine dv hT (vE 2 2 i 0 (Depot.e (b.getD i default))) [] (ixM (by omega)) (okM (by omega)) rfl rfl rfl trivial ?_
      refine dv hT (vR (Depot.l (b.getD i default))) [] rfl trivial rfl rfl rfl trivial ?_
      refine dcall hT [] [] (c_laws_eqDepot (a.getD i default) (b.getD i default)) rfl rfl rfl (f2c (ca (f2c (lav rfl) (f2c (lav rfl) f20))) (f2c (ca (f2c (lav rfl) (f2c (lav rfl) f20))) f20)) (f2c (cr (f2c lrv f20)) f20) rfl rfl trivial ?_
      refine dv hT (vB (!(decide ((a.getD i default) = (b.getD i default))))) [] rfl trivial rfl rfl rfl trivial ?_
      refine dend hm (by kernel_rfl) ?_
      refine thN ?_
      refine cnd (notIff decide_eq_true_iff) rfl (fun h3 => ?_) (fun h3 => ?_)
      · refine AW_seq ?_
        refine AW_region ?_
        refine sv hT (vB false) rfl trivial rfl rfl trivial ?_
        refine rN ?_
        refine AW_ret ?_
        exact ibR (thR (thR (ibR (thR ((qrR (ends [cB false] [] rfl rfl (f2c (cm (f2c (lmB (by exact (decide_eq_false (fun h => absurd (by rw [h]) h3)).symm)) f20)) f20))))))))
      · refine AW_skip ?_
        refine ibN ?_
        refine thN ?_
        refine AW_region ?_
        refine sv hT (vI (i : Int)) rfl trivial rfl rfl trivial ?_
        refine sv hT (vI ((i : Int) + 1)) (eqI (wI_id (by omega) (by omega))) trivial rfl rfl trivial ?_
        refine sv hT (vI ((i : Int) + 1)) rfl trivial rfl rfl trivial ?_
        refine rE ?_
        exact thN ⟨⟨i + 1, by omega, eqTake (d := default) hi2 (by omega) (by omega) (by first | omega | simpa using h3)⟩, [], [], (by show a.length - (i + 1) < a.length - i; omega), (sm rfl (emc rfl (f2c (lma rfl rfl) f20) (emc rfl (f2c (lma rfl rfl) f20) (emc rfl (f2c (lmI (by simp)) f20) em0))) xm0)⟩
    · refine AW_exit ?_
      refine thE (thE (ibH ?_))
      refine thN ?_
      refine AW_seq ?_
      refine AW_region ?_
      refine sv hT (vB true) rfl trivial rfl rfl trivial ?_
      refine rN ?_
      refine AW_ret ?_
      exact (qrR (ends [cB true] [] rfl rfl (f2c (cm (f2c (lmB (by exact (decide_eq_true (eqOf hi2 (by omega) (by omega))).symm)) f20)) f20)))

-- laws.eqPageS
theorem c_laws_eqPageS (a : List Page) (b : List Page) (hy0 : a.length ≤ 140737488355328) : Con Tryd.prog 23 [cL 4 1 0 (a.map Page.e), cL 4 2 0 (b.map Page.e)] [cB (decide (a = b))] := by
  refine con_mk hT (fn := Tryd.f23) 27 [.tmp 4] [(0, .c (cL 4 1 0 (a.map Page.e))), (1, .c (cL 4 2 0 (b.map Page.e)))] rfl rfl rfl rfl rfl rfl rfl ?_
  refine AW_seq ?_
  refine AW_region ?_
  refine sv hT (vB false) rfl trivial rfl rfl trivial ?_
  refine rN ?_
  refine AW_seq ?_
  refine AW_seq ?_
  refine AW_region ?_
  refine sv hT (vL 4 1 0 (a.map Page.e)) rfl trivial rfl rfl trivial ?_
  refine sv hT (vI (a.length : Int)) lenM trivial rfl rfl trivial ?_
  refine sv hT (vL 4 2 0 (b.map Page.e)) rfl trivial rfl rfl trivial ?_
  refine sv hT (vI (b.length : Int)) lenM trivial rfl rfl trivial ?_
  refine sv hT (vB ((a.length : Int) != (b.length : Int))) rfl trivial rfl rfl trivial ?_
  refine rN ?_
  refine cnd bne_iff_ne rfl (fun h1 => ?_) (fun h1 => ?_)
  · refine AW_seq ?_
    refine AW_region ?_
    refine sv hT (vB false) rfl trivial rfl rfl trivial ?_
    refine rN ?_
    refine AW_ret ?_
    exact thR ((qrR (ends [cB false] [] rfl rfl (f2c (cm (f2c (lmB (by exact (decide_eq_false (fun h => h1 (by rw [h]))).symm)) f20)) f20))))
  · refine AW_skip ?_
    refine thN ?_
    refine AW_seq ?_
    refine AW_seq ?_
    refine AW_region ?_
    refine sv hT (vI 0) rfl trivial rfl rfl trivial ?_
    refine rN ?_
    refine AW_block ?_
    refine lp (α := {i : Nat // i ≤ a.length ∧ a.take i = b.take i}) (fun x' => ⟨[(0, vL 4 1 0 (a.map Page.e)), (1, vL 4 2 0 (b.map Page.e)), (5, vI (x'.1 : Int))], [], 100, 8, 27⟩) (fun x' => a.length - x'.1) ⟨0, by omega, rfl⟩ [] [] (sm rfl (emc rfl (f2c (lma rfl rfl) f20) (emc rfl (f2c (lma rfl rfl) f20) (emc rfl (f2c (lmI (by simp)) f20) em0))) xm0) (fun x' => ?_)
    obtain ⟨i, hi1, hi2⟩ := x'
    change AW _ _ _ ⟨[(0, vL 4 1 0 (a.map Page.e)), (1, vL 4 2 0 (b.map Page.e)), (5, vI (i : Int))], [], 100, 8, 27⟩
    refine AW_seq ?_
    refine AW_seq ?_
    refine AW_region ?_
    refine sv hT (vI (i : Int)) rfl trivial rfl rfl trivial ?_
    refine sv hT (vL 4 1 0 (a.map Page.e)) rfl trivial rfl rfl trivial ?_
    refine sv hT (vI (a.length : Int)) lenM trivial rfl rfl trivial ?_
    refine sv hT (vB (decide ((i : Int) < (a.length : Int)))) rfl trivial rfl rfl trivial ?_
    refine rN ?_
    refine cnd decide_eq_true_iff rfl (fun h2 => ?_) (fun h2 => ?_)
    · refine AW_skip ?_
      refine thN ?_
      refine AW_seq ?_
      refine AW_block ?_
      refine AW_seq ?_
      refine dstart 260 18 rfl ?_
      refine dv hT (vL 4 1 0 (a.map Page.e)) [] rfl trivial rfl rfl rfl trivial ?_
      refine dv hT (vI (i : Int)) [] rfl trivial rfl rfl rfl trivial ?_
      refine dv hT (vE 4 1 i 0 (Page.e (a.getD i default))) [] (ixM (by omega)) (okM (by omega)) rfl rfl rfl trivial ?_
      refine dv hT (vR (Page.l (a.getD i default))) [] rfl trivial rfl rfl rfl trivial ?_
      refine dv hT (vL 4 2 0 (b.map Page.e)) [] rfl trivial rfl rfl rfl trivial ?_
      refine dv hT (vI (i : Int)) [] rfl trivial rfl rfl rfl trivial ?_
      refine dv hT (vE 4 2 i 0 (Page.e (b.getD i default))) [] (ixM (by omega)) (okM (by omega)) rfl rfl rfl trivial ?_
      refine dv hT (vR (Page.l (b.getD i default))) [] rfl trivial rfl rfl rfl trivial ?_
      refine dcall hT [] [] (c_laws_eqPage (a.getD i default) (b.getD i default)) rfl rfl rfl (f2c (ca (f2c (lav rfl) (f2c (lav rfl) (f2c (lav rfl) (f2c (lav rfl) f20))))) (f2c (ca (f2c (lav rfl) (f2c (lav rfl) (f2c (lav rfl) (f2c (lav rfl) f20))))) f20)) (f2c (cr (f2c lrv f20)) f20) rfl rfl trivial ?_
      refine dv hT (vB (!(decide ((a.getD i default) = (b.getD i default))))) [] rfl trivial rfl rfl rfl trivial ?_
      refine dend hm (by kernel_rfl) ?_
      refine thN ?_
      refine cnd (notIff decide_eq_true_iff) rfl (fun h3 => ?_) (fun h3 => ?_)
      · refine AW_seq ?_
        refine AW_region ?_
        refine sv hT (vB false) rfl trivial rfl rfl trivial ?_
        refine rN ?_
        refine AW_ret ?_
        exact ibR (thR (thR (ibR (thR ((qrR (ends [cB false] [] rfl rfl (f2c (cm (f2c (lmB (by exact (decide_eq_false (fun h => absurd (by rw [h]) h3)).symm)) f20)) f20))))))))
      · refine AW_skip ?_
        refine ibN ?_
        refine thN ?_
        refine AW_region ?_
        refine sv hT (vI (i : Int)) rfl trivial rfl rfl trivial ?_
        refine sv hT (vI ((i : Int) + 1)) (eqI (wI_id (by omega) (by omega))) trivial rfl rfl trivial ?_
        refine sv hT (vI ((i : Int) + 1)) rfl trivial rfl rfl trivial ?_
        refine rE ?_
        exact thN ⟨⟨i + 1, by omega, eqTake (d := default) hi2 (by omega) (by omega) (by first | omega | simpa using h3)⟩, [], [], (by show a.length - (i + 1) < a.length - i; omega), (sm rfl (emc rfl (f2c (lma rfl rfl) f20) (emc rfl (f2c (lma rfl rfl) f20) (emc rfl (f2c (lmI (by simp)) f20) em0))) xm0)⟩
    · refine AW_exit ?_
      refine thE (thE (ibH ?_))
      refine thN ?_
      refine AW_seq ?_
      refine AW_region ?_
      refine sv hT (vB true) rfl trivial rfl rfl trivial ?_
      refine rN ?_
      refine AW_ret ?_
      exact (qrR (ends [cB true] [] rfl rfl (f2c (cm (f2c (lmB (by exact (decide_eq_true (eqOf hi2 (by omega) (by omega))).symm)) f20)) f20)))

def depT (x : Land) (d : Depot) : List UInt8 := cellN x d.cell ++ [58] ++ Lib.itoa d.food
def pageT (x : Land) (p : Page) : List UInt8 := Lib.itoa p.day ++ [64] ++ cellN x p.cell ++ [61] ++ Lib.itoa p.food
theorem depT_len {x : Land} {d : Depot} (h : d.wf) : (depT x d).length ≤ 64 := by
  have h1 := cellN_len x d.cell
  have h2 := itoa_len h.2
  simp only [depT, List.length_append, List.length_cons, List.length_nil]; omega
theorem pageT_len {x : Land} {d : Page} (h : d.wf) : (pageT x d).length ≤ 64 := by
  have h1 := cellN_len x d.cell
  have h2 := itoa_len h.2.2.1
  have h3 := itoa_len h.1
  simp only [pageT, List.length_append, List.length_cons, List.length_nil]; omega
theorem lens_map' {α : Type} (f : α → List UInt8) (k : Nat) : ∀ (l : List α), (∀ a ∈ l, (f a).length ≤ k) → lens (l.map f) ≤ k * l.length
  | [], _ => by simp [lens]
  | a :: l, h => by
    have h1 := h a (by simp)
    have h2 := lens_map' f k l fun b hb => h b (by simp [hb])
    simp only [lens, List.map_cons, List.sum_cons, List.length_cons, Nat.mul_add] at h2 ⊢
    omega

-- spec.FormatDepots
theorem c_spec_FormatDepots (x : Land) (l : List Depot) (hy0 : x.cells.length ≤ 140737488355328 ∧ l.length ≤ 1099511627) (hy1 : ∀ d ∈ l, d.wf) : Con Tryd.prog 15 [(true, Land.l x 1), cL 2 2 0 (l.map Depot.e)] [cS (joinT (l.map (depT x)))] := by
  refine con_mk hT (fn := Tryd.f15) 34 [.tmp 4] [(0, .c ((true, Land.l x 1))), (1, .c (cL 2 2 0 (l.map Depot.e)))] rfl rfl rfl rfl rfl rfl rfl ?_
  refine AW_seq ?_
  refine AW_region ?_
  refine sbox hT ((true, Land.l x 1)) rfl rfl rfl rfl (ls := Land.l x 1) rfl trivial ?_
  refine sv hT (vS []) rfl trivial rfl rfl trivial ?_
  refine rN ?_
  refine AW_seq ?_
  refine AW_region ?_
  refine slit0 hT rfl rfl rfl rfl rfl (z := 1) rfl trivial ?_
  refine sv hT (vL 1 0 0 []) rfl trivial rfl rfl trivial ?_
  refine rN ?_
  refine AW_seq ?_
  refine AW_seq ?_
  refine AW_region ?_
  refine sv hT (vI 0) rfl trivial rfl rfl trivial ?_
  refine rN ?_
  refine AW_block ?_
  refine own1 5 rfl ?_
  refine lp (α := {i : Nat // i ≤ l.length}) (fun x' => ⟨[(1, vL 2 2 0 (l.map Depot.e)), (2, vP 8 0), (4, vS []), (5, vL 1 132 0 (((l.take x'.1).map (depT x)).map eS)), (6, vI (x'.1 : Int))], [(8, Land.l x 1)], 4244, 10, 34⟩) (fun x' => l.length - x'.1) ⟨0, by omega⟩ [(132, 132, 0)] [(8, 8)] (sm rfl (emc rfl (f2c (lma rfl rfl) f20) (emc rfl (f2c (lmp rfl) f20) (emc rfl (f2c (lmS rfl) f20) (emc rfl (f2c (lmo (by first | rfl | exact congrArg (List.map eS) (mapStep (f := depT x) (d := default) (by omega))) rfl rfl rfl) f20) (emc rfl (f2c (lmI (by simp)) f20) em0))))) (xmc rfl rfl (f2c (lmI rfl) (f2c (lmI rfl) (f2c (lma rfl rfl) f20))) xm0)) (fun x' => ?_)
  obtain ⟨i, hi⟩ := x'
  change AW _ _ _ ⟨[(1, vL 2 2 0 (l.map Depot.e)), (2, vP 8 0), (4, vS []), (5, vL 1 132 0 (((l.take i).map (depT x)).map eS)), (6, vI (i : Int))], [(8, Land.l x 1)], 4244, 10, 34⟩
  refine AW_seq ?_
  refine AW_seq ?_
  refine AW_region ?_
  refine sv hT (vI (i : Int)) rfl trivial rfl rfl trivial ?_
  refine sv hT (vL 2 2 0 (l.map Depot.e)) rfl trivial rfl rfl trivial ?_
  refine sv hT (vI (l.length : Int)) lenM trivial rfl rfl trivial ?_
  refine sv hT (vB (decide ((i : Int) < (l.length : Int)))) rfl trivial rfl rfl trivial ?_
  refine rN ?_
  refine cnd decide_eq_true_iff rfl (fun h1 => ?_) (fun h1 => ?_)
  · refine AW_skip ?_
    refine thN ?_
    refine AW_seq ?_
    refine AW_block ?_
    refine dstart 4548 29 rfl ?_
    refine dv hT (vL 1 132 0 (((l.take i).map (depT x)).map eS)) [] rfl trivial rfl rfl rfl trivial ?_
    refine dv hT (vR (Land.l x 1)) [8] rfl trivial rfl rfl rfl trivial ?_
    refine dv hT (vL 2 2 0 (l.map Depot.e)) [] rfl trivial rfl rfl rfl trivial ?_
    refine dv hT (vI (i : Int)) [] rfl trivial rfl rfl rfl trivial ?_
    refine dv hT (vE 2 2 i 0 (Depot.e (l.getD i default))) [] (ixM (by omega)) (okM (by omega)) rfl rfl rfl trivial ?_
    refine dv hT (vE 2 2 i 0 (Depot.e (l.getD i default))) [] rfl trivial rfl rfl rfl trivial ?_
    refine dv hT (vI ((l.getD i default).cell)) [] rfl trivial rfl rfl rfl trivial ?_
    refine dcall hT [(1, 1, 0)] [] (c_spec_l39Cell x ((l.getD i default).cell) (by omega)) rfl rfl rfl (f2c (ca (f2c (lav rfl) (f2c (lav rfl) (f2c (las rfl rfl rfl) f20)))) (f2c (ca (f2c (lav rfl) f20)) f20)) (f2c (cr (f2c lrv f20)) f20) rfl rfl trivial ?_
    refine dv hT (vS ((cellN x ((l.getD i default).cell)) ++ [58])) [] rfl (by have h8 := cellN_len x (l.getD i default).cell; have h9 := itoa_len (hy1 (l.getD i default) (getD_mem' (by omega))).2; simp only [List.length_append, List.length_cons, List.length_nil]; omega) rfl rfl rfl trivial ?_
    refine dv hT (vL 2 2 0 (l.map Depot.e)) [] rfl trivial rfl rfl rfl trivial ?_
    refine dv hT (vI (i : Int)) [] rfl trivial rfl rfl rfl trivial ?_
    refine dv hT (vE 2 2 i 0 (Depot.e (l.getD i default))) [] (ixM (by omega)) (okM (by omega)) rfl rfl rfl trivial ?_
    refine dv hT (vE 2 2 i 1 (Depot.e (l.getD i default))) [] rfl trivial rfl rfl rfl trivial ?_
    refine dv hT (vI ((l.getD i default).food)) [] rfl trivial rfl rfl rfl trivial ?_
    refine dcall hT [] [] (c_spec_FormatInt ((l.getD i default).food) (hy1 (l.getD i default) (getD_mem' (by omega))).2) rfl rfl rfl (f2c (ca (f2c (lav rfl) f20)) f20) (f2c (cr (f2c lrv f20)) f20) rfl rfl trivial ?_
    refine dv hT (vS (((cellN x ((l.getD i default).cell)) ++ [58]) ++ (Lib.itoa ((l.getD i default).food)))) [] rfl (by have h8 := cellN_len x (l.getD i default).cell; have h9 := itoa_len (hy1 (l.getD i default) (getD_mem' (by omega))).2; simp only [List.length_append, List.length_cons, List.length_nil]; omega) rfl rfl rfl trivial ?_
    refine dlit hT 4500 ([((cellN x ((l.getD i default).cell)) ++ [58]) ++ (Lib.itoa ((l.getD i default).food))].map eS) rfl rfl rfl rfl (z := 1) rfl rfl rfl rfl rfl rfl trivial ?_
    refine dapk hT 4516 ((((l.take i).map (depT x)) ++ [((cellN x ((l.getD i default).cell)) ++ [58]) ++ (Lib.itoa ((l.getD i default).food))]).map eS) [5, 14] rfl rfl rfl rfl rfl rfl rfl (by change (_ + _) * 16 ≤ _; simp <;> omega) (z := 1) rfl List.map_append.symm rfl rfl trivial ?_
    refine dv hT (vL 1 4516 0 ((((l.take i).map (depT x)) ++ [((cellN x ((l.getD i default).cell)) ++ [58]) ++ (Lib.itoa ((l.getD i default).food))]).map eS)) [] rfl trivial rfl rfl rfl trivial ?_
    refine dend hm (by kernel_rfl) ?_
    refine ibN ?_
    refine thN ?_
    refine AW_region ?_
    refine sv hT (vI (i : Int)) rfl trivial rfl rfl trivial ?_
    refine sv hT (vI ((i : Int) + 1)) (eqI (wI_id (by omega) (by omega))) trivial rfl rfl trivial ?_
    refine sv hT (vI ((i : Int) + 1)) rfl trivial rfl rfl trivial ?_
    refine rE ?_
    exact thN ⟨⟨i + 1, by omega⟩, [(132, 4516, 0)], [(8, 8)], (by show l.length - (i + 1) < l.length - i; omega), (sm rfl (emc rfl (f2c (lma rfl rfl) f20) (emc rfl (f2c (lmp rfl) f20) (emc rfl (f2c (lmS rfl) f20) (emc rfl (f2c (lmo (by first | rfl | exact congrArg (List.map eS) (mapStep (f := depT x) (d := default) (by omega))) rfl rfl rfl) f20) (emc rfl (f2c (lmI (by simp)) f20) em0))))) (xmc rfl rfl (f2c (lmI rfl) (f2c (lmI rfl) (f2c (lma rfl rfl) f20))) xm0))⟩
  · refine AW_exit ?_
    refine thE (thE (ibH ?_))
    refine thN ?_
    refine AW_seq ?_
    refine AW_region ?_
    refine sv hT (vL 1 132 0 (((l.take i).map (depT x)).map eS)) rfl trivial rfl rfl trivial ?_
    refine scall hT [(1, 132, 0)] [] (c_spec_l39Join ((l.take i).map (depT x)) (by rw [List.take_of_length_le (by omega)]; have := lens_map' (depT x) 64 l (fun a ha => depT_len (hy1 a ha)); simp only [List.length_map]; omega)) rfl rfl rfl (f2c (ca (f2c (las rfl rfl rfl) f20)) f20) (f2c (cr (f2c lrv f20)) f20) rfl rfl trivial ?_
    refine sv hT (vS (joinT ((l.take i).map (depT x)))) rfl trivial rfl rfl trivial ?_
    refine rN ?_
    refine AW_ret ?_
    exact (qrR (ends [cS (joinT ((l.take i).map (depT x)))] [] rfl rfl (f2c (cm (f2c (lmS (by rw [List.take_of_length_le (by omega)])) f20)) f20)))

-- impl.FormatDepots
theorem c_impl_FormatDepots (x : Land) (l : List Depot) (hy0 : x.cells.length ≤ 140737488355328 ∧ l.length ≤ 1099511627) (hy1 : ∀ d ∈ l, d.wf) : Con Tryd.prog 17 [(true, Land.l x 1), cL 2 2 0 (l.map Depot.e)] [cS (joinT (l.map (depT x)))] := by
  refine con_mk hT (fn := Tryd.f17) 30 [.tmp 4] [(0, .c ((true, Land.l x 1))), (1, .c (cL 2 2 0 (l.map Depot.e)))] rfl rfl rfl rfl rfl rfl rfl ?_
  refine AW_seq ?_
  refine AW_region ?_
  refine sbox hT ((true, Land.l x 1)) rfl rfl rfl rfl (ls := Land.l x 1) rfl trivial ?_
  refine sv hT (vS []) rfl trivial rfl rfl trivial ?_
  refine rN ?_
  refine AW_seq ?_
  refine AW_region ?_
  refine slit0 hT rfl rfl rfl rfl rfl (z := 1) rfl trivial ?_
  refine sv hT (vL 1 0 0 []) rfl trivial rfl rfl trivial ?_
  refine rN ?_
  refine AW_seq ?_
  refine AW_seq ?_
  refine AW_region ?_
  refine sv hT (vL 2 2 0 (l.map Depot.e)) rfl trivial rfl rfl trivial ?_
  refine sv hT (vI (l.length : Int)) lenM trivial rfl rfl trivial ?_
  refine sv hT (vI 0) rfl trivial rfl rfl trivial ?_
  refine rN ?_
  refine AW_block ?_
  refine own1 5 rfl ?_
  refine lp (α := {i : Nat // i ≤ l.length}) (fun x' => ⟨[(2, vP 8 0), (4, vS []), (5, vL 1 132 0 (((l.take x'.1).map (depT x)).map eS)), (9, vL 2 2 0 (l.map Depot.e)), (10, vI (l.length : Int)), (11, vI (x'.1 : Int))], [(8, Land.l x 1)], 4244, 10, 30⟩) (fun x' => l.length - x'.1) ⟨0, by omega⟩ [(132, 132, 0)] [(8, 8)] (sm rfl (emc rfl (f2c (lmp rfl) f20) (emc rfl (f2c (lmS rfl) f20) (emc rfl (f2c (lmo (by first | rfl | exact congrArg (List.map eS) (mapStep (f := depT x) (d := default) (by omega))) rfl rfl rfl) f20) (emc rfl (f2c (lma rfl rfl) f20) (emc rfl (f2c (lmI rfl) f20) (emc rfl (f2c (lmI (by simp)) f20) em0)))))) (xmc rfl rfl (f2c (lmI rfl) (f2c (lmI rfl) (f2c (lma rfl rfl) f20))) xm0)) (fun x' => ?_)
  obtain ⟨i, hi⟩ := x'
  change AW _ _ _ ⟨[(2, vP 8 0), (4, vS []), (5, vL 1 132 0 (((l.take i).map (depT x)).map eS)), (9, vL 2 2 0 (l.map Depot.e)), (10, vI (l.length : Int)), (11, vI (i : Int))], [(8, Land.l x 1)], 4244, 10, 30⟩
  refine AW_seq ?_
  refine AW_region ?_
  refine sv hT (vB (decide ((i : Int) < (l.length : Int)))) rfl trivial rfl rfl trivial ?_
  refine rN ?_
  refine AW_seq ?_
  refine cnd decide_eq_true_iff rfl (fun h1 => ?_) (fun h1 => ?_)
  · refine AW_skip ?_
    refine thN ?_
    refine AW_seq ?_
    refine AW_block ?_
    refine AW_seq ?_
    refine AW_region ?_
    refine sv hT (vE 2 2 i 0 (Depot.e (l.getD i default))) (ixM (by omega)) (okM (by omega)) rfl rfl trivial ?_
    refine sv hT (vR (Depot.l (l.getD i default))) rfl trivial rfl rfl trivial ?_
    refine salloc hT rfl rfl rfl rfl (ls := [lI 0, lI 0]) rfl trivial ?_
    refine sst hT (Depot.l (l.getD i default)) rfl rfl rfl rfl rfl rfl rfl rfl trivial ?_
    refine rN ?_
    refine dstart 4468 24 rfl ?_
    refine dv hT (vL 1 132 0 (((l.take i).map (depT x)).map eS)) [] rfl trivial rfl rfl rfl trivial ?_
    refine dv hT (vR (Land.l x 1)) [8] rfl trivial rfl rfl rfl trivial ?_
    refine dv hT (vP 10 0) [] rfl trivial rfl rfl rfl trivial ?_
    refine dv hT (vI ((l.getD i default).cell)) [10] rfl trivial rfl rfl rfl trivial ?_
    refine dcall hT [(1, 1, 0)] [] (c_impl_nameOf x ((l.getD i default).cell) (by omega)) rfl rfl rfl (f2c (ca (f2c (lav rfl) (f2c (lav rfl) (f2c (las rfl rfl rfl) f20)))) (f2c (ca (f2c (lav rfl) f20)) f20)) (f2c (cr (f2c lrv f20)) f20) rfl rfl trivial ?_
    refine dv hT (vS ((cellN x ((l.getD i default).cell)) ++ [58])) [] rfl (by have h8 := cellN_len x (l.getD i default).cell; have h9 := itoa_len (hy1 (l.getD i default) (getD_mem' (by omega))).2; simp only [List.length_append, List.length_cons, List.length_nil]; omega) rfl rfl rfl trivial ?_
    refine dv hT (vP 10 1) [] rfl trivial rfl rfl rfl trivial ?_
    refine dv hT (vI ((l.getD i default).food)) [10] rfl trivial rfl rfl rfl trivial ?_
    refine dcall hT [] [] (c_impl_FormatInt ((l.getD i default).food) (hy1 (l.getD i default) (getD_mem' (by omega))).2) rfl rfl rfl (f2c (ca (f2c (lav rfl) f20)) f20) (f2c (cr (f2c lrv f20)) f20) rfl rfl trivial ?_
    refine dv hT (vS (((cellN x ((l.getD i default).cell)) ++ [58]) ++ (Lib.itoa ((l.getD i default).food)))) [] rfl (by have h8 := cellN_len x (l.getD i default).cell; have h9 := itoa_len (hy1 (l.getD i default) (getD_mem' (by omega))).2; simp only [List.length_append, List.length_cons, List.length_nil]; omega) rfl rfl rfl trivial ?_
    refine dlit hT 4420 ([((cellN x ((l.getD i default).cell)) ++ [58]) ++ (Lib.itoa ((l.getD i default).food))].map eS) rfl rfl rfl rfl (z := 1) rfl rfl rfl rfl rfl rfl trivial ?_
    refine dapk hT 4436 ((((l.take i).map (depT x)) ++ [((cellN x ((l.getD i default).cell)) ++ [58]) ++ (Lib.itoa ((l.getD i default).food))]).map eS) [5, 15] rfl rfl rfl rfl rfl rfl rfl (by change (_ + _) * 16 ≤ _; simp <;> omega) (z := 1) rfl List.map_append.symm rfl rfl trivial ?_
    refine dv hT (vL 1 4436 0 ((((l.take i).map (depT x)) ++ [((cellN x ((l.getD i default).cell)) ++ [58]) ++ (Lib.itoa ((l.getD i default).food))]).map eS)) [] rfl trivial rfl rfl rfl trivial ?_
    refine dend hm (by kernel_rfl) ?_
    refine ibN ?_
    refine thN ?_
    refine AW_region ?_
    refine sv hT (vI ((i : Int) + 1)) (eqI (wI_id (by omega) (by omega))) trivial rfl rfl trivial ?_
    refine sv hT (vI ((i : Int) + 1)) rfl trivial rfl rfl trivial ?_
    refine rE ?_
    exact thN ⟨⟨i + 1, by omega⟩, [(132, 4436, 0)], [(8, 8)], (by show l.length - (i + 1) < l.length - i; omega), (sm rfl (emc rfl (f2c (lmp rfl) f20) (emc rfl (f2c (lmS rfl) f20) (emc rfl (f2c (lmo (by first | rfl | exact congrArg (List.map eS) (mapStep (f := depT x) (d := default) (by omega))) rfl rfl rfl) f20) (emc rfl (f2c (lma rfl rfl) f20) (emc rfl (f2c (lmI rfl) f20) (emc rfl (f2c (lmI (by simp)) f20) em0)))))) (xmc rfl rfl (f2c (lmI rfl) (f2c (lmI rfl) (f2c (lma rfl rfl) f20))) xm0))⟩
  · refine AW_exit ?_
    refine thE (thE (ibH ?_))
    refine thN ?_
    refine AW_seq ?_
    refine AW_region ?_
    refine sv hT (vL 1 132 0 (((l.take i).map (depT x)).map eS)) rfl trivial rfl rfl trivial ?_
    refine scall hT [(1, 132, 0)] [] (c_impl_orDash ((l.take i).map (depT x)) (by rw [List.take_of_length_le (by omega)]; have := lens_map' (depT x) 64 l (fun a ha => depT_len (hy1 a ha)); simp only [List.length_map]; omega)) rfl rfl rfl (f2c (ca (f2c (las rfl rfl rfl) f20)) f20) (f2c (cr (f2c lrv f20)) f20) rfl rfl trivial ?_
    refine sv hT (vS (joinT ((l.take i).map (depT x)))) rfl trivial rfl rfl trivial ?_
    refine rN ?_
    refine AW_ret ?_
    exact (qrR (ends [cS (joinT ((l.take i).map (depT x)))] [] rfl rfl (f2c (cm (f2c (lmS (by rw [List.take_of_length_le (by omega)])) f20)) f20)))

-- spec.FormatJournal
theorem c_spec_FormatJournal (x : Land) (l : List Page) (hy0 : x.cells.length ≤ 140737488355328 ∧ l.length ≤ 1099511627) (hy1 : ∀ d ∈ l, d.wf) : Con Tryd.prog 20 [(true, Land.l x 1), cL 4 2 0 (l.map Page.e)] [cS (joinT (l.map (pageT x)))] := by
  refine con_mk hT (fn := Tryd.f20) 42 [.tmp 4] [(0, .c ((true, Land.l x 1))), (1, .c (cL 4 2 0 (l.map Page.e)))] rfl rfl rfl rfl rfl rfl rfl ?_
  refine AW_seq ?_
  refine AW_region ?_
  refine sbox hT ((true, Land.l x 1)) rfl rfl rfl rfl (ls := Land.l x 1) rfl trivial ?_
  refine sv hT (vS []) rfl trivial rfl rfl trivial ?_
  refine rN ?_
  refine AW_seq ?_
  refine AW_region ?_
  refine slit0 hT rfl rfl rfl rfl rfl (z := 1) rfl trivial ?_
  refine sv hT (vL 1 0 0 []) rfl trivial rfl rfl trivial ?_
  refine rN ?_
  refine AW_seq ?_
  refine AW_seq ?_
  refine AW_region ?_
  refine sv hT (vI 0) rfl trivial rfl rfl trivial ?_
  refine rN ?_
  refine AW_block ?_
  refine own1 5 rfl ?_
  refine lp (α := {i : Nat // i ≤ l.length}) (fun x' => ⟨[(1, vL 4 2 0 (l.map Page.e)), (2, vP 8 0), (4, vS []), (5, vL 1 132 0 (((l.take x'.1).map (pageT x)).map eS)), (6, vI (x'.1 : Int))], [(8, Land.l x 1)], 4244, 10, 42⟩) (fun x' => l.length - x'.1) ⟨0, by omega⟩ [(132, 132, 0)] [(8, 8)] (sm rfl (emc rfl (f2c (lma rfl rfl) f20) (emc rfl (f2c (lmp rfl) f20) (emc rfl (f2c (lmS rfl) f20) (emc rfl (f2c (lmo (by first | rfl | exact congrArg (List.map eS) (mapStep (f := pageT x) (d := default) (by omega))) rfl rfl rfl) f20) (emc rfl (f2c (lmI (by simp)) f20) em0))))) (xmc rfl rfl (f2c (lmI rfl) (f2c (lmI rfl) (f2c (lma rfl rfl) f20))) xm0)) (fun x' => ?_)
  obtain ⟨i, hi⟩ := x'
  change AW _ _ _ ⟨[(1, vL 4 2 0 (l.map Page.e)), (2, vP 8 0), (4, vS []), (5, vL 1 132 0 (((l.take i).map (pageT x)).map eS)), (6, vI (i : Int))], [(8, Land.l x 1)], 4244, 10, 42⟩
  refine AW_seq ?_
  refine AW_seq ?_
  refine AW_region ?_
  refine sv hT (vI (i : Int)) rfl trivial rfl rfl trivial ?_
  refine sv hT (vL 4 2 0 (l.map Page.e)) rfl trivial rfl rfl trivial ?_
  refine sv hT (vI (l.length : Int)) lenM trivial rfl rfl trivial ?_
  refine sv hT (vB (decide ((i : Int) < (l.length : Int)))) rfl trivial rfl rfl trivial ?_
  refine rN ?_
  refine cnd decide_eq_true_iff rfl (fun h1 => ?_) (fun h1 => ?_)
  · refine AW_skip ?_
    refine thN ?_
    refine AW_seq ?_
    refine AW_block ?_
    refine dstart 4676 37 rfl ?_
    refine dv hT (vL 1 132 0 (((l.take i).map (pageT x)).map eS)) [] rfl trivial rfl rfl rfl trivial ?_
    refine dv hT (vL 4 2 0 (l.map Page.e)) [] rfl trivial rfl rfl rfl trivial ?_
    refine dv hT (vI (i : Int)) [] rfl trivial rfl rfl rfl trivial ?_
    refine dv hT (vE 4 2 i 0 (Page.e (l.getD i default))) [] (ixM (by omega)) (okM (by omega)) rfl rfl rfl trivial ?_
    refine dv hT (vE 4 2 i 0 (Page.e (l.getD i default))) [] rfl trivial rfl rfl rfl trivial ?_
    refine dv hT (vI ((l.getD i default).day)) [] rfl trivial rfl rfl rfl trivial ?_
    refine dcall hT [] [] (c_spec_FormatInt ((l.getD i default).day) (hy1 (l.getD i default) (getD_mem' (by omega))).1) rfl rfl rfl (f2c (ca (f2c (lav rfl) f20)) f20) (f2c (cr (f2c lrv f20)) f20) rfl rfl trivial ?_
    refine dv hT (vS ((Lib.itoa ((l.getD i default).day)) ++ [64])) [] rfl (by have h8 := cellN_len x (l.getD i default).cell; have h9 := itoa_len (hy1 (l.getD i default) (getD_mem' (by omega))).2.2.1; have h10 := itoa_len (hy1 (l.getD i default) (getD_mem' (by omega))).1; simp only [List.length_append, List.length_cons, List.length_nil]; omega) rfl rfl rfl trivial ?_
    refine dv hT (vR (Land.l x 1)) [8] rfl trivial rfl rfl rfl trivial ?_
    refine dv hT (vL 4 2 0 (l.map Page.e)) [] rfl trivial rfl rfl rfl trivial ?_
    refine dv hT (vI (i : Int)) [] rfl trivial rfl rfl rfl trivial ?_
    refine dv hT (vE 4 2 i 0 (Page.e (l.getD i default))) [] (ixM (by omega)) (okM (by omega)) rfl rfl rfl trivial ?_
    refine dv hT (vE 4 2 i 1 (Page.e (l.getD i default))) [] rfl trivial rfl rfl rfl trivial ?_
    refine dv hT (vI ((l.getD i default).cell)) [] rfl trivial rfl rfl rfl trivial ?_
    refine dcall hT [(1, 1, 0)] [] (c_spec_l39Cell x ((l.getD i default).cell) (by omega)) rfl rfl rfl (f2c (ca (f2c (lav rfl) (f2c (lav rfl) (f2c (las rfl rfl rfl) f20)))) (f2c (ca (f2c (lav rfl) f20)) f20)) (f2c (cr (f2c lrv f20)) f20) rfl rfl trivial ?_
    refine dv hT (vS (((Lib.itoa ((l.getD i default).day)) ++ [64]) ++ (cellN x ((l.getD i default).cell)))) [] rfl (by have h8 := cellN_len x (l.getD i default).cell; have h9 := itoa_len (hy1 (l.getD i default) (getD_mem' (by omega))).2.2.1; have h10 := itoa_len (hy1 (l.getD i default) (getD_mem' (by omega))).1; simp only [List.length_append, List.length_cons, List.length_nil]; omega) rfl rfl rfl trivial ?_
    refine dv hT (vS ((((Lib.itoa ((l.getD i default).day)) ++ [64]) ++ (cellN x ((l.getD i default).cell))) ++ [61])) [] rfl (by have h8 := cellN_len x (l.getD i default).cell; have h9 := itoa_len (hy1 (l.getD i default) (getD_mem' (by omega))).2.2.1; have h10 := itoa_len (hy1 (l.getD i default) (getD_mem' (by omega))).1; simp only [List.length_append, List.length_cons, List.length_nil]; omega) rfl rfl rfl trivial ?_
    refine dv hT (vL 4 2 0 (l.map Page.e)) [] rfl trivial rfl rfl rfl trivial ?_
    refine dv hT (vI (i : Int)) [] rfl trivial rfl rfl rfl trivial ?_
    refine dv hT (vE 4 2 i 0 (Page.e (l.getD i default))) [] (ixM (by omega)) (okM (by omega)) rfl rfl rfl trivial ?_
    refine dv hT (vE 4 2 i 2 (Page.e (l.getD i default))) [] rfl trivial rfl rfl rfl trivial ?_
    refine dv hT (vI ((l.getD i default).food)) [] rfl trivial rfl rfl rfl trivial ?_
    refine dcall hT [] [] (c_spec_FormatInt ((l.getD i default).food) (hy1 (l.getD i default) (getD_mem' (by omega))).2.2.1) rfl rfl rfl (f2c (ca (f2c (lav rfl) f20)) f20) (f2c (cr (f2c lrv f20)) f20) rfl rfl trivial ?_
    refine dv hT (vS (((((Lib.itoa ((l.getD i default).day)) ++ [64]) ++ (cellN x ((l.getD i default).cell))) ++ [61]) ++ (Lib.itoa ((l.getD i default).food)))) [] rfl (by have h8 := cellN_len x (l.getD i default).cell; have h9 := itoa_len (hy1 (l.getD i default) (getD_mem' (by omega))).2.2.1; have h10 := itoa_len (hy1 (l.getD i default) (getD_mem' (by omega))).1; simp only [List.length_append, List.length_cons, List.length_nil]; omega) rfl rfl rfl trivial ?_
    refine dlit hT 4628 ([((((Lib.itoa ((l.getD i default).day)) ++ [64]) ++ (cellN x ((l.getD i default).cell))) ++ [61]) ++ (Lib.itoa ((l.getD i default).food))].map eS) rfl rfl rfl rfl (z := 1) rfl rfl rfl rfl rfl rfl trivial ?_
    refine dapk hT 4644 ((((l.take i).map (pageT x)) ++ [((((Lib.itoa ((l.getD i default).day)) ++ [64]) ++ (cellN x ((l.getD i default).cell))) ++ [61]) ++ (Lib.itoa ((l.getD i default).food))]).map eS) [5, 14] rfl rfl rfl rfl rfl rfl rfl (by change (_ + _) * 16 ≤ _; simp <;> omega) (z := 1) rfl List.map_append.symm rfl rfl trivial ?_
    refine dv hT (vL 1 4644 0 ((((l.take i).map (pageT x)) ++ [((((Lib.itoa ((l.getD i default).day)) ++ [64]) ++ (cellN x ((l.getD i default).cell))) ++ [61]) ++ (Lib.itoa ((l.getD i default).food))]).map eS)) [] rfl trivial rfl rfl rfl trivial ?_
    refine dend hm (by kernel_rfl) ?_
    refine ibN ?_
    refine thN ?_
    refine AW_region ?_
    refine sv hT (vI (i : Int)) rfl trivial rfl rfl trivial ?_
    refine sv hT (vI ((i : Int) + 1)) (eqI (wI_id (by omega) (by omega))) trivial rfl rfl trivial ?_
    refine sv hT (vI ((i : Int) + 1)) rfl trivial rfl rfl trivial ?_
    refine rE ?_
    exact thN ⟨⟨i + 1, by omega⟩, [(132, 4644, 0)], [(8, 8)], (by show l.length - (i + 1) < l.length - i; omega), (sm rfl (emc rfl (f2c (lma rfl rfl) f20) (emc rfl (f2c (lmp rfl) f20) (emc rfl (f2c (lmS rfl) f20) (emc rfl (f2c (lmo (by first | rfl | exact congrArg (List.map eS) (mapStep (f := pageT x) (d := default) (by omega))) rfl rfl rfl) f20) (emc rfl (f2c (lmI (by simp)) f20) em0))))) (xmc rfl rfl (f2c (lmI rfl) (f2c (lmI rfl) (f2c (lma rfl rfl) f20))) xm0))⟩
  · refine AW_exit ?_
    refine thE (thE (ibH ?_))
    refine thN ?_
    refine AW_seq ?_
    refine AW_region ?_
    refine sv hT (vL 1 132 0 (((l.take i).map (pageT x)).map eS)) rfl trivial rfl rfl trivial ?_
    refine scall hT [(1, 132, 0)] [] (c_spec_l39Join ((l.take i).map (pageT x)) (by rw [List.take_of_length_le (by omega)]; have := lens_map' (pageT x) 64 l (fun a ha => pageT_len (hy1 a ha)); simp only [List.length_map]; omega)) rfl rfl rfl (f2c (ca (f2c (las rfl rfl rfl) f20)) f20) (f2c (cr (f2c lrv f20)) f20) rfl rfl trivial ?_
    refine sv hT (vS (joinT ((l.take i).map (pageT x)))) rfl trivial rfl rfl trivial ?_
    refine rN ?_
    refine AW_ret ?_
    exact (qrR (ends [cS (joinT ((l.take i).map (pageT x)))] [] rfl rfl (f2c (cm (f2c (lmS (by rw [List.take_of_length_le (by omega)])) f20)) f20)))

-- impl.FormatJournal
theorem c_impl_FormatJournal (x : Land) (l : List Page) (hy0 : x.cells.length ≤ 140737488355328 ∧ l.length ≤ 1099511627) (hy1 : ∀ d ∈ l, d.wf) : Con Tryd.prog 22 [(true, Land.l x 1), cL 4 2 0 (l.map Page.e)] [cS (joinT (l.map (pageT x)))] := by
  refine con_mk hT (fn := Tryd.f22) 35 [.tmp 4] [(0, .c ((true, Land.l x 1))), (1, .c (cL 4 2 0 (l.map Page.e)))] rfl rfl rfl rfl rfl rfl rfl ?_
  refine AW_seq ?_
  refine AW_region ?_
  refine sbox hT ((true, Land.l x 1)) rfl rfl rfl rfl (ls := Land.l x 1) rfl trivial ?_
  refine sv hT (vS []) rfl trivial rfl rfl trivial ?_
  refine rN ?_
  refine AW_seq ?_
  refine AW_region ?_
  refine slit0 hT rfl rfl rfl rfl rfl (z := 1) rfl trivial ?_
  refine sv hT (vL 1 0 0 []) rfl trivial rfl rfl trivial ?_
  refine rN ?_
  refine AW_seq ?_
  refine AW_seq ?_
  refine AW_region ?_
  refine sv hT (vL 4 2 0 (l.map Page.e)) rfl trivial rfl rfl trivial ?_
  refine sv hT (vI (l.length : Int)) lenM trivial rfl rfl trivial ?_
  refine sv hT (vI 0) rfl trivial rfl rfl trivial ?_
  refine rN ?_
  refine AW_block ?_
  refine own1 5 rfl ?_
  refine lp (α := {i : Nat // i ≤ l.length}) (fun x' => ⟨[(2, vP 8 0), (4, vS []), (5, vL 1 132 0 (((l.take x'.1).map (pageT x)).map eS)), (9, vL 4 2 0 (l.map Page.e)), (10, vI (l.length : Int)), (11, vI (x'.1 : Int))], [(8, Land.l x 1)], 4244, 10, 35⟩) (fun x' => l.length - x'.1) ⟨0, by omega⟩ [(132, 132, 0)] [(8, 8)] (sm rfl (emc rfl (f2c (lmp rfl) f20) (emc rfl (f2c (lmS rfl) f20) (emc rfl (f2c (lmo (by first | rfl | exact congrArg (List.map eS) (mapStep (f := pageT x) (d := default) (by omega))) rfl rfl rfl) f20) (emc rfl (f2c (lma rfl rfl) f20) (emc rfl (f2c (lmI rfl) f20) (emc rfl (f2c (lmI (by simp)) f20) em0)))))) (xmc rfl rfl (f2c (lmI rfl) (f2c (lmI rfl) (f2c (lma rfl rfl) f20))) xm0)) (fun x' => ?_)
  obtain ⟨i, hi⟩ := x'
  change AW _ _ _ ⟨[(2, vP 8 0), (4, vS []), (5, vL 1 132 0 (((l.take i).map (pageT x)).map eS)), (9, vL 4 2 0 (l.map Page.e)), (10, vI (l.length : Int)), (11, vI (i : Int))], [(8, Land.l x 1)], 4244, 10, 35⟩
  refine AW_seq ?_
  refine AW_region ?_
  refine sv hT (vB (decide ((i : Int) < (l.length : Int)))) rfl trivial rfl rfl trivial ?_
  refine rN ?_
  refine AW_seq ?_
  refine cnd decide_eq_true_iff rfl (fun h1 => ?_) (fun h1 => ?_)
  · refine AW_skip ?_
    refine thN ?_
    refine AW_seq ?_
    refine AW_block ?_
    refine AW_seq ?_
    refine AW_region ?_
    refine sv hT (vE 4 2 i 0 (Page.e (l.getD i default))) (ixM (by omega)) (okM (by omega)) rfl rfl trivial ?_
    refine sv hT (vR (Page.l (l.getD i default))) rfl trivial rfl rfl trivial ?_
    refine salloc hT rfl rfl rfl rfl (ls := [lI 0, lI 0, lI 0, lI 0]) rfl trivial ?_
    refine sst hT (Page.l (l.getD i default)) rfl rfl rfl rfl rfl rfl rfl rfl trivial ?_
    refine rN ?_
    refine dstart 4548 29 rfl ?_
    refine dv hT (vL 1 132 0 (((l.take i).map (pageT x)).map eS)) [] rfl trivial rfl rfl rfl trivial ?_
    refine dv hT (vP 10 0) [] rfl trivial rfl rfl rfl trivial ?_
    refine dv hT (vI ((l.getD i default).day)) [10] rfl trivial rfl rfl rfl trivial ?_
    refine dcall hT [] [] (c_impl_FormatInt ((l.getD i default).day) (hy1 (l.getD i default) (getD_mem' (by omega))).1) rfl rfl rfl (f2c (ca (f2c (lav rfl) f20)) f20) (f2c (cr (f2c lrv f20)) f20) rfl rfl trivial ?_
    refine dv hT (vS ((Lib.itoa ((l.getD i default).day)) ++ [64])) [] rfl (by have h8 := cellN_len x (l.getD i default).cell; have h9 := itoa_len (hy1 (l.getD i default) (getD_mem' (by omega))).2.2.1; have h10 := itoa_len (hy1 (l.getD i default) (getD_mem' (by omega))).1; simp only [List.length_append, List.length_cons, List.length_nil]; omega) rfl rfl rfl trivial ?_
    refine dv hT (vR (Land.l x 1)) [8] rfl trivial rfl rfl rfl trivial ?_
    refine dv hT (vP 10 1) [] rfl trivial rfl rfl rfl trivial ?_
    refine dv hT (vI ((l.getD i default).cell)) [10] rfl trivial rfl rfl rfl trivial ?_
    refine dcall hT [(1, 1, 0)] [] (c_impl_nameOf x ((l.getD i default).cell) (by omega)) rfl rfl rfl (f2c (ca (f2c (lav rfl) (f2c (lav rfl) (f2c (las rfl rfl rfl) f20)))) (f2c (ca (f2c (lav rfl) f20)) f20)) (f2c (cr (f2c lrv f20)) f20) rfl rfl trivial ?_
    refine dv hT (vS (((Lib.itoa ((l.getD i default).day)) ++ [64]) ++ (cellN x ((l.getD i default).cell)))) [] rfl (by have h8 := cellN_len x (l.getD i default).cell; have h9 := itoa_len (hy1 (l.getD i default) (getD_mem' (by omega))).2.2.1; have h10 := itoa_len (hy1 (l.getD i default) (getD_mem' (by omega))).1; simp only [List.length_append, List.length_cons, List.length_nil]; omega) rfl rfl rfl trivial ?_
    refine dv hT (vS ((((Lib.itoa ((l.getD i default).day)) ++ [64]) ++ (cellN x ((l.getD i default).cell))) ++ [61])) [] rfl (by have h8 := cellN_len x (l.getD i default).cell; have h9 := itoa_len (hy1 (l.getD i default) (getD_mem' (by omega))).2.2.1; have h10 := itoa_len (hy1 (l.getD i default) (getD_mem' (by omega))).1; simp only [List.length_append, List.length_cons, List.length_nil]; omega) rfl rfl rfl trivial ?_
    refine dv hT (vP 10 2) [] rfl trivial rfl rfl rfl trivial ?_
    refine dv hT (vI ((l.getD i default).food)) [10] rfl trivial rfl rfl rfl trivial ?_
    refine dcall hT [] [] (c_impl_FormatInt ((l.getD i default).food) (hy1 (l.getD i default) (getD_mem' (by omega))).2.2.1) rfl rfl rfl (f2c (ca (f2c (lav rfl) f20)) f20) (f2c (cr (f2c lrv f20)) f20) rfl rfl trivial ?_
    refine dv hT (vS (((((Lib.itoa ((l.getD i default).day)) ++ [64]) ++ (cellN x ((l.getD i default).cell))) ++ [61]) ++ (Lib.itoa ((l.getD i default).food)))) [] rfl (by have h8 := cellN_len x (l.getD i default).cell; have h9 := itoa_len (hy1 (l.getD i default) (getD_mem' (by omega))).2.2.1; have h10 := itoa_len (hy1 (l.getD i default) (getD_mem' (by omega))).1; simp only [List.length_append, List.length_cons, List.length_nil]; omega) rfl rfl rfl trivial ?_
    refine dlit hT 4500 ([((((Lib.itoa ((l.getD i default).day)) ++ [64]) ++ (cellN x ((l.getD i default).cell))) ++ [61]) ++ (Lib.itoa ((l.getD i default).food))].map eS) rfl rfl rfl rfl (z := 1) rfl rfl rfl rfl rfl rfl trivial ?_
    refine dapk hT 4516 ((((l.take i).map (pageT x)) ++ [((((Lib.itoa ((l.getD i default).day)) ++ [64]) ++ (cellN x ((l.getD i default).cell))) ++ [61]) ++ (Lib.itoa ((l.getD i default).food))]).map eS) [5, 15] rfl rfl rfl rfl rfl rfl rfl (by change (_ + _) * 16 ≤ _; simp <;> omega) (z := 1) rfl List.map_append.symm rfl rfl trivial ?_
    refine dv hT (vL 1 4516 0 ((((l.take i).map (pageT x)) ++ [((((Lib.itoa ((l.getD i default).day)) ++ [64]) ++ (cellN x ((l.getD i default).cell))) ++ [61]) ++ (Lib.itoa ((l.getD i default).food))]).map eS)) [] rfl trivial rfl rfl rfl trivial ?_
    refine dend hm (by kernel_rfl) ?_
    refine ibN ?_
    refine thN ?_
    refine AW_region ?_
    refine sv hT (vI ((i : Int) + 1)) (eqI (wI_id (by omega) (by omega))) trivial rfl rfl trivial ?_
    refine sv hT (vI ((i : Int) + 1)) rfl trivial rfl rfl trivial ?_
    refine rE ?_
    exact thN ⟨⟨i + 1, by omega⟩, [(132, 4516, 0)], [(8, 8)], (by show l.length - (i + 1) < l.length - i; omega), (sm rfl (emc rfl (f2c (lmp rfl) f20) (emc rfl (f2c (lmS rfl) f20) (emc rfl (f2c (lmo (by first | rfl | exact congrArg (List.map eS) (mapStep (f := pageT x) (d := default) (by omega))) rfl rfl rfl) f20) (emc rfl (f2c (lma rfl rfl) f20) (emc rfl (f2c (lmI rfl) f20) (emc rfl (f2c (lmI (by simp)) f20) em0)))))) (xmc rfl rfl (f2c (lmI rfl) (f2c (lmI rfl) (f2c (lma rfl rfl) f20))) xm0))⟩
  · refine AW_exit ?_
    refine thE (thE (ibH ?_))
    refine thN ?_
    refine AW_seq ?_
    refine AW_region ?_
    refine sv hT (vL 1 132 0 (((l.take i).map (pageT x)).map eS)) rfl trivial rfl rfl trivial ?_
    refine scall hT [(1, 132, 0)] [] (c_impl_orDash ((l.take i).map (pageT x)) (by rw [List.take_of_length_le (by omega)]; have := lens_map' (pageT x) 64 l (fun a ha => pageT_len (hy1 a ha)); simp only [List.length_map]; omega)) rfl rfl rfl (f2c (ca (f2c (las rfl rfl rfl) f20)) f20) (f2c (cr (f2c lrv f20)) f20) rfl rfl trivial ?_
    refine sv hT (vS (joinT ((l.take i).map (pageT x)))) rfl trivial rfl rfl trivial ?_
    refine rN ?_
    refine AW_ret ?_
    exact (qrR (ends [cS (joinT ((l.take i).map (pageT x)))] [] rfl rfl (f2c (cm (f2c (lmS (by rw [List.take_of_length_le (by omega)])) f20)) f20)))

-- laws.FnExactFormatDepots
theorem c_laws_FnExactFormatDepots (x : Land) (l : List Depot) (hy0 : x.cells.length ≤ 140737488355328 ∧ l.length ≤ 140737488355328) (hy1 : ∀ d ∈ l, d.wf) : Con Tryd.prog 4 [(true, Land.l x 1), cL 2 2 0 (l.map Depot.e)] [cB true] := by
  refine con_mk hT (fn := Tryd.f4) 45 [.tmp 4] [(0, .c ((true, Land.l x 1))), (1, .c (cL 2 2 0 (l.map Depot.e)))] rfl rfl rfl rfl rfl rfl rfl ?_
  refine AW_seq ?_
  refine AW_region ?_
  refine sbox hT ((true, Land.l x 1)) rfl rfl rfl rfl (ls := Land.l x 1) rfl trivial ?_
  refine sv hT (vB false) rfl trivial rfl rfl trivial ?_
  refine rN ?_
  refine AW_seq ?_
  refine AW_region ?_
  refine sv hT (vI 1048576) rfl trivial rfl rfl trivial ?_
  refine rN ?_
  refine AW_seq ?_
  refine AW_region ?_
  refine sv hT (vR (Land.l x 1)) rfl trivial rfl rfl trivial ?_
  refine sv hT (vI 1048576) rfl trivial rfl rfl trivial ?_
  refine scall hT [(1, 1, 0)] [] (c_laws_szLand x 1048576 (by first | exact hy1 | omega | (simp only [szI] at *; split at * <;> first | omega | (split at * <;> omega)))) rfl rfl rfl (f2c (ca (f2c (lav rfl) (f2c (lav rfl) (f2c (las rfl rfl rfl) f20)))) (f2c (ca (f2c (lav rfl) f20)) f20)) (f2c (cr (f2c lrv f20)) f20) rfl rfl trivial ?_
  refine sv hT (vI (szI (x.cells.length : Int) 1048576)) rfl trivial rfl rfl trivial ?_
  refine rN ?_
  refine AW_seq ?_
  refine AW_seq ?_
  refine AW_region ?_
  refine sv hT (vI (szI (x.cells.length : Int) 1048576)) rfl trivial rfl rfl trivial ?_
  refine sv hT (vB (decide ((szI (x.cells.length : Int) 1048576) < 0))) rfl trivial rfl rfl trivial ?_
  refine rN ?_
  refine cnd decide_eq_true_iff rfl (fun h1 => ?_) (fun h1 => ?_)
  · refine AW_seq ?_
    refine AW_region ?_
    refine sv hT (vB true) rfl trivial rfl rfl trivial ?_
    refine rN ?_
    refine AW_ret ?_
    exact thR ((qrR (ends [cB true] [] rfl rfl (f2c (cm (f2c (lmB rfl) f20)) f20))))
  · refine AW_skip ?_
    refine thN ?_
    refine AW_seq ?_
    refine AW_region ?_
    refine sv hT (vL 2 2 0 (l.map Depot.e)) rfl trivial rfl rfl trivial ?_
    refine sv hT (vI (szI (x.cells.length : Int) 1048576)) rfl trivial rfl rfl trivial ?_
    refine scall hT [(1, 2, 0)] [] (c_laws_szDepotS l (szI (x.cells.length : Int) 1048576) (by first | exact hy1 | omega | (simp only [szI] at *; split at * <;> first | omega | (split at * <;> omega)))) rfl rfl rfl (f2c (ca (f2c (las rfl rfl rfl) f20)) (f2c (ca (f2c (lav rfl) f20)) f20)) (f2c (cr (f2c lrv f20)) f20) rfl rfl trivial ?_
    refine sv hT (vI (szI (l.length : Int) (szI (x.cells.length : Int) 1048576))) rfl trivial rfl rfl trivial ?_
    refine rN ?_
    refine AW_seq ?_
    refine AW_seq ?_
    refine AW_region ?_
    refine sv hT (vI (szI (l.length : Int) (szI (x.cells.length : Int) 1048576))) rfl trivial rfl rfl trivial ?_
    refine sv hT (vB (decide ((szI (l.length : Int) (szI (x.cells.length : Int) 1048576)) < 0))) rfl trivial rfl rfl trivial ?_
    refine rN ?_
    refine cnd decide_eq_true_iff rfl (fun h2 => ?_) (fun h2 => ?_)
    · refine AW_seq ?_
      refine AW_region ?_
      refine sv hT (vB true) rfl trivial rfl rfl trivial ?_
      refine rN ?_
      refine AW_ret ?_
      exact thR ((qrR (ends [cB true] [] rfl rfl (f2c (cm (f2c (lmB rfl) f20)) f20))))
    · refine AW_skip ?_
      refine thN ?_
      refine AW_seq ?_
      refine AW_region ?_
      refine sv hT (vR (Land.l x 1)) rfl trivial rfl rfl trivial ?_
      refine scall hT [(1, 1, 0)] [(148, 100)] (c_laws_toLand x (by first | exact hy1 | omega | (simp only [szI] at *; split at * <;> first | omega | (split at * <;> omega)))) rfl rfl rfl (f2c (ca (f2c (lav rfl) (f2c (lav rfl) (f2c (las rfl rfl rfl) f20)))) f20) (f2c (cr (f2c lrv (f2c lrv (f2c (lrn (t := 148) rfl rfl) f20)))) f20) rfl rfl trivial ?_
      refine sv hT (vL 2 2 0 (l.map Depot.e)) rfl trivial rfl rfl trivial ?_
      refine scall hT [(1, 2, 0)] [(164, 100)] (c_laws_toDepotS l (by first | exact hy1 | omega | (simp only [szI] at *; split at * <;> first | omega | (split at * <;> omega)))) rfl rfl rfl (f2c (ca (f2c (las rfl rfl rfl) f20)) f20) (f2c (cr (f2c (lrn (t := 164) rfl rfl) f20)) f20) rfl rfl trivial ?_
      refine scall hT [(1, 148, 0), (2, 164, 0)] [] (c_spec_FormatDepots x l (by first | exact hy1 | omega | (simp only [szI] at *; split at * <;> first | omega | (split at * <;> omega))) (by first | exact hy1 | omega | (simp only [szI] at *; split at * <;> first | omega | (split at * <;> omega)))) rfl rfl rfl (f2c (ca (f2c (lav rfl) (f2c (lav rfl) (f2c (las rfl rfl rfl) f20)))) (f2c (ca (f2c (las rfl rfl rfl) f20)) f20)) (f2c (cr (f2c lrv f20)) f20) rfl rfl trivial ?_
      refine sv hT (vS (joinT (l.map (depT x)))) rfl trivial rfl rfl trivial ?_
      refine rN ?_
      refine AW_seq ?_
      refine AW_region ?_
      refine sv hT (vR (Land.l x 1)) rfl trivial rfl rfl trivial ?_
      refine scall hT [(1, 1, 0)] [(196, 100)] (c_laws_toLand x (by first | exact hy1 | omega | (simp only [szI] at *; split at * <;> first | omega | (split at * <;> omega)))) rfl rfl rfl (f2c (ca (f2c (lav rfl) (f2c (lav rfl) (f2c (las rfl rfl rfl) f20)))) f20) (f2c (cr (f2c lrv (f2c lrv (f2c (lrn (t := 196) rfl rfl) f20)))) f20) rfl rfl trivial ?_
      refine salloc hT rfl rfl rfl rfl (ls := [lI 0, lI 0, .sl 1 0 0 []]) rfl trivial ?_
      refine sst hT (Land.l x 196) rfl rfl rfl rfl rfl rfl rfl rfl trivial ?_
      refine rN ?_
      refine AW_seq ?_
      refine AW_region ?_
      refine sv hT (vL 2 2 0 (l.map Depot.e)) rfl trivial rfl rfl trivial ?_
      refine scall hT [(1, 2, 0)] [(228, 100)] (c_laws_toDepotS l (by first | exact hy1 | omega | (simp only [szI] at *; split at * <;> first | omega | (split at * <;> omega)))) rfl rfl rfl (f2c (ca (f2c (las rfl rfl rfl) f20)) f20) (f2c (cr (f2c (lrn (t := 228) rfl rfl) f20)) f20) rfl rfl trivial ?_
      refine sv hT (vL 2 228 0 (l.map Depot.e)) rfl trivial rfl rfl trivial ?_
      refine rN ?_
      refine AW_seq ?_
      refine AW_region ?_
      refine sv hT (vR (Land.l x 196)) rfl trivial rfl rfl trivial ?_
      refine sv hT (vL 2 228 0 (l.map Depot.e)) rfl trivial rfl rfl trivial ?_
      refine scall hT [(1, 196, 0), (2, 228, 0)] [] (c_impl_FormatDepots x l (by first | exact hy1 | omega | (simp only [szI] at *; split at * <;> first | omega | (split at * <;> omega))) (by first | exact hy1 | omega | (simp only [szI] at *; split at * <;> first | omega | (split at * <;> omega)))) rfl rfl rfl (f2c (ca (f2c (lav rfl) (f2c (lav rfl) (f2c (las rfl rfl rfl) f20)))) (f2c (ca (f2c (las rfl rfl rfl) f20)) f20)) (f2c (cr (f2c lrv f20)) f20) rfl rfl trivial ?_
      refine sv hT (vS (joinT (l.map (depT x)))) rfl trivial rfl rfl trivial ?_
      refine rN ?_
      refine AW_seq ?_
      refine AW_seq ?_
      refine AW_region ?_
      refine sv hT (vS (joinT (l.map (depT x)))) rfl trivial rfl rfl trivial ?_
      refine sv hT (vS (joinT (l.map (depT x)))) rfl trivial rfl rfl trivial ?_
      refine sv hT (vB (!((joinT (l.map (depT x))) == (joinT (l.map (depT x)))))) rfl trivial rfl rfl trivial ?_
      refine rN ?_
      refine cnd (notIff eqStr) rfl (fun h3 => ?_) (fun h3 => ?_)
      · refine AW_seq ?_
        refine AW_region ?_
        refine sv hT (vB false) rfl trivial rfl rfl trivial ?_
        refine rN ?_
        refine AW_ret ?_
        exact thR ((qrR (ends [cB false] [] rfl rfl (f2c (cm (f2c (lmB (by first | rfl | (exfalso; simp_all))) f20)) f20))))
      · refine AW_skip ?_
        refine thN ?_
        refine AW_seq ?_
        refine AW_seq ?_
        refine dstart 340 23 rfl ?_
        refine dv hT (vR (Land.l x 196)) [15] rfl trivial rfl rfl rfl trivial ?_
        refine dv hT (vR (Land.l x 1)) [8] rfl trivial rfl rfl rfl trivial ?_
        refine dcall hT [(1, 1, 0)] [(292, 100)] (c_laws_toLand x (by first | exact hy1 | omega | (simp only [szI] at *; split at * <;> first | omega | (split at * <;> omega)))) rfl rfl rfl (f2c (ca (f2c (lav rfl) (f2c (lav rfl) (f2c (las rfl rfl rfl) f20)))) f20) (f2c (cr (f2c lrv (f2c lrv (f2c (lrn (t := 292) rfl rfl) f20)))) f20) rfl rfl trivial ?_
        refine dcall hT [(1, 196, 0), (2, 292, 0)] [] (c_laws_eqLand x x (by first | exact hy1 | omega | (simp only [szI] at *; split at * <;> first | omega | (split at * <;> omega)))) rfl rfl rfl (f2c (ca (f2c (lav rfl) (f2c (lav rfl) (f2c (las rfl rfl rfl) f20)))) (f2c (ca (f2c (lav rfl) (f2c (lav rfl) (f2c (las rfl rfl rfl) f20)))) f20)) (f2c (cr (f2c lrv f20)) f20) rfl rfl trivial ?_
        refine dv hT (vB (!(decide (x = x)))) [] rfl trivial rfl rfl rfl trivial ?_
        refine dend hm (by kernel_rfl) ?_
        refine thN ?_
        refine cnd (notIff decide_eq_true_iff) rfl (fun h4 => ?_) (fun h4 => ?_)
        · refine AW_seq ?_
          refine AW_region ?_
          refine sv hT (vB false) rfl trivial rfl rfl trivial ?_
          refine rN ?_
          refine AW_ret ?_
          exact thR ((qrR (ends [cB false] [] rfl rfl (f2c (cm (f2c (lmB (by first | rfl | (exfalso; simp_all))) f20)) f20))))
        · refine AW_skip ?_
          refine thN ?_
          refine AW_seq ?_
          refine AW_seq ?_
          refine AW_region ?_
          refine sv hT (vL 2 228 0 (l.map Depot.e)) rfl trivial rfl rfl trivial ?_
          refine sv hT (vL 2 2 0 (l.map Depot.e)) rfl trivial rfl rfl trivial ?_
          refine scall hT [(1, 2, 0)] [(340, 100)] (c_laws_toDepotS l (by first | exact hy1 | omega | (simp only [szI] at *; split at * <;> first | omega | (split at * <;> omega)))) rfl rfl rfl (f2c (ca (f2c (las rfl rfl rfl) f20)) f20) (f2c (cr (f2c (lrn (t := 340) rfl rfl) f20)) f20) rfl rfl trivial ?_
          refine scall hT [(1, 228, 0), (2, 340, 0)] [] (c_laws_eqDepotS l l (by first | exact hy1 | omega | (simp only [szI] at *; split at * <;> first | omega | (split at * <;> omega)))) rfl rfl rfl (f2c (ca (f2c (las rfl rfl rfl) f20)) (f2c (ca (f2c (las rfl rfl rfl) f20)) f20)) (f2c (cr (f2c lrv f20)) f20) rfl rfl trivial ?_
          refine sv hT (vB (!(decide (l = l)))) rfl trivial rfl rfl trivial ?_
          refine rN ?_
          refine cnd (notIff decide_eq_true_iff) rfl (fun h5 => ?_) (fun h5 => ?_)
          · refine AW_seq ?_
            refine AW_region ?_
            refine sv hT (vB false) rfl trivial rfl rfl trivial ?_
            refine rN ?_
            refine AW_ret ?_
            exact thR ((qrR (ends [cB false] [] rfl rfl (f2c (cm (f2c (lmB (by first | rfl | (exfalso; simp_all))) f20)) f20))))
          · refine AW_skip ?_
            refine thN ?_
            refine AW_seq ?_
            refine AW_region ?_
            refine sv hT (vB true) rfl trivial rfl rfl trivial ?_
            refine rN ?_
            refine AW_ret ?_
            exact (qrR (ends [cB true] [] rfl rfl (f2c (cm (f2c (lmB rfl) f20)) f20)))

-- laws.FnExactFormatJournal
theorem c_laws_FnExactFormatJournal (x : Land) (l : List Page) (hy0 : x.cells.length ≤ 140737488355328 ∧ l.length ≤ 140737488355328) (hy1 : ∀ d ∈ l, d.wf) : Con Tryd.prog 5 [(true, Land.l x 1), cL 4 2 0 (l.map Page.e)] [cB true] := by
  refine con_mk hT (fn := Tryd.f5) 45 [.tmp 4] [(0, .c ((true, Land.l x 1))), (1, .c (cL 4 2 0 (l.map Page.e)))] rfl rfl rfl rfl rfl rfl rfl ?_
  refine AW_seq ?_
  refine AW_region ?_
  refine sbox hT ((true, Land.l x 1)) rfl rfl rfl rfl (ls := Land.l x 1) rfl trivial ?_
  refine sv hT (vB false) rfl trivial rfl rfl trivial ?_
  refine rN ?_
  refine AW_seq ?_
  refine AW_region ?_
  refine sv hT (vI 1048576) rfl trivial rfl rfl trivial ?_
  refine rN ?_
  refine AW_seq ?_
  refine AW_region ?_
  refine sv hT (vR (Land.l x 1)) rfl trivial rfl rfl trivial ?_
  refine sv hT (vI 1048576) rfl trivial rfl rfl trivial ?_
  refine scall hT [(1, 1, 0)] [] (c_laws_szLand x 1048576 (by first | exact hy1 | omega | (simp only [szI] at *; split at * <;> first | omega | (split at * <;> omega)))) rfl rfl rfl (f2c (ca (f2c (lav rfl) (f2c (lav rfl) (f2c (las rfl rfl rfl) f20)))) (f2c (ca (f2c (lav rfl) f20)) f20)) (f2c (cr (f2c lrv f20)) f20) rfl rfl trivial ?_
  refine sv hT (vI (szI (x.cells.length : Int) 1048576)) rfl trivial rfl rfl trivial ?_
  refine rN ?_
  refine AW_seq ?_
  refine AW_seq ?_
  refine AW_region ?_
  refine sv hT (vI (szI (x.cells.length : Int) 1048576)) rfl trivial rfl rfl trivial ?_
  refine sv hT (vB (decide ((szI (x.cells.length : Int) 1048576) < 0))) rfl trivial rfl rfl trivial ?_
  refine rN ?_
  refine cnd decide_eq_true_iff rfl (fun h1 => ?_) (fun h1 => ?_)
  · refine AW_seq ?_
    refine AW_region ?_
    refine sv hT (vB true) rfl trivial rfl rfl trivial ?_
    refine rN ?_
    refine AW_ret ?_
    exact thR ((qrR (ends [cB true] [] rfl rfl (f2c (cm (f2c (lmB rfl) f20)) f20))))
  · refine AW_skip ?_
    refine thN ?_
    refine AW_seq ?_
    refine AW_region ?_
    refine sv hT (vL 4 2 0 (l.map Page.e)) rfl trivial rfl rfl trivial ?_
    refine sv hT (vI (szI (x.cells.length : Int) 1048576)) rfl trivial rfl rfl trivial ?_
    refine scall hT [(1, 2, 0)] [] (c_laws_szPageS l (szI (x.cells.length : Int) 1048576) (by first | exact hy1 | omega | (simp only [szI] at *; split at * <;> first | omega | (split at * <;> omega)))) rfl rfl rfl (f2c (ca (f2c (las rfl rfl rfl) f20)) (f2c (ca (f2c (lav rfl) f20)) f20)) (f2c (cr (f2c lrv f20)) f20) rfl rfl trivial ?_
    refine sv hT (vI (szI (l.length : Int) (szI (x.cells.length : Int) 1048576))) rfl trivial rfl rfl trivial ?_
    refine rN ?_
    refine AW_seq ?_
    refine AW_seq ?_
    refine AW_region ?_
    refine sv hT (vI (szI (l.length : Int) (szI (x.cells.length : Int) 1048576))) rfl trivial rfl rfl trivial ?_
    refine sv hT (vB (decide ((szI (l.length : Int) (szI (x.cells.length : Int) 1048576)) < 0))) rfl trivial rfl rfl trivial ?_
    refine rN ?_
    refine cnd decide_eq_true_iff rfl (fun h2 => ?_) (fun h2 => ?_)
    · refine AW_seq ?_
      refine AW_region ?_
      refine sv hT (vB true) rfl trivial rfl rfl trivial ?_
      refine rN ?_
      refine AW_ret ?_
      exact thR ((qrR (ends [cB true] [] rfl rfl (f2c (cm (f2c (lmB rfl) f20)) f20))))
    · refine AW_skip ?_
      refine thN ?_
      refine AW_seq ?_
      refine AW_region ?_
      refine sv hT (vR (Land.l x 1)) rfl trivial rfl rfl trivial ?_
      refine scall hT [(1, 1, 0)] [(148, 100)] (c_laws_toLand x (by first | exact hy1 | omega | (simp only [szI] at *; split at * <;> first | omega | (split at * <;> omega)))) rfl rfl rfl (f2c (ca (f2c (lav rfl) (f2c (lav rfl) (f2c (las rfl rfl rfl) f20)))) f20) (f2c (cr (f2c lrv (f2c lrv (f2c (lrn (t := 148) rfl rfl) f20)))) f20) rfl rfl trivial ?_
      refine sv hT (vL 4 2 0 (l.map Page.e)) rfl trivial rfl rfl trivial ?_
      refine scall hT [(1, 2, 0)] [(164, 100)] (c_laws_toPageS l (by first | exact hy1 | omega | (simp only [szI] at *; split at * <;> first | omega | (split at * <;> omega)))) rfl rfl rfl (f2c (ca (f2c (las rfl rfl rfl) f20)) f20) (f2c (cr (f2c (lrn (t := 164) rfl rfl) f20)) f20) rfl rfl trivial ?_
      refine scall hT [(1, 148, 0), (2, 164, 0)] [] (c_spec_FormatJournal x l (by first | exact hy1 | omega | (simp only [szI] at *; split at * <;> first | omega | (split at * <;> omega))) (by first | exact hy1 | omega | (simp only [szI] at *; split at * <;> first | omega | (split at * <;> omega)))) rfl rfl rfl (f2c (ca (f2c (lav rfl) (f2c (lav rfl) (f2c (las rfl rfl rfl) f20)))) (f2c (ca (f2c (las rfl rfl rfl) f20)) f20)) (f2c (cr (f2c lrv f20)) f20) rfl rfl trivial ?_
      refine sv hT (vS (joinT (l.map (pageT x)))) rfl trivial rfl rfl trivial ?_
      refine rN ?_
      refine AW_seq ?_
      refine AW_region ?_
      refine sv hT (vR (Land.l x 1)) rfl trivial rfl rfl trivial ?_
      refine scall hT [(1, 1, 0)] [(196, 100)] (c_laws_toLand x (by first | exact hy1 | omega | (simp only [szI] at *; split at * <;> first | omega | (split at * <;> omega)))) rfl rfl rfl (f2c (ca (f2c (lav rfl) (f2c (lav rfl) (f2c (las rfl rfl rfl) f20)))) f20) (f2c (cr (f2c lrv (f2c lrv (f2c (lrn (t := 196) rfl rfl) f20)))) f20) rfl rfl trivial ?_
      refine salloc hT rfl rfl rfl rfl (ls := [lI 0, lI 0, .sl 1 0 0 []]) rfl trivial ?_
      refine sst hT (Land.l x 196) rfl rfl rfl rfl rfl rfl rfl rfl trivial ?_
      refine rN ?_
      refine AW_seq ?_
      refine AW_region ?_
      refine sv hT (vL 4 2 0 (l.map Page.e)) rfl trivial rfl rfl trivial ?_
      refine scall hT [(1, 2, 0)] [(228, 100)] (c_laws_toPageS l (by first | exact hy1 | omega | (simp only [szI] at *; split at * <;> first | omega | (split at * <;> omega)))) rfl rfl rfl (f2c (ca (f2c (las rfl rfl rfl) f20)) f20) (f2c (cr (f2c (lrn (t := 228) rfl rfl) f20)) f20) rfl rfl trivial ?_
      refine sv hT (vL 4 228 0 (l.map Page.e)) rfl trivial rfl rfl trivial ?_
      refine rN ?_
      refine AW_seq ?_
      refine AW_region ?_
      refine sv hT (vR (Land.l x 196)) rfl trivial rfl rfl trivial ?_
      refine sv hT (vL 4 228 0 (l.map Page.e)) rfl trivial rfl rfl trivial ?_
      refine scall hT [(1, 196, 0), (2, 228, 0)] [] (c_impl_FormatJournal x l (by first | exact hy1 | omega | (simp only [szI] at *; split at * <;> first | omega | (split at * <;> omega))) (by first | exact hy1 | omega | (simp only [szI] at *; split at * <;> first | omega | (split at * <;> omega)))) rfl rfl rfl (f2c (ca (f2c (lav rfl) (f2c (lav rfl) (f2c (las rfl rfl rfl) f20)))) (f2c (ca (f2c (las rfl rfl rfl) f20)) f20)) (f2c (cr (f2c lrv f20)) f20) rfl rfl trivial ?_
      refine sv hT (vS (joinT (l.map (pageT x)))) rfl trivial rfl rfl trivial ?_
      refine rN ?_
      refine AW_seq ?_
      refine AW_seq ?_
      refine AW_region ?_
      refine sv hT (vS (joinT (l.map (pageT x)))) rfl trivial rfl rfl trivial ?_
      refine sv hT (vS (joinT (l.map (pageT x)))) rfl trivial rfl rfl trivial ?_
      refine sv hT (vB (!((joinT (l.map (pageT x))) == (joinT (l.map (pageT x)))))) rfl trivial rfl rfl trivial ?_
      refine rN ?_
      refine cnd (notIff eqStr) rfl (fun h3 => ?_) (fun h3 => ?_)
      · refine AW_seq ?_
        refine AW_region ?_
        refine sv hT (vB false) rfl trivial rfl rfl trivial ?_
        refine rN ?_
        refine AW_ret ?_
        exact thR ((qrR (ends [cB false] [] rfl rfl (f2c (cm (f2c (lmB (by first | rfl | (exfalso; simp_all))) f20)) f20))))
      · refine AW_skip ?_
        refine thN ?_
        refine AW_seq ?_
        refine AW_seq ?_
        refine dstart 340 23 rfl ?_
        refine dv hT (vR (Land.l x 196)) [15] rfl trivial rfl rfl rfl trivial ?_
        refine dv hT (vR (Land.l x 1)) [8] rfl trivial rfl rfl rfl trivial ?_
        refine dcall hT [(1, 1, 0)] [(292, 100)] (c_laws_toLand x (by first | exact hy1 | omega | (simp only [szI] at *; split at * <;> first | omega | (split at * <;> omega)))) rfl rfl rfl (f2c (ca (f2c (lav rfl) (f2c (lav rfl) (f2c (las rfl rfl rfl) f20)))) f20) (f2c (cr (f2c lrv (f2c lrv (f2c (lrn (t := 292) rfl rfl) f20)))) f20) rfl rfl trivial ?_
        refine dcall hT [(1, 196, 0), (2, 292, 0)] [] (c_laws_eqLand x x (by first | exact hy1 | omega | (simp only [szI] at *; split at * <;> first | omega | (split at * <;> omega)))) rfl rfl rfl (f2c (ca (f2c (lav rfl) (f2c (lav rfl) (f2c (las rfl rfl rfl) f20)))) (f2c (ca (f2c (lav rfl) (f2c (lav rfl) (f2c (las rfl rfl rfl) f20)))) f20)) (f2c (cr (f2c lrv f20)) f20) rfl rfl trivial ?_
        refine dv hT (vB (!(decide (x = x)))) [] rfl trivial rfl rfl rfl trivial ?_
        refine dend hm (by kernel_rfl) ?_
        refine thN ?_
        refine cnd (notIff decide_eq_true_iff) rfl (fun h4 => ?_) (fun h4 => ?_)
        · refine AW_seq ?_
          refine AW_region ?_
          refine sv hT (vB false) rfl trivial rfl rfl trivial ?_
          refine rN ?_
          refine AW_ret ?_
          exact thR ((qrR (ends [cB false] [] rfl rfl (f2c (cm (f2c (lmB (by first | rfl | (exfalso; simp_all))) f20)) f20))))
        · refine AW_skip ?_
          refine thN ?_
          refine AW_seq ?_
          refine AW_seq ?_
          refine AW_region ?_
          refine sv hT (vL 4 228 0 (l.map Page.e)) rfl trivial rfl rfl trivial ?_
          refine sv hT (vL 4 2 0 (l.map Page.e)) rfl trivial rfl rfl trivial ?_
          refine scall hT [(1, 2, 0)] [(340, 100)] (c_laws_toPageS l (by first | exact hy1 | omega | (simp only [szI] at *; split at * <;> first | omega | (split at * <;> omega)))) rfl rfl rfl (f2c (ca (f2c (las rfl rfl rfl) f20)) f20) (f2c (cr (f2c (lrn (t := 340) rfl rfl) f20)) f20) rfl rfl trivial ?_
          refine scall hT [(1, 228, 0), (2, 340, 0)] [] (c_laws_eqPageS l l (by first | exact hy1 | omega | (simp only [szI] at *; split at * <;> first | omega | (split at * <;> omega)))) rfl rfl rfl (f2c (ca (f2c (las rfl rfl rfl) f20)) (f2c (ca (f2c (las rfl rfl rfl) f20)) f20)) (f2c (cr (f2c lrv f20)) f20) rfl rfl trivial ?_
          refine sv hT (vB (!(decide (l = l)))) rfl trivial rfl rfl trivial ?_
          refine rN ?_
          refine cnd (notIff decide_eq_true_iff) rfl (fun h5 => ?_) (fun h5 => ?_)
          · refine AW_seq ?_
            refine AW_region ?_
            refine sv hT (vB false) rfl trivial rfl rfl trivial ?_
            refine rN ?_
            refine AW_ret ?_
            exact thR ((qrR (ends [cB false] [] rfl rfl (f2c (cm (f2c (lmB (by first | rfl | (exfalso; simp_all))) f20)) f20))))
          · refine AW_skip ?_
            refine thN ?_
            refine AW_seq ?_
            refine AW_region ?_
            refine sv hT (vB true) rfl trivial rfl rfl trivial ?_
            refine rN ?_
            refine AW_ret ?_
            exact (qrR (ends [cB true] [] rfl rfl (f2c (cm (f2c (lmB rfl) f20)) f20)))
end Go.Proofs.YtlinhogbnmnhjaaDoor.X.D
