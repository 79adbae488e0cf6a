/- A part of the proof: values, rules, plain laws, types and contracts of the program's functions. No condition beyond the statement's own. -/
import Derived.Test.YtlinhogbnmnhjaaDoorXb
import Derived.Lib.ItoaNum
import Derived.Test.YtlinhogbnmnhjaaDoorProg
namespace Go.Proofs.YtlinhogbnmnhjaaDoor.X.D
open Go Go.Proofs.YtlinhogbnmnhjaaDoor.X Go.RowKit Go.Proofs
set_option linter.unusedVariables false
set_option maxRecDepth 4000
set_option linter.unusedSimpArgs false
def szI (n m : Int) : Int := if m - n < 0 then -1 else m - n

-- laws.szIntS
theorem c_laws_szIntS (l : List Int) (n : Int) (hy0 : l.length ≤ 140737488355328 ∧ n ≤ 1048576 ∧ 0 ≤ n) : Con Tryd.prog 29 [cL 1 1 0 (l.map eI), cI n] [cI (szI (l.length : Int) n)] := by
  refine con_mk hT (fn := Tryd.f29) 12 [.tmp 4] [(0, .c (cL 1 1 0 (l.map eI))), (1, .c (cI n))] rfl rfl rfl rfl rfl rfl rfl ?_
  refine AW_seq ?_
  refine AW_region ?_
  refine sv hT (vI 0) rfl trivial rfl rfl trivial ?_
  refine rN ?_
  refine AW_seq ?_
  refine AW_region ?_
  refine sv hT (vI n) rfl trivial rfl rfl trivial ?_
  refine sv hT (vL 1 1 0 (l.map eI)) rfl trivial rfl rfl trivial ?_
  refine sv hT (vI (l.length : Int)) lenM trivial rfl rfl trivial ?_
  refine sv hT (vI (n - (l.length : Int))) (eqI (wI_id (by omega) (by omega))) trivial rfl rfl trivial ?_
  refine sv hT (vI (n - (l.length : Int))) rfl trivial rfl rfl trivial ?_
  refine rN ?_
  refine AW_seq ?_
  refine AW_seq ?_
  refine AW_region ?_
  refine sv hT (vI (n - (l.length : Int))) rfl trivial rfl rfl trivial ?_
  refine sv hT (vB (decide ((n - (l.length : Int)) < 0))) rfl trivial rfl rfl trivial ?_
  refine rN ?_
  refine cnd decide_eq_true_iff rfl (fun h1 => ?_) (fun h1 => ?_)
  · refine AW_seq ?_
    refine AW_region ?_
    refine sv hT (vI (-1)) rfl trivial rfl rfl trivial ?_
    refine rN ?_
    refine AW_ret ?_
    exact thR ((qrR (ends [cI (-1)] [] rfl rfl (f2c (cm (f2c (lmI (by simp only [szI]; split <;> omega)) f20)) f20))))
  · refine AW_skip ?_
    refine thN ?_
    refine AW_seq ?_
    refine AW_region ?_
    refine sv hT (vI (n - (l.length : Int))) rfl trivial rfl rfl trivial ?_
    refine sv hT (vI (n - (l.length : Int))) rfl trivial rfl rfl trivial ?_
    refine rN ?_
    refine AW_ret ?_
    exact (qrR (ends [cI (n - (l.length : Int))] [] rfl rfl (f2c (cm (f2c (lmI (by simp only [szI]; split <;> omega)) f20)) f20)))

-- laws.szLand
theorem c_laws_szLand (x : Land) (n : Int) (hy0 : x.cells.length ≤ 140737488355328 ∧ n ≤ 1048576 ∧ 0 ≤ n) : Con Tryd.prog 7 [(true, Land.l x 1), cI n] [cI (szI (x.cells.length : Int) n)] := by
  refine con_mk hT (fn := Tryd.f7) 12 [.tmp 4] [(0, .c ((true, Land.l x 1))), (1, .c (cI n))] rfl rfl rfl rfl rfl rfl rfl ?_
  refine AW_seq ?_
  refine AW_region ?_
  refine sbox hT ((true, Land.l x 1)) rfl rfl rfl rfl (ls := Land.l x 1) rfl trivial ?_
  refine sv hT (vI 0) rfl trivial rfl rfl trivial ?_
  refine rN ?_
  refine AW_seq ?_
  refine AW_region ?_
  refine sv hT (vP 8 2) rfl trivial rfl rfl trivial ?_
  refine sv hT (vL 1 1 0 (x.cells.map eI)) rfl trivial rfl rfl trivial ?_
  refine sv hT (vI n) rfl trivial rfl rfl trivial ?_
  refine scall hT [(1, 1, 0)] [] (c_laws_szIntS x.cells n (by omega)) rfl rfl rfl (f2c (ca (f2c (las rfl rfl rfl) f20)) (f2c (ca (f2c (lav rfl) f20)) f20)) (f2c (cr (f2c lrv f20)) f20) rfl rfl trivial ?_
  refine sv hT (vI (szI (x.cells.length : Int) n)) rfl trivial rfl rfl trivial ?_
  refine rN ?_
  refine AW_seq ?_
  refine AW_seq ?_
  refine AW_region ?_
  refine sv hT (vI (szI (x.cells.length : Int) n)) rfl trivial rfl rfl trivial ?_
  refine sv hT (vB (decide ((szI (x.cells.length : Int) n) < 0))) rfl trivial rfl rfl trivial ?_
  refine rN ?_
  refine cnd decide_eq_true_iff rfl (fun h1 => ?_) (fun h1 => ?_)
  · refine AW_seq ?_
    refine AW_region ?_
    refine sv hT (vI (-1)) rfl trivial rfl rfl trivial ?_
    refine rN ?_
    refine AW_ret ?_
    exact thR ((qrR (ends [cI (-1)] [] rfl rfl (f2c (cm (f2c (lmI (by simp only [szI] at *; split at * <;> omega)) f20)) f20))))
  · refine AW_skip ?_
    refine thN ?_
    refine AW_seq ?_
    refine AW_region ?_
    refine sv hT (vI (szI (x.cells.length : Int) n)) rfl trivial rfl rfl trivial ?_
    refine sv hT (vI (szI (x.cells.length : Int) n)) rfl trivial rfl rfl trivial ?_
    refine rN ?_
    refine AW_ret ?_
    exact (qrR (ends [cI (szI (x.cells.length : Int) n)] [] rfl rfl (f2c (cm (f2c (lmI rfl) f20)) f20)))

-- impl.FormatInt
theorem c_impl_FormatInt (n : Int) (hy0 : -9223372036854775808 ≤ n ∧ n ≤ 9223372036854775807) : Con Tryd.prog 36 [cI n] [cS (Lib.itoa n)] := by
  refine con_mk hT (fn := Tryd.f36) 5 [.tmp 2] [(0, .c (cI n))] rfl rfl rfl rfl rfl rfl rfl ?_
  refine AW_seq ?_
  refine AW_region ?_
  refine sv hT (vS []) rfl trivial rfl rfl trivial ?_
  refine rN ?_
  refine AW_seq ?_
  refine AW_region ?_
  refine sv hT (vI n) rfl trivial rfl rfl trivial ?_
  refine scall hT [] [] (c_strconv_Itoa n (by omega)) rfl rfl rfl (f2c (ca (f2c (lav rfl) f20)) f20) (f2c (cr (f2c lrv f20)) f20) rfl rfl trivial ?_
  refine sv hT (vS (Lib.itoa n)) rfl trivial rfl rfl trivial ?_
  refine rN ?_
  refine AW_ret ?_
  exact (qrR (ends [cS (Lib.itoa n)] [] rfl rfl (f2c (cm (f2c (lmS rfl) f20)) f20)))

-- spec.FormatInt
theorem c_spec_FormatInt (n : Int) (hy0 : -9223372036854775808 ≤ n ∧ n ≤ 9223372036854775807) : Con Tryd.prog 34 [cI n] [cS (Lib.itoa n)] := by
  refine con_mk hT (fn := Tryd.f34) 31 [.tmp 2] [(0, .c (cI n))] rfl rfl rfl rfl rfl rfl rfl ?_
  refine AW_seq ?_
  refine AW_region ?_
  refine sv hT (vS []) rfl trivial rfl rfl trivial ?_
  refine rN ?_
  refine AW_seq ?_
  refine AW_seq ?_
  refine AW_region ?_
  refine sv hT (vI n) rfl trivial rfl rfl trivial ?_
  refine sv hT (vB (n == 0)) rfl trivial rfl rfl trivial ?_
  refine rN ?_
  refine cnd beq_iff_eq rfl (fun h1 => ?_) (fun h1 => ?_)
  · refine AW_seq ?_
    refine AW_region ?_
    refine sv hT (vS [48]) rfl trivial rfl rfl trivial ?_
    refine rN ?_
    refine AW_ret ?_
    exact thR ((qrR (ends [cS [48]] [] rfl rfl (f2c (cm (f2c (lmS (by simp [Lib.itoa, h1, Lib.decDigits])) f20)) f20))))
  · refine AW_skip ?_
    refine thN ?_
    refine AW_seq ?_
    refine AW_region ?_
    refine sv hT (vS []) rfl trivial rfl rfl trivial ?_
    refine rN ?_
    refine AW_seq ?_
    refine AW_seq ?_
    refine AW_region ?_
    refine sv hT (vI n) rfl trivial rfl rfl trivial ?_
    refine sv hT (vI n) rfl trivial rfl rfl trivial ?_
    refine rN ?_
    refine AW_block ?_
    refine lp (α := {p : Int × List UInt8 // FI n p.1 p.2}) (fun x' => ⟨[(0, vI n), (2, vS []), (3, vS x'.1.2), (4, vI x'.1.1)], [], 100, 8, 31⟩) (fun x' => x'.1.1.natAbs) ⟨(n, []), FI.init h1 hy0⟩ [] [] (sm rfl (emc rfl (f2c (lmI rfl) f20) (emc rfl (f2c (lmS rfl) f20) (emc rfl (f2c (lmS rfl) f20) (emc rfl (f2c (lmI rfl) f20) em0)))) xm0) (fun x' => ?_)
    obtain ⟨⟨m, s⟩, hi⟩ := x'
    dsimp only at hi
    change AW _ _ _ ⟨[(0, vI n), (2, vS []), (3, vS s), (4, vI m)], [], 100, 8, 31⟩
    refine AW_seq ?_
    refine AW_seq ?_
    refine AW_region ?_
    refine sv hT (vI m) rfl trivial rfl rfl trivial ?_
    refine sv hT (vB (m != 0)) rfl trivial rfl rfl trivial ?_
    refine rN ?_
    refine cnd bne_iff_ne rfl (fun h2 => ?_) (fun h2 => ?_)
    · refine AW_skip ?_
      refine thN ?_
      refine AW_seq ?_
      refine AW_block ?_
      refine AW_seq ?_
      refine AW_region ?_
      refine sv hT (vI m) rfl trivial rfl rfl trivial ?_
      refine sv hT (vI (Int.tmod m 10)) rfl (by omega) rfl rfl trivial ?_
      refine sv hT (vI (Int.tmod m 10)) rfl trivial rfl rfl trivial ?_
      refine rN ?_
      refine join ⟨[(0, vI n), (2, vS []), (3, vS s), (4, vI m), (9, vI m), (10, vB (m != 0)), (13, vI m), (14, vI (Int.tmod m 10)), (5, vI (if (Int.tmod m 10) < 0 then (0 - (Int.tmod m 10)) else (Int.tmod m 10))), (15, vI (Int.tmod m 10)), (16, vB (decide ((Int.tmod m 10) < 0)))], [], 100, 8, 31⟩ ?_ ?_
      · refine AW_seq ?_
        refine AW_region ?_
        refine sv hT (vI (Int.tmod m 10)) rfl trivial rfl rfl trivial ?_
        refine sv hT (vB (decide ((Int.tmod m 10) < 0))) rfl trivial rfl rfl trivial ?_
        refine rN ?_
        refine cnd decide_eq_true_iff rfl (fun h3 => ?_) (fun h3 => ?_)
        · refine AW_region ?_
          refine sv hT (vI (Int.tmod m 10)) rfl trivial rfl rfl trivial ?_
          refine sv hT (vI (0 - (Int.tmod m 10))) (eqI (wI_id (by (have := tmodB m; omega)) (by (have := tmodB m; omega)))) trivial rfl rfl trivial ?_
          refine sv hT (vI (0 - (Int.tmod m 10))) rfl trivial rfl rfl trivial ?_
          refine rE ?_
          exact thN ⟨[], [], (sm rfl (emc rfl (f2c (lmI rfl) f20) (emc rfl (f2c (lmS rfl) f20) (emc rfl (f2c (lmS rfl) f20) (emc rfl (f2c (lmI rfl) f20) (emc rfl (f2c (lmI rfl) f20) (emc rfl (f2c (lmB rfl) f20) (emc rfl (f2c (lmI rfl) f20) (emc rfl (f2c (lmI rfl) f20) (emc rfl (f2c (lmI (by simp only [if_neg h1, if_pos h2, if_pos h3])) f20) (emc rfl (f2c (lmI rfl) f20) (emc rfl (f2c (lmB rfl) f20) em0))))))))))) xm0)⟩
        · refine AW_skip ?_
          exact thN ⟨[], [], (sm rfl (emc rfl (f2c (lmI rfl) f20) (emc rfl (f2c (lmS rfl) f20) (emc rfl (f2c (lmS rfl) f20) (emc rfl (f2c (lmI rfl) f20) (emc rfl (f2c (lmI rfl) f20) (emc rfl (f2c (lmB rfl) f20) (emc rfl (f2c (lmI rfl) f20) (emc rfl (f2c (lmI rfl) f20) (emc rfl (f2c (lmI (by simp only [if_neg h1, if_pos h2, if_neg h3])) f20) (emc rfl (f2c (lmI rfl) f20) (emc rfl (f2c (lmB rfl) f20) em0))))))))))) xm0)⟩
      refine AW_region ?_
      refine sv hT (vI (if (Int.tmod m 10) < 0 then (0 - (Int.tmod m 10)) else (Int.tmod m 10))) rfl trivial rfl rfl trivial ?_
      refine sv hT (vI (48 + (if (Int.tmod m 10) < 0 then (0 - (Int.tmod m 10)) else (Int.tmod m 10)))) (eqI (wI_id (by (have := tmodB m; split <;> omega)) (by (have := tmodB m; split <;> omega)))) trivial rfl rfl trivial ?_
      refine sv hT (.c (false, [.v (.int .u8 (IntKind.u8.wrap (48 + (if (Int.tmod m 10) < 0 then (0 - (Int.tmod m 10)) else (Int.tmod m 10)))))])) rfl trivial rfl rfl trivial ?_
      refine slit hT ([IntKind.u8.wrap (48 + (if (Int.tmod m 10) < 0 then (0 - (Int.tmod m 10)) else (Int.tmod m 10)))].map eU) rfl rfl rfl (z := 1) rfl rfl rfl rfl rfl rfl trivial ?_
      refine sbstr hT (bytesOf [IntKind.u8.wrap (48 + (if (Int.tmod m 10) < 0 then (0 - (Int.tmod m 10)) else (Int.tmod m 10)))]) rfl rfl rfl rfl rfl rfl rfl rfl trivial ?_
      refine sv hT (vS s) rfl trivial rfl rfl trivial ?_
      refine sv hT (vS ((bytesOf [IntKind.u8.wrap (48 + (if (Int.tmod m 10) < 0 then (0 - (Int.tmod m 10)) else (Int.tmod m 10)))]) ++ s)) rfl (by have := hi.len; simp [bytesOf]; omega) rfl rfl trivial ?_
      refine sv hT (vS ((bytesOf [IntKind.u8.wrap (48 + (if (Int.tmod m 10) < 0 then (0 - (Int.tmod m 10)) else (Int.tmod m 10)))]) ++ s)) rfl trivial rfl rfl trivial ?_
      refine rE ?_
      refine ibN ?_
      refine thN ?_
      refine AW_region ?_
      refine sv hT (vI m) rfl trivial rfl rfl trivial ?_
      refine sv hT (vI (Int.tdiv m 10)) (eqI (wI_id (by (have := tdivB hi.2.2.1; omega)) (by (have := tdivB hi.2.2.1; omega)))) (by omega) rfl rfl trivial ?_
      refine sv hT (vI (Int.tdiv m 10)) rfl trivial rfl rfl trivial ?_
      refine rE ?_
      exact thN ⟨⟨(Int.tdiv m 10, bytesOf [IntKind.u8.wrap (48 + (if Int.tmod m 10 < 0 then 0 - Int.tmod m 10 else Int.tmod m 10))] ++ s), hi.step (by omega)⟩, [], [], (by show (Int.tdiv m 10).natAbs < m.natAbs; have := tdiv10 m; omega), (sm rfl (emc rfl (f2c (lmI rfl) f20) (emc rfl (f2c (lmS rfl) f20) (emc rfl (f2c (lmS (by simp)) f20) (emc rfl (f2c (lmI rfl) f20) em0)))) xm0)⟩
    · refine AW_exit ?_
      refine thE (thE (ibH ?_))
      refine thN ?_
      refine AW_seq ?_
      refine AW_seq ?_
      refine AW_region ?_
      refine sv hT (vI n) rfl trivial rfl rfl trivial ?_
      refine sv hT (vB (decide (n < 0))) rfl trivial rfl rfl trivial ?_
      refine rN ?_
      refine cnd decide_eq_true_iff rfl (fun h4 => ?_) (fun h4 => ?_)
      · refine AW_seq ?_
        refine AW_region ?_
        refine sv hT (vS s) rfl trivial rfl rfl trivial ?_
        refine sv hT (vS ([45] ++ s)) rfl (by have := hi.len; simp; omega) rfl rfl trivial ?_
        refine sv hT (vS ([45] ++ s)) rfl trivial rfl rfl trivial ?_
        refine rN ?_
        refine AW_ret ?_
        exact thR ((qrR (ends [cS ([45] ++ s)] [] rfl rfl (f2c (cm (f2c (lmS (by simp only [Lib.itoa]; rw [if_pos (by omega)]; have := hi.2.2.2.1 (by omega); simp [this])) f20)) f20))))
      · refine AW_skip ?_
        refine thN ?_
        refine AW_seq ?_
        refine AW_region ?_
        refine sv hT (vS s) rfl trivial rfl rfl trivial ?_
        refine sv hT (vS s) rfl trivial rfl rfl trivial ?_
        refine rN ?_
        refine AW_ret ?_
        exact (qrR (ends [cS s] [] rfl rfl (f2c (cm (f2c (lmS (by simp only [Lib.itoa]; rw [if_neg (by omega)]; rw [hi.2.2.2.1 (by omega)]; congr 1; omega)) f20)) f20)))

-- spec.l39Join
theorem c_spec_l39Join (l : List (List UInt8)) (hy0 : lens l + l.length ≤ 1099511627776) : Con Tryd.prog 31 [cL 1 1 0 (l.map eS)] [cS (joinT l)] := by
  refine con_mk hT (fn := Tryd.f31) 25 [.tmp 2] [(0, .c (cL 1 1 0 (l.map eS)))] rfl rfl rfl rfl rfl rfl rfl ?_
  refine AW_seq ?_
  refine AW_region ?_
  refine sv hT (vS []) rfl trivial rfl rfl trivial ?_
  refine rN ?_
  refine AW_seq ?_
  refine AW_region ?_
  refine sv hT (vS []) rfl trivial rfl rfl trivial ?_
  refine rN ?_
  refine AW_seq ?_
  refine AW_seq ?_
  refine AW_region ?_
  refine sv hT (vI 0) rfl trivial rfl rfl trivial ?_
  refine rN ?_
  refine AW_block ?_
  refine lp (α := {i : Nat // i ≤ l.length}) (fun x' => ⟨[(0, vL 1 1 0 (l.map eS)), (2, vS []), (3, vS (Lib.join (l.take x'.1) [32])), (4, vI (x'.1 : Int))], [], 100, 8, 25⟩) (fun x' => l.length - x'.1) ⟨0, by omega⟩ [] [] (sm rfl (emc rfl (f2c (lma rfl rfl) f20) (emc rfl (f2c (lmS rfl) f20) (emc rfl (f2c (lmS (by first | exact joinStep (by omega) | simp [Lib.join])) f20) (emc rfl (f2c (lmI (by simp)) f20) em0)))) xm0) (fun x' => ?_)
  obtain ⟨i, hi⟩ := x'
  change AW _ _ _ ⟨[(0, vL 1 1 0 (l.map eS)), (2, vS []), (3, vS (Lib.join (l.take i) [32])), (4, vI (i : Int))], [], 100, 8, 25⟩
  refine AW_seq ?_
  refine AW_seq ?_
  refine AW_region ?_
  refine sv hT (vI (i : Int)) rfl trivial rfl rfl trivial ?_
  refine sv hT (vL 1 1 0 (l.map eS)) rfl trivial rfl rfl trivial ?_
  refine sv hT (vI (l.length : Int)) lenM trivial rfl rfl trivial ?_
  refine sv hT (vB (decide ((i : Int) < (l.length : Int)))) rfl trivial rfl rfl trivial ?_
  refine rN ?_
  refine cnd decide_eq_true_iff rfl (fun h1 => ?_) (fun h1 => ?_)
  · refine AW_skip ?_
    refine thN ?_
    refine AW_seq ?_
    refine AW_block ?_
    refine join ⟨[(0, vL 1 1 0 (l.map eS)), (2, vS []), (3, vS (if (i : Int) > 0 then (Lib.join (l.take i) [32]) ++ [32] else Lib.join (l.take i) [32])), (4, vI (i : Int)), (5, vI (i : Int)), (6, vL 1 1 0 (l.map eS)), (7, vI (l.length : Int)), (8, vB (decide ((i : Int) < (l.length : Int)))), (11, vI (i : Int)), (12, vB (decide ((i : Int) > 0)))], [], 100, 8, 25⟩ ?_ ?_
    · refine AW_seq ?_
      refine AW_region ?_
      refine sv hT (vI (i : Int)) rfl trivial rfl rfl trivial ?_
      refine sv hT (vB (decide ((i : Int) > 0))) rfl trivial rfl rfl trivial ?_
      refine rN ?_
      refine cnd decide_eq_true_iff rfl (fun h2 => ?_) (fun h2 => ?_)
      · refine AW_region ?_
        refine sv hT (vS (Lib.join (l.take i) [32])) rfl trivial rfl rfl trivial ?_
        refine sv hT (vS ((Lib.join (l.take i) [32]) ++ [32])) rfl (by have := joinB l i; simp; omega) rfl rfl trivial ?_
        refine sv hT (vS ((Lib.join (l.take i) [32]) ++ [32])) rfl trivial rfl rfl trivial ?_
        refine rE ?_
        exact thN ⟨[], [], (sm rfl (emc rfl (f2c (lma rfl rfl) f20) (emc rfl (f2c (lmS rfl) f20) (emc rfl (f2c (lmS (by simp only [if_pos h1, if_pos h2])) f20) (emc rfl (f2c (lmI rfl) f20) (emc rfl (f2c (lmI rfl) f20) (emc rfl (f2c (lma rfl rfl) f20) (emc rfl (f2c (lmI rfl) f20) (emc rfl (f2c (lmB rfl) f20) (emc rfl (f2c (lmI rfl) f20) (emc rfl (f2c (lmB rfl) f20) em0)))))))))) xm0)⟩
      · refine AW_skip ?_
        exact thN ⟨[], [], (sm rfl (emc rfl (f2c (lma rfl rfl) f20) (emc rfl (f2c (lmS rfl) f20) (emc rfl (f2c (lmS (by simp only [if_pos h1, if_neg h2])) f20) (emc rfl (f2c (lmI rfl) f20) (emc rfl (f2c (lmI rfl) f20) (emc rfl (f2c (lma rfl rfl) f20) (emc rfl (f2c (lmI rfl) f20) (emc rfl (f2c (lmB rfl) f20) (emc rfl (f2c (lmI rfl) f20) (emc rfl (f2c (lmB rfl) f20) em0)))))))))) xm0)⟩
    refine AW_region ?_
    refine sv hT (vS (if (i : Int) > 0 then (Lib.join (l.take i) [32]) ++ [32] else Lib.join (l.take i) [32])) rfl trivial rfl rfl trivial ?_
    refine sv hT (vL 1 1 0 (l.map eS)) rfl trivial rfl rfl trivial ?_
    refine sv hT (vI (i : Int)) rfl trivial rfl rfl trivial ?_
    refine sv hT (vE 1 1 i 0 (eS (l.getD i []))) (ixM (by omega)) (okM (by omega)) rfl rfl trivial ?_
    refine sv hT (vS (l.getD i [])) rfl trivial rfl rfl trivial ?_
    refine sv hT (vS ((if (i : Int) > 0 then (Lib.join (l.take i) [32]) ++ [32] else Lib.join (l.take i) [32]) ++ (l.getD i []))) rfl (by have := joinB l i; have := lens_getD l i; split <;> simp only [List.length_append, List.length_cons, List.length_nil] <;> omega) rfl rfl trivial ?_
    refine sv hT (vS ((if (i : Int) > 0 then (Lib.join (l.take i) [32]) ++ [32] else Lib.join (l.take i) [32]) ++ (l.getD i []))) rfl trivial rfl rfl trivial ?_
    refine rE ?_
    refine ibN ?_
    refine thN ?_
    refine AW_region ?_
    refine sv hT (vI (i : Int)) rfl trivial rfl rfl trivial ?_
    refine sv hT (vI ((i : Int) + 1)) (eqI (wI_id (by omega) (by omega))) trivial rfl rfl trivial ?_
    refine sv hT (vI ((i : Int) + 1)) rfl trivial rfl rfl trivial ?_
    refine rE ?_
    exact thN ⟨⟨i + 1, by omega⟩, [], [], (by show l.length - (i + 1) < l.length - i; omega), (sm rfl (emc rfl (f2c (lma rfl rfl) f20) (emc rfl (f2c (lmS rfl) f20) (emc rfl (f2c (lmS (by first | exact joinStep (by omega) | simp [Lib.join])) f20) (emc rfl (f2c (lmI (by simp)) f20) em0)))) xm0)⟩
  · refine AW_exit ?_
    refine thE (thE (ibH ?_))
    refine thN ?_
    refine AW_seq ?_
    refine AW_seq ?_
    refine AW_region ?_
    refine sv hT (vL 1 1 0 (l.map eS)) rfl trivial rfl rfl trivial ?_
    refine sv hT (vI (l.length : Int)) lenM trivial rfl rfl trivial ?_
    refine sv hT (vB ((l.length : Int) == 0)) rfl trivial rfl rfl trivial ?_
    refine rN ?_
    refine cnd beq_iff_eq rfl (fun h3 => ?_) (fun h3 => ?_)
    · refine AW_seq ?_
      refine AW_region ?_
      refine sv hT (vS [45]) rfl trivial rfl rfl trivial ?_
      refine rN ?_
      refine AW_ret ?_
      exact thR ((qrR (ends [cS [45]] [] rfl rfl (f2c (cm (f2c (lmS (by unfold joinT; rw [if_pos (by simpa using h3)])) f20)) f20))))
    · refine AW_skip ?_
      refine thN ?_
      refine AW_seq ?_
      refine AW_region ?_
      refine sv hT (vS (Lib.join (l.take i) [32])) rfl trivial rfl rfl trivial ?_
      refine sv hT (vS (Lib.join (l.take i) [32])) rfl trivial rfl rfl trivial ?_
      refine rN ?_
      refine AW_ret ?_
      exact (qrR (ends [cS (Lib.join (l.take i) [32])] [] rfl rfl (f2c (cm (f2c (lmS (by unfold joinT; rw [if_neg (by simpa using h3), List.take_of_length_le (by omega)])) f20)) f20)))

-- impl.orDash
theorem c_impl_orDash (l : List (List UInt8)) (hy0 : lens l + l.length ≤ 1099511627776) : Con Tryd.prog 33 [cL 1 1 0 (l.map eS)] [cS (joinT l)] := by
  refine con_mk hT (fn := Tryd.f33) 8 [.tmp 2] [(0, .c (cL 1 1 0 (l.map eS)))] rfl rfl rfl rfl rfl rfl rfl ?_
  refine AW_seq ?_
  refine AW_region ?_
  refine sv hT (vS []) rfl trivial rfl rfl trivial ?_
  refine rN ?_
  refine AW_seq ?_
  refine AW_seq ?_
  refine AW_region ?_
  refine sv hT (vL 1 1 0 (l.map eS)) rfl trivial rfl rfl trivial ?_
  refine sv hT (vI (l.length : Int)) lenM trivial rfl rfl trivial ?_
  refine sv hT (vB ((l.length : Int) == 0)) rfl trivial rfl rfl trivial ?_
  refine rN ?_
  refine cnd beq_iff_eq rfl (fun h1 => ?_) (fun h1 => ?_)
  · refine AW_seq ?_
    refine AW_region ?_
    refine sv hT (vS [45]) rfl trivial rfl rfl trivial ?_
    refine rN ?_
    refine AW_ret ?_
    exact thR ((qrR (ends [cS [45]] [] rfl rfl (f2c (cm (f2c (lmS (by unfold joinT; rw [if_pos (by simpa using h1)])) f20)) f20))))
  · refine AW_skip ?_
    refine thN ?_
    refine AW_seq ?_
    refine AW_region ?_
    refine sv hT (vL 1 1 0 (l.map eS)) rfl trivial rfl rfl trivial ?_
    refine scall hT [(1, 1, 0)] [] (c_strings_Join l [32] (by have := join_len l; omega)) rfl rfl rfl (f2c (ca (f2c (las rfl rfl rfl) f20)) (f2c (ca (f2c (lav rfl) f20)) f20)) (f2c (cr (f2c lrv f20)) f20) rfl rfl trivial ?_
    refine sv hT (vS (Lib.join l [32])) rfl trivial rfl rfl trivial ?_
    refine rN ?_
    refine AW_ret ?_
    exact (qrR (ends [cS (Lib.join l [32])] [] rfl rfl (f2c (cm (f2c (lmS (by unfold joinT; rw [if_neg (by simpa using h1)])) f20)) f20)))

-- laws.toIntS
theorem c_laws_toIntS (l : List Int) (hy0 : l.length ≤ 1048576) : Con Tryd.prog 10 [cL 1 1 0 (l.map eI)] [cL 1 100 0 (l.map eI)] := by
  refine con_mk hT (fn := Tryd.f10) 22 [.tmp 2] [(0, .c (cL 1 1 0 (l.map eI)))] rfl rfl rfl rfl rfl rfl rfl ?_
  refine AW_seq ?_
  refine AW_region ?_
  refine sv hT (vL 1 0 0 []) rfl trivial rfl rfl trivial ?_
  refine rN ?_
  refine AW_seq ?_
  refine AW_region ?_
  refine sv hT (vL 1 1 0 (l.map eI)) rfl trivial rfl rfl trivial ?_
  refine sv hT (vI (l.length : Int)) lenM trivial rfl rfl trivial ?_
  refine smake hT ((List.replicate l.length 0).map eI) rfl rfl rfl (z := 1) rfl rfl rfl rfl rfl ⟨by omega, rfl, by show (8 : Int) * _ ≤ _; omega, by omega⟩ (by simp []) rfl rfl trivial ?_
  refine sv hT (vL 1 100 0 ((List.replicate l.length 0).map eI)) rfl trivial rfl rfl trivial ?_
  refine rN ?_
  refine AW_seq ?_
  refine AW_seq ?_
  refine AW_region ?_
  refine sv hT (vI 0) rfl trivial rfl rfl trivial ?_
  refine rN ?_
  refine AW_block ?_
  refine lp (α := {i : Nat // i ≤ l.length}) (fun x' => ⟨[(0, vL 1 1 0 (l.map eI)), (2, vL 1 0 0 []), (3, vL 1 100 0 ((l.take x'.1 ++ List.replicate (l.length - x'.1) 0).map eI)), (4, vI (x'.1 : Int))], [], 180, 9, 22⟩) (fun x' => l.length - x'.1) ⟨0, by omega⟩ [(100, 100, 0)] [] (sm rfl (emc rfl (f2c (lma rfl rfl) f20) (emc rfl (f2c (lma rfl rfl) f20) (emc rfl (f2c (lmo (by first | rfl | exact congrArg (List.map eI) (setStep (by omega))) rfl rfl rfl) f20) (emc rfl (f2c (lmI (by simp)) f20) em0)))) xm0) (fun x' => ?_)
  obtain ⟨i, hi⟩ := x'
  change AW _ _ _ ⟨[(0, vL 1 1 0 (l.map eI)), (2, vL 1 0 0 []), (3, vL 1 100 0 ((l.take i ++ List.replicate (l.length - i) 0).map eI)), (4, vI (i : Int))], [], 180, 9, 22⟩
  refine AW_seq ?_
  refine AW_seq ?_
  refine AW_region ?_
  refine sv hT (vI (i : Int)) rfl trivial rfl rfl trivial ?_
  refine sv hT (vL 1 1 0 (l.map eI)) rfl trivial rfl rfl trivial ?_
  refine sv hT (vI (l.length : Int)) lenM trivial rfl rfl trivial ?_
  refine sv hT (vB (decide ((i : Int) < (l.length : Int)))) rfl trivial rfl rfl trivial ?_
  refine rN ?_
  refine cnd decide_eq_true_iff rfl (fun h1 => ?_) (fun h1 => ?_)
  · refine AW_skip ?_
    refine thN ?_
    refine AW_seq ?_
    refine AW_block ?_
    refine AW_region ?_
    refine sv hT (vL 1 100 0 ((l.take i ++ List.replicate (l.length - i) 0).map eI)) rfl trivial rfl rfl trivial ?_
    refine sv hT (vI (i : Int)) rfl trivial rfl rfl trivial ?_
    refine sv hT (vL 1 1 0 (l.map eI)) rfl trivial rfl rfl trivial ?_
    refine sv hT (vI (i : Int)) rfl trivial rfl rfl trivial ?_
    refine sv hT (vE 1 1 i 0 (eI (l.getD i 0))) (ixM (by omega)) (okM (by omega)) rfl rfl trivial ?_
    refine sv hT (vI (l.getD i 0)) rfl trivial rfl rfl trivial ?_
    refine sv hT (vE 1 100 i 0 (eI ((l.take i ++ List.replicate (l.length - i) 0 : List Int).getD i 0))) (ixM (by (simp only [List.length_append, List.length_replicate, List.length_take]; omega))) (okM (by (simp only [List.length_append, List.length_replicate, List.length_take]; omega))) rfl rfl trivial ?_
    refine ssek hT [Value.int .i64 (l.getD i 0)] [(3, vL 1 100 0 (((l.take i ++ List.replicate (l.length - i) 0).set i (l.getD i 0)).map eI)), (14, vL 1 100 0 (((l.take i ++ List.replicate (l.length - i) 0).set i (l.getD i 0)).map eI)), (20, .u)] rfl rfl rfl rfl rfl rfl rfl rfl (fun p hp => by simp only [List.mem_cons, List.not_mem_nil, or_false] at hp; rcases hp with rfl | rfl | rfl <;> first | exact .inl rfl | exact .inr (updOk _)) trivial ?_
    refine rE ?_
    refine ibN ?_
    refine thN ?_
    refine AW_region ?_
    refine sv hT (vI (i : Int)) rfl trivial rfl rfl trivial ?_
    refine sv hT (vI ((i : Int) + 1)) (eqI (wI_id (by omega) (by omega))) trivial rfl rfl trivial ?_
    refine sv hT (vI ((i : Int) + 1)) rfl trivial rfl rfl trivial ?_
    refine rE ?_
    exact thN ⟨⟨i + 1, by omega⟩, [(100, 100, 0)], [], (by show l.length - (i + 1) < l.length - i; omega), (sm rfl (emc rfl (f2c (lma rfl rfl) f20) (emc rfl (f2c (lma rfl rfl) f20) (emc rfl (f2c (lmo (by first | rfl | exact congrArg (List.map eI) (setStep (by omega))) rfl rfl rfl) f20) (emc rfl (f2c (lmI (by simp)) f20) em0)))) xm0)⟩
  · refine AW_exit ?_
    refine thE (thE (ibH ?_))
    refine thN ?_
    refine AW_seq ?_
    refine AW_region ?_
    refine sv hT (vL 1 100 0 ((l.take i ++ List.replicate (l.length - i) 0).map eI)) rfl trivial rfl rfl trivial ?_
    refine sv hT (vL 1 100 0 ((l.take i ++ List.replicate (l.length - i) 0).map eI)) rfl trivial rfl rfl trivial ?_
    refine rN ?_
    refine AW_ret ?_
    exact (qrR (ends [cL 1 100 0 ((l.take i ++ List.replicate (l.length - i) 0).map eI)] [(100, 100, 0)] rfl rfl (f2c (cm (f2c (lmo (by exact congrArg (List.map eI) (by rw [List.take_of_length_le (by omega), show l.length - i = 0 by omega]; simp)) rfl rfl rfl) f20)) f20)))

-- laws.toLand
theorem c_laws_toLand (x : Land) (hy0 : x.cells.length ≤ 1048576) : Con Tryd.prog 9 [(true, Land.l x 1)] [(true, Land.l x 100)] := by
  refine con_mk hT (fn := Tryd.f9) 15 [.cell 2 27] [(0, .c ((true, Land.l x 1)))] rfl rfl rfl rfl rfl rfl rfl ?_
  refine AW_seq ?_
  refine AW_region ?_
  refine sbox hT ((true, Land.l x 1)) rfl rfl rfl rfl (ls := Land.l x 1) rfl trivial ?_
  refine salloc hT rfl rfl rfl rfl (ls := [lI 0, lI 0, .sl 1 0 0 []]) rfl trivial ?_
  refine rN ?_
  refine AW_seq ?_
  refine AW_region ?_
  refine salloc hT rfl rfl rfl rfl (ls := [lI 0, lI 0, .sl 1 0 0 []]) rfl trivial ?_
  refine rN ?_
  refine AW_seq ?_
  refine AW_region ?_
  refine sv hT (vP 8 0) rfl trivial rfl rfl trivial ?_
  refine sv hT (vI x.w) rfl trivial rfl rfl trivial ?_
  refine sv hT (vP 10 0) rfl trivial rfl rfl trivial ?_
  refine sst hT [lI x.w, lI 0, .sl 1 0 0 []] rfl rfl rfl rfl rfl rfl rfl rfl trivial ?_
  refine rN ?_
  refine AW_seq ?_
  refine AW_region ?_
  refine sv hT (vP 8 1) rfl trivial rfl rfl trivial ?_
  refine sv hT (vI x.h) rfl trivial rfl rfl trivial ?_
  refine sv hT (vP 10 1) rfl trivial rfl rfl trivial ?_
  refine sst hT [lI x.w, lI x.h, .sl 1 0 0 []] rfl rfl rfl rfl rfl rfl rfl rfl trivial ?_
  refine rN ?_
  refine AW_seq ?_
  refine AW_region ?_
  refine sv hT (vP 8 2) rfl trivial rfl rfl trivial ?_
  refine sv hT (vL 1 1 0 (x.cells.map eI)) rfl trivial rfl rfl trivial ?_
  refine scall hT [(1, 1, 0)] [(148, 100)] (c_laws_toIntS x.cells (by omega)) rfl rfl rfl (f2c (ca (f2c (las rfl rfl rfl) f20)) f20) (f2c (cr (f2c (lrn (t := 148) rfl rfl) f20)) f20) rfl rfl trivial ?_
  refine sv hT (vP 10 2) rfl trivial rfl rfl trivial ?_
  refine sst hT (Land.l x 148) rfl rfl rfl rfl rfl rfl rfl rfl trivial ?_
  refine rN ?_
  refine AW_seq ?_
  refine AW_region ?_
  refine sv hT (vR (Land.l x 148)) rfl trivial rfl rfl trivial ?_
  refine sst hT (Land.l x 148) rfl rfl rfl rfl rfl rfl rfl rfl trivial ?_
  refine rN ?_
  refine AW_ret ?_
  exact (qrR (ends [(true, Land.l x 148)] [(100, 148, 0)] rfl rfl (f2c (cm (f2c (lmI rfl) (f2c (lmI rfl) (f2c (lmo rfl rfl rfl rfl) f20)))) f20)))

-- laws.eqIntS
theorem c_laws_eqIntS (a : List Int) (b : List Int) (hy0 : a.length ≤ 140737488355328) : Con Tryd.prog 13 [cL 1 1 0 (a.map eI), cL 1 2 0 (b.map eI)] [cB (decide (a = b))] := by
  refine con_mk hT (fn := Tryd.f13) 26 [.tmp 4] [(0, .c (cL 1 1 0 (a.map eI))), (1, .c (cL 1 2 0 (b.map eI)))] rfl rfl rfl rfl rfl rfl rfl ?_
  refine AW_seq ?_
  refine AW_region ?_
  refine sv hT (vB false) rfl trivial rfl rfl trivial ?_
  refine rN ?_
  refine AW_seq ?_
  refine AW_seq ?_
  refine AW_region ?_
  refine sv hT (vL 1 1 0 (a.map eI)) rfl trivial rfl rfl trivial ?_
  refine sv hT (vI (a.length : Int)) lenM trivial rfl rfl trivial ?_
  refine sv hT (vL 1 2 0 (b.map eI)) rfl trivial rfl rfl trivial ?_
  refine sv hT (vI (b.length : Int)) lenM trivial rfl rfl trivial ?_
  refine sv hT (vB ((a.length : Int) != (b.length : Int))) rfl trivial rfl rfl trivial ?_
  refine rN ?_
  refine cnd bne_iff_ne rfl (fun h1 => ?_) (fun h1 => ?_)
  · refine AW_seq ?_
    refine AW_region ?_
    refine sv hT (vB false) rfl trivial rfl rfl trivial ?_
    refine rN ?_
    refine AW_ret ?_
    exact thR ((qrR (ends [cB false] [] rfl rfl (f2c (cm (f2c (lmB (by exact (decide_eq_false (fun h => h1 (by rw [h]))).symm)) f20)) f20))))
  · refine AW_skip ?_
    refine thN ?_
    refine AW_seq ?_
    refine AW_seq ?_
    refine AW_region ?_
    refine sv hT (vI 0) rfl trivial rfl rfl trivial ?_
    refine rN ?_
    refine AW_block ?_
    refine lp (α := {i : Nat // i ≤ a.length ∧ a.take i = b.take i}) (fun x' => ⟨[(0, vL 1 1 0 (a.map eI)), (1, vL 1 2 0 (b.map eI)), (5, vI (x'.1 : Int))], [], 100, 8, 26⟩) (fun x' => a.length - x'.1) ⟨0, by omega, rfl⟩ [] [] (sm rfl (emc rfl (f2c (lma rfl rfl) f20) (emc rfl (f2c (lma rfl rfl) f20) (emc rfl (f2c (lmI (by simp)) f20) em0))) xm0) (fun x' => ?_)
    obtain ⟨i, hi1, hi2⟩ := x'
    change AW _ _ _ ⟨[(0, vL 1 1 0 (a.map eI)), (1, vL 1 2 0 (b.map eI)), (5, vI (i : Int))], [], 100, 8, 26⟩
    refine AW_seq ?_
    refine AW_seq ?_
    refine AW_region ?_
    refine sv hT (vI (i : Int)) rfl trivial rfl rfl trivial ?_
    refine sv hT (vL 1 1 0 (a.map eI)) rfl trivial rfl rfl trivial ?_
    refine sv hT (vI (a.length : Int)) lenM trivial rfl rfl trivial ?_
    refine sv hT (vB (decide ((i : Int) < (a.length : Int)))) rfl trivial rfl rfl trivial ?_
    refine rN ?_
    refine cnd decide_eq_true_iff rfl (fun h2 => ?_) (fun h2 => ?_)
    · refine AW_skip ?_
      refine thN ?_
      refine AW_seq ?_
      refine AW_block ?_
      refine AW_seq ?_
      refine dstart 244 17 rfl ?_
      refine dv hT (vL 1 1 0 (a.map eI)) [] rfl trivial rfl rfl rfl trivial ?_
      refine dv hT (vI (i : Int)) [] rfl trivial rfl rfl rfl trivial ?_
      refine dv hT (vE 1 1 i 0 (eI (a.getD i 0))) [] (ixM (by omega)) (okM (by omega)) rfl rfl rfl trivial ?_
      refine dv hT (vI (a.getD i 0)) [] rfl trivial rfl rfl rfl trivial ?_
      refine dv hT (vL 1 2 0 (b.map eI)) [] rfl trivial rfl rfl rfl trivial ?_
      refine dv hT (vI (i : Int)) [] rfl trivial rfl rfl rfl trivial ?_
      refine dv hT (vE 1 2 i 0 (eI (b.getD i 0))) [] (ixM (by omega)) (okM (by omega)) rfl rfl rfl trivial ?_
      refine dv hT (vI (b.getD i 0)) [] rfl trivial rfl rfl rfl trivial ?_
      refine dv hT (vB ((a.getD i 0) != (b.getD i 0))) [] rfl trivial rfl rfl rfl trivial ?_
      refine dend hm (by kernel_rfl) ?_
      refine thN ?_
      refine cnd bne_iff_ne rfl (fun h3 => ?_) (fun h3 => ?_)
      · refine AW_seq ?_
        refine AW_region ?_
        refine sv hT (vB false) rfl trivial rfl rfl trivial ?_
        refine rN ?_
        refine AW_ret ?_
        exact ibR (thR (thR (ibR (thR ((qrR (ends [cB false] [] rfl rfl (f2c (cm (f2c (lmB (by exact (decide_eq_false (fun h => absurd (by rw [h]) h3)).symm)) f20)) f20))))))))
      · refine AW_skip ?_
        refine ibN ?_
        refine thN ?_
        refine AW_region ?_
        refine sv hT (vI (i : Int)) rfl trivial rfl rfl trivial ?_
        refine sv hT (vI ((i : Int) + 1)) (eqI (wI_id (by omega) (by omega))) trivial rfl rfl trivial ?_
        refine sv hT (vI ((i : Int) + 1)) rfl trivial rfl rfl trivial ?_
        refine rE ?_
        exact thN ⟨⟨i + 1, by omega, eqTake (d := 0) hi2 (by omega) (by omega) (by omega)⟩, [], [], (by show a.length - (i + 1) < a.length - i; omega), (sm rfl (emc rfl (f2c (lma rfl rfl) f20) (emc rfl (f2c (lma rfl rfl) f20) (emc rfl (f2c (lmI (by simp)) f20) em0))) xm0)⟩
    · refine AW_exit ?_
      refine thE (thE (ibH ?_))
      refine thN ?_
      refine AW_seq ?_
      refine AW_region ?_
      refine sv hT (vB true) rfl trivial rfl rfl trivial ?_
      refine rN ?_
      refine AW_ret ?_
      exact (qrR (ends [cB true] [] rfl rfl (f2c (cm (f2c (lmB (by exact (decide_eq_true (eqOf hi2 (by omega) (by omega))).symm)) f20)) f20)))

-- laws.eqLand
theorem c_laws_eqLand (x : Land) (y : Land) (hy0 : x.cells.length ≤ 140737488355328) : Con Tryd.prog 12 [(true, Land.l x 1), (true, Land.l y 2)] [cB (decide (x = y))] := by
  refine con_mk hT (fn := Tryd.f12) 21 [.tmp 4] [(0, .c ((true, Land.l x 1))), (1, .c ((true, Land.l y 2)))] rfl rfl rfl rfl rfl rfl rfl ?_
  refine AW_seq ?_
  refine AW_region ?_
  refine sbox hT ((true, Land.l x 1)) rfl rfl rfl rfl (ls := Land.l x 1) rfl trivial ?_
  refine sbox hT ((true, Land.l y 2)) rfl rfl rfl rfl (ls := Land.l y 2) rfl trivial ?_
  refine sv hT (vB false) rfl trivial rfl rfl trivial ?_
  refine rN ?_
  refine AW_seq ?_
  refine AW_seq ?_
  refine AW_region ?_
  refine sv hT (vP 8 0) rfl trivial rfl rfl trivial ?_
  refine sv hT (vI x.w) rfl trivial rfl rfl trivial ?_
  refine sv hT (vP 9 0) rfl trivial rfl rfl trivial ?_
  refine sv hT (vI y.w) rfl trivial rfl rfl trivial ?_
  refine sv hT (vB (x.w != y.w)) rfl trivial rfl rfl trivial ?_
  refine rN ?_
  refine cnd bne_iff_ne rfl (fun h1 => ?_) (fun h1 => ?_)
  · refine AW_seq ?_
    refine AW_region ?_
    refine sv hT (vB false) rfl trivial rfl rfl trivial ?_
    refine rN ?_
    refine AW_ret ?_
    exact thR ((qrR (ends [cB false] [] rfl rfl (f2c (cm (f2c (lmB (by exact (decide_eq_false (fun h => absurd (by rw [h]) h1)).symm)) f20)) f20))))
  · refine AW_skip ?_
    refine thN ?_
    refine AW_seq ?_
    refine AW_seq ?_
    refine AW_region ?_
    refine sv hT (vP 8 1) rfl trivial rfl rfl trivial ?_
    refine sv hT (vI x.h) rfl trivial rfl rfl trivial ?_
    refine sv hT (vP 9 1) rfl trivial rfl rfl trivial ?_
    refine sv hT (vI y.h) rfl trivial rfl rfl trivial ?_
    refine sv hT (vB (x.h != y.h)) rfl trivial rfl rfl trivial ?_
    refine rN ?_
    refine cnd bne_iff_ne rfl (fun h2 => ?_) (fun h2 => ?_)
    · refine AW_seq ?_
      refine AW_region ?_
      refine sv hT (vB false) rfl trivial rfl rfl trivial ?_
      refine rN ?_
      refine AW_ret ?_
      exact thR ((qrR (ends [cB false] [] rfl rfl (f2c (cm (f2c (lmB (by exact (decide_eq_false (fun h => absurd (by rw [h]) h2)).symm)) f20)) f20))))
    · refine AW_skip ?_
      refine thN ?_
      refine AW_seq ?_
      refine AW_seq ?_
      refine AW_region ?_
      refine sv hT (vP 8 2) rfl trivial rfl rfl trivial ?_
      refine sv hT (vL 1 1 0 (x.cells.map eI)) rfl trivial rfl rfl trivial ?_
      refine sv hT (vP 9 2) rfl trivial rfl rfl trivial ?_
      refine sv hT (vL 1 2 0 (y.cells.map eI)) rfl trivial rfl rfl trivial ?_
      refine scall hT [(1, 1, 0), (2, 2, 0)] [] (c_laws_eqIntS x.cells y.cells (by omega)) rfl rfl rfl (f2c (ca (f2c (las rfl rfl rfl) f20)) (f2c (ca (f2c (las rfl rfl rfl) f20)) f20)) (f2c (cr (f2c lrv f20)) f20) rfl rfl trivial ?_
      refine sv hT (vB (!(decide (x.cells = y.cells)))) rfl trivial rfl rfl trivial ?_
      refine rN ?_
      refine cnd (notIff decide_eq_true_iff) rfl (fun h3 => ?_) (fun h3 => ?_)
      · refine AW_seq ?_
        refine AW_region ?_
        refine sv hT (vB false) rfl trivial rfl rfl trivial ?_
        refine rN ?_
        refine AW_ret ?_
        exact thR ((qrR (ends [cB false] [] rfl rfl (f2c (cm (f2c (lmB (by exact (decide_eq_false (fun h => absurd (by rw [h]) h3)).symm)) f20)) f20))))
      · refine AW_skip ?_
        refine thN ?_
        refine AW_seq ?_
        refine AW_region ?_
        refine sv hT (vB true) rfl trivial rfl rfl trivial ?_
        refine rN ?_
        refine AW_ret ?_
        exact (qrR (ends [cB true] [] rfl rfl (f2c (cm (f2c (lmB (by exact (decide_eq_true (Land.ext' (by omega) (by omega) (by simpa using h3))).symm)) f20)) f20)))

-- laws.szDepotS
theorem c_laws_szDepotS (l : List Depot) (n : Int) (hy0 : l.length ≤ 140737488355328 ∧ n ≤ 1048576 ∧ 0 ≤ n) : Con Tryd.prog 14 [cL 2 1 0 (l.map Depot.e), cI n] [cI (szI (l.length : Int) n)] := by
  refine con_mk hT (fn := Tryd.f14) 12 [.tmp 4] [(0, .c (cL 2 1 0 (l.map Depot.e))), (1, .c (cI n))] rfl rfl rfl rfl rfl rfl rfl ?_
  refine AW_seq ?_
  refine AW_region ?_
  refine sv hT (vI 0) rfl trivial rfl rfl trivial ?_
  refine rN ?_
  refine AW_seq ?_
  refine AW_region ?_
  refine sv hT (vI n) rfl trivial rfl rfl trivial ?_
  refine sv hT (vL 2 1 0 (l.map Depot.e)) rfl trivial rfl rfl trivial ?_
  refine sv hT (vI (l.length : Int)) lenM trivial rfl rfl trivial ?_
  refine sv hT (vI (n - (l.length : Int))) (eqI (wI_id (by omega) (by omega))) trivial rfl rfl trivial ?_
  refine sv hT (vI (n - (l.length : Int))) rfl trivial rfl rfl trivial ?_
  refine rN ?_
  refine AW_seq ?_
  refine AW_seq ?_
  refine AW_region ?_
  refine sv hT (vI (n - (l.length : Int))) rfl trivial rfl rfl trivial ?_
  refine sv hT (vB (decide ((n - (l.length : Int)) < 0))) rfl trivial rfl rfl trivial ?_
  refine rN ?_
  refine cnd decide_eq_true_iff rfl (fun h1 => ?_) (fun h1 => ?_)
  · refine AW_seq ?_
    refine AW_region ?_
    refine sv hT (vI (-1)) rfl trivial rfl rfl trivial ?_
    refine rN ?_
    refine AW_ret ?_
    exact thR ((qrR (ends [cI (-1)] [] rfl rfl (f2c (cm (f2c (lmI (by simp only [szI]; split <;> omega)) f20)) f20))))
  · refine AW_skip ?_
    refine thN ?_
    refine AW_seq ?_
    refine AW_region ?_
    refine sv hT (vI (n - (l.length : Int))) rfl trivial rfl rfl trivial ?_
    refine sv hT (vI (n - (l.length : Int))) rfl trivial rfl rfl trivial ?_
    refine rN ?_
    refine AW_ret ?_
    exact (qrR (ends [cI (n - (l.length : Int))] [] rfl rfl (f2c (cm (f2c (lmI (by simp only [szI]; split <;> omega)) f20)) f20)))

-- laws.szPageS
theorem c_laws_szPageS (l : List Page) (n : Int) (hy0 : l.length ≤ 140737488355328 ∧ n ≤ 1048576 ∧ 0 ≤ n) : Con Tryd.prog 19 [cL 4 1 0 (l.map Page.e), cI n] [cI (szI (l.length : Int) n)] := by
  refine con_mk hT (fn := Tryd.f19) 12 [.tmp 4] [(0, .c (cL 4 1 0 (l.map Page.e))), (1, .c (cI n))] rfl rfl rfl rfl rfl rfl rfl ?_
  refine AW_seq ?_
  refine AW_region ?_
  refine sv hT (vI 0) rfl trivial rfl rfl trivial ?_
  refine rN ?_
  refine AW_seq ?_
  refine AW_region ?_
  refine sv hT (vI n) rfl trivial rfl rfl trivial ?_
  refine sv hT (vL 4 1 0 (l.map Page.e)) rfl trivial rfl rfl trivial ?_
  refine sv hT (vI (l.length : Int)) lenM trivial rfl rfl trivial ?_
  refine sv hT (vI (n - (l.length : Int))) (eqI (wI_id (by omega) (by omega))) trivial rfl rfl trivial ?_
  refine sv hT (vI (n - (l.length : Int))) rfl trivial rfl rfl trivial ?_
  refine rN ?_
  refine AW_seq ?_
  refine AW_seq ?_
  refine AW_region ?_
  refine sv hT (vI (n - (l.length : Int))) rfl trivial rfl rfl trivial ?_
  refine sv hT (vB (decide ((n - (l.length : Int)) < 0))) rfl trivial rfl rfl trivial ?_
  refine rN ?_
  refine cnd decide_eq_true_iff rfl (fun h1 => ?_) (fun h1 => ?_)
  · refine AW_seq ?_
    refine AW_region ?_
    refine sv hT (vI (-1)) rfl trivial rfl rfl trivial ?_
    refine rN ?_
    refine AW_ret ?_
    exact thR ((qrR (ends [cI (-1)] [] rfl rfl (f2c (cm (f2c (lmI (by simp only [szI]; split <;> omega)) f20)) f20))))
  · refine AW_skip ?_
    refine thN ?_
    refine AW_seq ?_
    refine AW_region ?_
    refine sv hT (vI (n - (l.length : Int))) rfl trivial rfl rfl trivial ?_
    refine sv hT (vI (n - (l.length : Int))) rfl trivial rfl rfl trivial ?_
    refine rN ?_
    refine AW_ret ?_
    exact (qrR (ends [cI (n - (l.length : Int))] [] rfl rfl (f2c (cm (f2c (lmI (by simp only [szI]; split <;> omega)) f20)) f20)))

-- laws.toDepot
theorem c_laws_toDepot (x : Depot) : Con Tryd.prog 35 [(true, Depot.l x)] [(true, Depot.l x)] := by
  refine con_mk hT (fn := Tryd.f35) 11 [.cell 2 71] [(0, .c ((true, Depot.l x)))] rfl rfl rfl rfl rfl rfl rfl ?_
  refine AW_seq ?_
  refine AW_region ?_
  refine sbox hT ((true, Depot.l x)) rfl rfl rfl rfl (ls := Depot.l x) rfl trivial ?_
  refine salloc hT rfl rfl rfl rfl (ls := [lI 0, lI 0]) rfl trivial ?_
  refine rN ?_
  refine AW_seq ?_
  refine AW_region ?_
  refine salloc hT rfl rfl rfl rfl (ls := [lI 0, lI 0]) rfl trivial ?_
  refine rN ?_
  refine AW_seq ?_
  refine AW_region ?_
  refine sv hT (vP 8 0) rfl trivial rfl rfl trivial ?_
  refine sv hT (vI x.cell) rfl trivial rfl rfl trivial ?_
  refine sv hT (vP 10 0) rfl trivial rfl rfl trivial ?_
  refine sst hT [lI x.cell, lI 0] rfl rfl rfl rfl rfl rfl rfl rfl trivial ?_
  refine rN ?_
  refine AW_seq ?_
  refine AW_region ?_
  refine sv hT (vP 8 1) rfl trivial rfl rfl trivial ?_
  refine sv hT (vI x.food) rfl trivial rfl rfl trivial ?_
  refine sv hT (vP 10 1) rfl trivial rfl rfl trivial ?_
  refine sst hT (Depot.l x) rfl rfl rfl rfl rfl rfl rfl rfl trivial ?_
  refine rN ?_
  refine AW_seq ?_
  refine AW_region ?_
  refine sv hT (vR (Depot.l x)) rfl trivial rfl rfl trivial ?_
  refine sst hT (Depot.l x) rfl rfl rfl rfl rfl rfl rfl rfl trivial ?_
  refine rN ?_
  refine AW_ret ?_
  exact (qrR (ends [(true, Depot.l x)] [] rfl rfl (f2c (cm (f2c (lmI rfl) (f2c (lmI rfl) f20))) f20)))

-- laws.toPage
theorem c_laws_toPage (x : Page) : Con Tryd.prog 38 [(true, Page.l x)] [(true, Page.l x)] := by
  refine con_mk hT (fn := Tryd.f38) 17 [.cell 2 77] [(0, .c ((true, Page.l x)))] rfl rfl rfl rfl rfl rfl rfl ?_
  refine AW_seq ?_
  refine AW_region ?_
  refine sbox hT ((true, Page.l x)) rfl rfl rfl rfl (ls := Page.l x) rfl trivial ?_
  refine salloc hT rfl rfl rfl rfl (ls := [lI 0, lI 0, lI 0, lI 0]) rfl trivial ?_
  refine rN ?_
  refine AW_seq ?_
  refine AW_region ?_
  refine salloc hT rfl rfl rfl rfl (ls := [lI 0, lI 0, lI 0, lI 0]) rfl trivial ?_
  refine rN ?_
  refine AW_seq ?_
  refine AW_region ?_
  refine sv hT (vP 8 0) rfl trivial rfl rfl trivial ?_
  refine sv hT (vI x.day) rfl trivial rfl rfl trivial ?_
  refine sv hT (vP 10 0) rfl trivial rfl rfl trivial ?_
  refine sst hT [lI x.day, lI 0, lI 0, lI 0] rfl rfl rfl rfl rfl rfl rfl rfl trivial ?_
  refine rN ?_
  refine AW_seq ?_
  refine AW_region ?_
  refine sv hT (vP 8 1) rfl trivial rfl rfl trivial ?_
  refine sv hT (vI x.cell) rfl trivial rfl rfl trivial ?_
  refine sv hT (vP 10 1) rfl trivial rfl rfl trivial ?_
  refine sst hT [lI x.day, lI x.cell, lI 0, lI 0] rfl rfl rfl rfl rfl rfl rfl rfl trivial ?_
  refine rN ?_
  refine AW_seq ?_
  refine AW_region ?_
  refine sv hT (vP 8 2) rfl trivial rfl rfl trivial ?_
  refine sv hT (vI x.food) rfl trivial rfl rfl trivial ?_
  refine sv hT (vP 10 2) rfl trivial rfl rfl trivial ?_
  refine sst hT [lI x.day, lI x.cell, lI x.food, lI 0] rfl rfl rfl rfl rfl rfl rfl rfl trivial ?_
  refine rN ?_
  refine AW_seq ?_
  refine AW_region ?_
  refine sv hT (vP 8 3) rfl trivial rfl rfl trivial ?_
  refine sv hT (vI x.seal_) rfl trivial rfl rfl trivial ?_
  refine sv hT (vP 10 3) rfl trivial rfl rfl trivial ?_
  refine sst hT (Page.l x) rfl rfl rfl rfl rfl rfl rfl rfl trivial ?_
  refine rN ?_
  refine AW_seq ?_
  refine AW_region ?_
  refine sv hT (vR (Page.l x)) rfl trivial rfl rfl trivial ?_
  refine sst hT (Page.l x) rfl rfl rfl rfl rfl rfl rfl rfl trivial ?_
  refine rN ?_
  refine AW_ret ?_
  exact (qrR (ends [(true, Page.l x)] [] rfl rfl (f2c (cm (f2c (lmI rfl) (f2c (lmI rfl) (f2c (lmI rfl) (f2c (lmI rfl) f20))))) f20)))

-- laws.toDepotS
theorem c_laws_toDepotS (l : List Depot) (hy0 : l.length ≤ 1048576) : Con Tryd.prog 16 [cL 2 1 0 (l.map Depot.e)] [cL 2 100 0 (l.map Depot.e)] := by
  refine con_mk hT (fn := Tryd.f16) 23 [.tmp 2] [(0, .c (cL 2 1 0 (l.map Depot.e)))] rfl rfl rfl rfl rfl rfl rfl ?_
  refine AW_seq ?_
  refine AW_region ?_
  refine sv hT (vL 2 0 0 []) rfl trivial rfl rfl trivial ?_
  refine rN ?_
  refine AW_seq ?_
  refine AW_region ?_
  refine sv hT (vL 2 1 0 (l.map Depot.e)) rfl trivial rfl rfl trivial ?_
  refine sv hT (vI (l.length : Int)) lenM trivial rfl rfl trivial ?_
  refine smake hT ((List.replicate l.length (⟨0, 0⟩ : Depot)).map Depot.e) rfl rfl rfl (z := 2) rfl rfl rfl rfl rfl ⟨by omega, rfl, by show (16 : Int) * _ ≤ _; omega, by omega⟩ (by simp [Depot.e]) rfl rfl trivial ?_
  refine sv hT (vL 2 100 0 ((List.replicate l.length (⟨0, 0⟩ : Depot)).map Depot.e)) rfl trivial rfl rfl trivial ?_
  refine rN ?_
  refine AW_seq ?_
  refine AW_seq ?_
  refine AW_region ?_
  refine sv hT (vI 0) rfl trivial rfl rfl trivial ?_
  refine rN ?_
  refine AW_block ?_
  refine lp (α := {i : Nat // i ≤ l.length}) (fun x' => ⟨[(0, vL 2 1 0 (l.map Depot.e)), (2, vL 2 0 0 []), (3, vL 2 100 0 ((l.take x'.1 ++ List.replicate (l.length - x'.1) (⟨0, 0⟩ : Depot)).map Depot.e)), (4, vI (x'.1 : Int))], [], 1140, 9, 23⟩) (fun x' => l.length - x'.1) ⟨0, by omega⟩ [(100, 100, 0)] [] (sm rfl (emc rfl (f2c (lma rfl rfl) f20) (emc rfl (f2c (lma rfl rfl) f20) (emc rfl (f2c (lmo (by first | rfl | exact congrArg (List.map Depot.e) (setStep (by omega))) rfl rfl rfl) f20) (emc rfl (f2c (lmI (by simp)) f20) em0)))) xm0) (fun x' => ?_)
  obtain ⟨i, hi⟩ := x'
  change AW _ _ _ ⟨[(0, vL 2 1 0 (l.map Depot.e)), (2, vL 2 0 0 []), (3, vL 2 100 0 ((l.take i ++ List.replicate (l.length - i) (⟨0, 0⟩ : Depot)).map Depot.e)), (4, vI (i : Int))], [], 1140, 9, 23⟩
  refine AW_seq ?_
  refine AW_seq ?_
  refine AW_region ?_
  refine sv hT (vI (i : Int)) rfl trivial rfl rfl trivial ?_
  refine sv hT (vL 2 1 0 (l.map Depot.e)) rfl trivial rfl rfl trivial ?_
  refine sv hT (vI (l.length : Int)) lenM trivial rfl rfl trivial ?_
  refine sv hT (vB (decide ((i : Int) < (l.length : Int)))) rfl trivial rfl rfl trivial ?_
  refine rN ?_
  refine cnd decide_eq_true_iff rfl (fun h1 => ?_) (fun h1 => ?_)
  · refine AW_skip ?_
    refine thN ?_
    refine AW_seq ?_
    refine AW_block ?_
    refine AW_region ?_
    refine sv hT (vL 2 100 0 ((l.take i ++ List.replicate (l.length - i) (⟨0, 0⟩ : Depot)).map Depot.e)) rfl trivial rfl rfl trivial ?_
    refine sv hT (vI (i : Int)) rfl trivial rfl rfl trivial ?_
    refine sv hT (vL 2 1 0 (l.map Depot.e)) rfl trivial rfl rfl trivial ?_
    refine sv hT (vI (i : Int)) rfl trivial rfl rfl trivial ?_
    refine sv hT (vE 2 1 i 0 (Depot.e (l.getD i default))) (ixM (by omega)) (okM (by omega)) rfl rfl trivial ?_
    refine sv hT (vR (Depot.l (l.getD i default))) rfl trivial rfl rfl trivial ?_
    refine scall hT [] [] (c_laws_toDepot (l.getD i default)) rfl rfl rfl (f2c (ca (f2c (lav rfl) (f2c (lav rfl) f20))) f20) (f2c (cr (f2c lrv (f2c lrv f20))) f20) rfl rfl trivial ?_
    refine sv hT (vE 2 100 i 0 (Depot.e ((l.take i ++ List.replicate (l.length - i) (⟨0, 0⟩ : Depot) : List Depot).getD i default))) (ixM (by (simp only [List.length_append, List.length_replicate, List.length_take]; omega))) (okM (by (simp only [List.length_append, List.length_replicate, List.length_take]; omega))) rfl rfl trivial ?_
    refine ssek hT [Value.int .i64 ((l.getD i default).cell), Value.int .i64 ((l.getD i default).food)] [(3, vL 2 100 0 (((l.take i ++ List.replicate (l.length - i) (⟨0, 0⟩ : Depot)).set i (⟨(l.getD i default).cell, (l.getD i default).food⟩)).map Depot.e)), (14, vL 2 100 0 (((l.take i ++ List.replicate (l.length - i) (⟨0, 0⟩ : Depot)).set i (⟨(l.getD i default).cell, (l.getD i default).food⟩)).map Depot.e)), (21, .u)] rfl rfl rfl rfl rfl rfl rfl rfl (fun p hp => by simp only [List.mem_cons, List.not_mem_nil, or_false] at hp; rcases hp with rfl | rfl | rfl <;> first | exact .inl rfl | exact .inr (updOk _)) trivial ?_
    refine rE ?_
    refine ibN ?_
    refine thN ?_
    refine AW_region ?_
    refine sv hT (vI (i : Int)) rfl trivial rfl rfl trivial ?_
    refine sv hT (vI ((i : Int) + 1)) (eqI (wI_id (by omega) (by omega))) trivial rfl rfl trivial ?_
    refine sv hT (vI ((i : Int) + 1)) rfl trivial rfl rfl trivial ?_
    refine rE ?_
    exact thN ⟨⟨i + 1, by omega⟩, [(100, 100, 0)], [], (by show l.length - (i + 1) < l.length - i; omega), (sm rfl (emc rfl (f2c (lma rfl rfl) f20) (emc rfl (f2c (lma rfl rfl) f20) (emc rfl (f2c (lmo (by first | rfl | exact congrArg (List.map Depot.e) (setStep (by omega))) rfl rfl rfl) f20) (emc rfl (f2c (lmI (by simp)) f20) em0)))) xm0)⟩
  · refine AW_exit ?_
    refine thE (thE (ibH ?_))
    refine thN ?_
    refine AW_seq ?_
    refine AW_region ?_
    refine sv hT (vL 2 100 0 ((l.take i ++ List.replicate (l.length - i) (⟨0, 0⟩ : Depot)).map Depot.e)) rfl trivial rfl rfl trivial ?_
    refine sv hT (vL 2 100 0 ((l.take i ++ List.replicate (l.length - i) (⟨0, 0⟩ : Depot)).map Depot.e)) rfl trivial rfl rfl trivial ?_
    refine rN ?_
    refine AW_ret ?_
    exact (qrR (ends [cL 2 100 0 ((l.take i ++ List.replicate (l.length - i) (⟨0, 0⟩ : Depot)).map Depot.e)] [(100, 100, 0)] rfl rfl (f2c (cm (f2c (lmo (by exact congrArg (List.map Depot.e) (by rw [List.take_of_length_le (by omega), show l.length - i = 0 by omega]; simp)) rfl rfl rfl) f20)) f20)))

-- laws.toPageS
theorem c_laws_toPageS (l : List Page) (hy0 : l.length ≤ 1048576) : Con Tryd.prog 21 [cL 4 1 0 (l.map Page.e)] [cL 4 100 0 (l.map Page.e)] := by
  refine con_mk hT (fn := Tryd.f21) 23 [.tmp 2] [(0, .c (cL 4 1 0 (l.map Page.e)))] rfl rfl rfl rfl rfl rfl rfl ?_
  refine AW_seq ?_
  refine AW_region ?_
  refine sv hT (vL 4 0 0 []) rfl trivial rfl rfl trivial ?_
  refine rN ?_
  refine AW_seq ?_
  refine AW_region ?_
  refine sv hT (vL 4 1 0 (l.map Page.e)) rfl trivial rfl rfl trivial ?_
  refine sv hT (vI (l.length : Int)) lenM trivial rfl rfl trivial ?_
  refine smake hT ((List.replicate l.length (⟨0, 0, 0, 0⟩ : Page)).map Page.e) rfl rfl rfl (z := 4) rfl rfl rfl rfl rfl ⟨by omega, rfl, by show (32 : Int) * _ ≤ _; omega, by omega⟩ (by simp [Page.e]) rfl rfl trivial ?_
  refine sv hT (vL 4 100 0 ((List.replicate l.length (⟨0, 0, 0, 0⟩ : Page)).map Page.e)) rfl trivial rfl rfl trivial ?_
  refine rN ?_
  refine AW_seq ?_
  refine AW_seq ?_
  refine AW_region ?_
  refine sv hT (vI 0) rfl trivial rfl rfl trivial ?_
  refine rN ?_
  refine AW_block ?_
  refine lp (α := {i : Nat // i ≤ l.length}) (fun x' => ⟨[(0, vL 4 1 0 (l.map Page.e)), (2, vL 4 0 0 []), (3, vL 4 100 0 ((l.take x'.1 ++ List.replicate (l.length - x'.1) (⟨0, 0, 0, 0⟩ : Page)).map Page.e)), (4, vI (x'.1 : Int))], [], 1140, 9, 23⟩) (fun x' => l.length - x'.1) ⟨0, by omega⟩ [(100, 100, 0)] [] (sm rfl (emc rfl (f2c (lma rfl rfl) f20) (emc rfl (f2c (lma rfl rfl) f20) (emc rfl (f2c (lmo (by first | rfl | exact congrArg (List.map Page.e) (setStep (by omega))) rfl rfl rfl) f20) (emc rfl (f2c (lmI (by simp)) f20) em0)))) xm0) (fun x' => ?_)
  obtain ⟨i, hi⟩ := x'
  change AW _ _ _ ⟨[(0, vL 4 1 0 (l.map Page.e)), (2, vL 4 0 0 []), (3, vL 4 100 0 ((l.take i ++ List.replicate (l.length - i) (⟨0, 0, 0, 0⟩ : Page)).map Page.e)), (4, vI (i : Int))], [], 1140, 9, 23⟩
  refine AW_seq ?_
  refine AW_seq ?_
  refine AW_region ?_
  refine sv hT (vI (i : Int)) rfl trivial rfl rfl trivial ?_
  refine sv hT (vL 4 1 0 (l.map Page.e)) rfl trivial rfl rfl trivial ?_
  refine sv hT (vI (l.length : Int)) lenM trivial rfl rfl trivial ?_
  refine sv hT (vB (decide ((i : Int) < (l.length : Int)))) rfl trivial rfl rfl trivial ?_
  refine rN ?_
  refine cnd decide_eq_true_iff rfl (fun h1 => ?_) (fun h1 => ?_)
  · refine AW_skip ?_
    refine thN ?_
    refine AW_seq ?_
    refine AW_block ?_
    refine AW_region ?_
    refine sv hT (vL 4 100 0 ((l.take i ++ List.replicate (l.length - i) (⟨0, 0, 0, 0⟩ : Page)).map Page.e)) rfl trivial rfl rfl trivial ?_
    refine sv hT (vI (i : Int)) rfl trivial rfl rfl trivial ?_
    refine sv hT (vL 4 1 0 (l.map Page.e)) rfl trivial rfl rfl trivial ?_
    refine sv hT (vI (i : Int)) rfl trivial rfl rfl trivial ?_
    refine sv hT (vE 4 1 i 0 (Page.e (l.getD i default))) (ixM (by omega)) (okM (by omega)) rfl rfl trivial ?_
    refine sv hT (vR (Page.l (l.getD i default))) rfl trivial rfl rfl trivial ?_
    refine scall hT [] [] (c_laws_toPage (l.getD i default)) rfl rfl rfl (f2c (ca (f2c (lav rfl) (f2c (lav rfl) (f2c (lav rfl) (f2c (lav rfl) f20))))) f20) (f2c (cr (f2c lrv (f2c lrv (f2c lrv (f2c lrv f20))))) f20) rfl rfl trivial ?_
    refine sv hT (vE 4 100 i 0 (Page.e ((l.take i ++ List.replicate (l.length - i) (⟨0, 0, 0, 0⟩ : Page) : List Page).getD i default))) (ixM (by (simp only [List.length_append, List.length_replicate, List.length_take]; omega))) (okM (by (simp only [List.length_append, List.length_replicate, List.length_take]; omega))) rfl rfl trivial ?_
    refine ssek hT [Value.int .i64 ((l.getD i default).day), Value.int .i64 ((l.getD i default).cell), Value.int .i64 ((l.getD i default).food), Value.int .i64 ((l.getD i default).seal_)] [(3, vL 4 100 0 (((l.take i ++ List.replicate (l.length - i) (⟨0, 0, 0, 0⟩ : Page)).set i (⟨(l.getD i default).day, (l.getD i default).cell, (l.getD i default).food, (l.getD i default).seal_⟩)).map Page.e)), (14, vL 4 100 0 (((l.take i ++ List.replicate (l.length - i) (⟨0, 0, 0, 0⟩ : Page)).set i (⟨(l.getD i default).day, (l.getD i default).cell, (l.getD i default).food, (l.getD i default).seal_⟩)).map Page.e)), (21, .u)] rfl rfl rfl rfl rfl rfl rfl rfl (fun p hp => by simp only [List.mem_cons, List.not_mem_nil, or_false] at hp; rcases hp with rfl | rfl | rfl <;> first | exact .inl rfl | exact .inr (updOk _)) trivial ?_
    refine rE ?_
    refine ibN ?_
    refine thN ?_
    refine AW_region ?_
    refine sv hT (vI (i : Int)) rfl trivial rfl rfl trivial ?_
    refine sv hT (vI ((i : Int) + 1)) (eqI (wI_id (by omega) (by omega))) trivial rfl rfl trivial ?_
    refine sv hT (vI ((i : Int) + 1)) rfl trivial rfl rfl trivial ?_
    refine rE ?_
    exact thN ⟨⟨i + 1, by omega⟩, [(100, 100, 0)], [], (by show l.length - (i + 1) < l.length - i; omega), (sm rfl (emc rfl (f2c (lma rfl rfl) f20) (emc rfl (f2c (lma rfl rfl) f20) (emc rfl (f2c (lmo (by first | rfl | exact congrArg (List.map Page.e) (setStep (by omega))) rfl rfl rfl) f20) (emc rfl (f2c (lmI (by simp)) f20) em0)))) xm0)⟩
  · refine AW_exit ?_
    refine thE (thE (ibH ?_))
    refine thN ?_
    refine AW_seq ?_
    refine AW_region ?_
    refine sv hT (vL 4 100 0 ((l.take i ++ List.replicate (l.length - i) (⟨0, 0, 0, 0⟩ : Page)).map Page.e)) rfl trivial rfl rfl trivial ?_
    refine sv hT (vL 4 100 0 ((l.take i ++ List.replicate (l.length - i) (⟨0, 0, 0, 0⟩ : Page)).map Page.e)) rfl trivial rfl rfl trivial ?_
    refine rN ?_
    refine AW_ret ?_
    exact (qrR (ends [cL 4 100 0 ((l.take i ++ List.replicate (l.length - i) (⟨0, 0, 0, 0⟩ : Page)).map Page.e)] [(100, 100, 0)] rfl rfl (f2c (cm (f2c (lmo (by exact congrArg (List.map Page.e) (by rw [List.take_of_length_le (by omega), show l.length - i = 0 by omega]; simp)) rfl rfl rfl) f20)) f20)))

-- laws.eqDepot
theorem c_laws_eqDepot (x : Depot) (y : Depot) : Con Tryd.prog 37 [(true, Depot.l x), (true, Depot.l y)] [cB (decide (x = y))] := by
  refine con_mk hT (fn := Tryd.f37) 15 [.tmp 4] [(0, .c ((true, Depot.l x))), (1, .c ((true, Depot.l y)))] rfl rfl rfl rfl rfl rfl rfl ?_
  refine AW_seq ?_
  refine AW_region ?_
  refine sbox hT ((true, Depot.l x)) rfl rfl rfl rfl (ls := Depot.l x) rfl trivial ?_
  refine sbox hT ((true, Depot.l y)) rfl rfl rfl rfl (ls := Depot.l y) rfl trivial ?_
  refine sv hT (vB false) rfl trivial rfl rfl trivial ?_
  refine rN ?_
  refine AW_seq ?_
  refine AW_seq ?_
  refine AW_region ?_
  refine sv hT (vP 8 0) rfl trivial rfl rfl trivial ?_
  refine sv hT (vI x.cell) rfl trivial rfl rfl trivial ?_
  refine sv hT (vP 9 0) rfl trivial rfl rfl trivial ?_
  refine sv hT (vI y.cell) rfl trivial rfl rfl trivial ?_
  refine sv hT (vB (x.cell != y.cell)) rfl trivial rfl rfl trivial ?_
  refine rN ?_
  refine cnd bne_iff_ne rfl (fun h1 => ?_) (fun h1 => ?_)
  · refine AW_seq ?_
    refine AW_region ?_
    refine sv hT (vB false) rfl trivial rfl rfl trivial ?_
    refine rN ?_
    refine AW_ret ?_
    exact thR ((qrR (ends [cB false] [] rfl rfl (f2c (cm (f2c (lmB (by first | exact (decide_eq_false (by intro h; subst h; simp_all)).symm | exact (decide_eq_true (by cases x; cases y; simp_all)).symm)) f20)) f20))))
  · refine AW_skip ?_
    refine thN ?_
    refine AW_seq ?_
    refine AW_seq ?_
    refine AW_region ?_
    refine sv hT (vP 8 1) rfl trivial rfl rfl trivial ?_
    refine sv hT (vI x.food) rfl trivial rfl rfl trivial ?_
    refine sv hT (vP 9 1) rfl trivial rfl rfl trivial ?_
    refine sv hT (vI y.food) rfl trivial rfl rfl trivial ?_
    refine sv hT (vB (x.food != y.food)) rfl trivial rfl rfl trivial ?_
    refine rN ?_
    refine cnd bne_iff_ne rfl (fun h2 => ?_) (fun h2 => ?_)
    · refine AW_seq ?_
      refine AW_region ?_
      refine sv hT (vB false) rfl trivial rfl rfl trivial ?_
      refine rN ?_
      refine AW_ret ?_
      exact thR ((qrR (ends [cB false] [] rfl rfl (f2c (cm (f2c (lmB (by first | exact (decide_eq_false (by intro h; subst h; simp_all)).symm | exact (decide_eq_true (by cases x; cases y; simp_all)).symm)) f20)) f20))))
    · refine AW_skip ?_
      refine thN ?_
      refine AW_seq ?_
      refine AW_region ?_
      refine sv hT (vB true) rfl trivial rfl rfl trivial ?_
      refine rN ?_
      refine AW_ret ?_
      exact (qrR (ends [cB true] [] rfl rfl (f2c (cm (f2c (lmB (by first | exact (decide_eq_false (by intro h; subst h; simp_all)).symm | exact (decide_eq_true (by cases x; cases y; simp_all)).symm)) f20)) f20)))

-- laws.eqPage
theorem c_laws_eqPage (x : Page) (y : Page) : Con Tryd.prog 39 [(true, Page.l x), (true, Page.l y)] [cB (decide (x = y))] := by
  refine con_mk hT (fn := Tryd.f39) 25 [.tmp 4] [(0, .c ((true, Page.l x))), (1, .c ((true, Page.l y)))] rfl rfl rfl rfl rfl rfl rfl ?_
  refine AW_seq ?_
  refine AW_region ?_
  refine sbox hT ((true, Page.l x)) rfl rfl rfl rfl (ls := Page.l x) rfl trivial ?_
  refine sbox hT ((true, Page.l y)) rfl rfl rfl rfl (ls := Page.l y) rfl trivial ?_
  refine sv hT (vB false) rfl trivial rfl rfl trivial ?_
  refine rN ?_
  refine AW_seq ?_
  refine AW_seq ?_
  refine AW_region ?_
  refine sv hT (vP 8 0) rfl trivial rfl rfl trivial ?_
  refine sv hT (vI x.day) rfl trivial rfl rfl trivial ?_
  refine sv hT (vP 9 0) rfl trivial rfl rfl trivial ?_
  refine sv hT (vI y.day) rfl trivial rfl rfl trivial ?_
  refine sv hT (vB (x.day != y.day)) rfl trivial rfl rfl trivial ?_
  refine rN ?_
  refine cnd bne_iff_ne rfl (fun h1 => ?_) (fun h1 => ?_)
  · refine AW_seq ?_
    refine AW_region ?_
    refine sv hT (vB false) rfl trivial rfl rfl trivial ?_
    refine rN ?_
    refine AW_ret ?_
    exact thR ((qrR (ends [cB false] [] rfl rfl (f2c (cm (f2c (lmB (by first | exact (decide_eq_false (by intro h; subst h; simp_all)).symm | exact (decide_eq_true (by cases x; cases y; simp_all)).symm)) f20)) f20))))
  · refine AW_skip ?_
    refine thN ?_
    refine AW_seq ?_
    refine AW_seq ?_
    refine AW_region ?_
    refine sv hT (vP 8 1) rfl trivial rfl rfl trivial ?_
    refine sv hT (vI x.cell) rfl trivial rfl rfl trivial ?_
    refine sv hT (vP 9 1) rfl trivial rfl rfl trivial ?_
    refine sv hT (vI y.cell) rfl trivial rfl rfl trivial ?_
    refine sv hT (vB (x.cell != y.cell)) rfl trivial rfl rfl trivial ?_
    refine rN ?_
    refine cnd bne_iff_ne rfl (fun h2 => ?_) (fun h2 => ?_)
    · refine AW_seq ?_
      refine AW_region ?_
      refine sv hT (vB false) rfl trivial rfl rfl trivial ?_
      refine rN ?_
      refine AW_ret ?_
      exact thR ((qrR (ends [cB false] [] rfl rfl (f2c (cm (f2c (lmB (by first | exact (decide_eq_false (by intro h; subst h; simp_all)).symm | exact (decide_eq_true (by cases x; cases y; simp_all)).symm)) f20)) f20))))
    · refine AW_skip ?_
      refine thN ?_
      refine AW_seq ?_
      refine AW_seq ?_
      refine AW_region ?_
      refine sv hT (vP 8 2) rfl trivial rfl rfl trivial ?_
      refine sv hT (vI x.food) rfl trivial rfl rfl trivial ?_
      refine sv hT (vP 9 2) rfl trivial rfl rfl trivial ?_
      refine sv hT (vI y.food) rfl trivial rfl rfl trivial ?_
      refine sv hT (vB (x.food != y.food)) rfl trivial rfl rfl trivial ?_
      refine rN ?_
      refine cnd bne_iff_ne rfl (fun h3 => ?_) (fun h3 => ?_)
      · refine AW_seq ?_
        refine AW_region ?_
        refine sv hT (vB false) rfl trivial rfl rfl trivial ?_
        refine rN ?_
        refine AW_ret ?_
        exact thR ((qrR (ends [cB false] [] rfl rfl (f2c (cm (f2c (lmB (by first | exact (decide_eq_false (by intro h; subst h; simp_all)).symm | exact (decide_eq_true (by cases x; cases y; simp_all)).symm)) f20)) f20))))
      · refine AW_skip ?_
        refine thN ?_
        refine AW_seq ?_
        refine AW_seq ?_
        refine AW_region ?_
        refine sv hT (vP 8 3) rfl trivial rfl rfl trivial ?_
        refine sv hT (vI x.seal_) rfl trivial rfl rfl trivial ?_
        refine sv hT (vP 9 3) rfl trivial rfl rfl trivial ?_
        refine sv hT (vI y.seal_) rfl trivial rfl rfl trivial ?_
        refine sv hT (vB (x.seal_ != y.seal_)) rfl trivial rfl rfl trivial ?_
        refine rN ?_
        refine cnd bne_iff_ne rfl (fun h4 => ?_) (fun h4 => ?_)
        · refine AW_seq ?_
          refine AW_region ?_
          refine sv hT (vB false) rfl trivial rfl rfl trivial ?_
          refine rN ?_
          refine AW_ret ?_
          exact thR ((qrR (ends [cB false] [] rfl rfl (f2c (cm (f2c (lmB (by first | exact (decide_eq_false (by intro h; subst h; simp_all)).symm | exact (decide_eq_true (by cases x; cases y; simp_all)).symm)) f20)) f20))))
        · refine AW_skip ?_
          refine thN ?_
          refine AW_seq ?_
          refine AW_region ?_
          refine sv hT (vB true) rfl trivial rfl rfl trivial ?_
          refine rN ?_
          refine AW_ret ?_
          exact (qrR (ends [cB true] [] rfl rfl (f2c (cm (f2c (lmB (by first | exact (decide_eq_false (by intro h; subst h; simp_all)).symm | exact (decide_eq_true (by cases x; cases y; simp_all)).symm)) f20)) f20)))

-- laws.eqDepotS
theorem c_laws_eqDepotS (a : List Depot) (b : List Depot) (hy0 : a.length ≤ 140737488355328) : Con Tryd.prog 18 [cL 2 1 0 (a.map Depot.e), cL 2 2 0 (b.map Depot.e)] [cB (decide (a = b))] := by
  refine con_mk hT (fn := Tryd.f18) 27 [.tmp 4] [(0, .c (cL 2 1 0 (a.map Depot.e))), (1, .c (cL 2 2 0 (b.map Depot.e)))] rfl rfl rfl rfl rfl rfl rfl ?_
  refine AW_seq ?_
  refine AW_region ?_
  refine sv hT (vB false) rfl trivial rfl rfl trivial ?_
  refine rN ?_
  refine AW_seq ?_
  refine AW_seq ?_
  refine AW_region ?_
  refine sv hT (vL 2 1 0 (a.map Depot.e)) rfl trivial rfl rfl trivial ?_
  refine sv hT (vI (a.length : Int)) lenM trivial rfl rfl trivial ?_
  refine sv hT (vL 2 2 0 (b.map Depot.e)) rfl trivial rfl rfl trivial ?_
  refine sv hT (vI (b.length : Int)) lenM trivial rfl rfl trivial ?_
  refine sv hT (vB ((a.length : Int) != (b.length : Int))) rfl trivial rfl rfl trivial ?_
  refine rN ?_
  refine cnd bne_iff_ne rfl (fun h1 => ?_) (fun h1 => ?_)
  · refine AW_seq ?_
    refine AW_region ?_
    refine sv hT (vB false) rfl trivial rfl rfl trivial ?_
    refine rN ?_
    refine AW_ret ?_
    exact thR ((qrR (ends [cB false] [] rfl rfl (f2c (cm (f2c (lmB (by exact (decide_eq_false (fun h => h1 (by rw [h]))).symm)) f20)) f20))))
  · refine AW_skip ?_
    refine thN ?_
    refine AW_seq ?_
    refine AW_seq ?_
    refine AW_region ?_
    refine sv hT (vI 0) rfl trivial rfl rfl trivial ?_
    refine rN ?_
    refine AW_block ?_
    refine lp (α := {i : Nat // i ≤ a.length ∧ a.take i = b.take i}) (fun x' => ⟨[(0, vL 2 1 0 (a.map Depot.e)), (1, vL 2 2 0 (b.map Depot.e)), (5, vI (x'.1 : Int))], [], 100, 8, 27⟩) (fun x' => a.length - x'.1) ⟨0, by omega, rfl⟩ [] [] (sm rfl (emc rfl (f2c (lma rfl rfl) f20) (emc rfl (f2c (lma rfl rfl) f20) (emc rfl (f2c (lmI (by simp)) f20) em0))) xm0) (fun x' => ?_)
    obtain ⟨i, hi1, hi2⟩ := x'
    change AW _ _ _ ⟨[(0, vL 2 1 0 (a.map Depot.e)), (1, vL 2 2 0 (b.map Depot.e)), (5, vI (i : Int))], [], 100, 8, 27⟩
    refine AW_seq ?_
    refine AW_seq ?_
    refine AW_region ?_
    refine sv hT (vI (i : Int)) rfl trivial rfl rfl trivial ?_
    refine sv hT (vL 2 1 0 (a.map Depot.e)) rfl trivial rfl rfl trivial ?_
    refine sv hT (vI (a.length : Int)) lenM trivial rfl rfl trivial ?_
    refine sv hT (vB (decide ((i : Int) < (a.length : Int)))) rfl trivial rfl rfl trivial ?_
    refine rN ?_
    refine cnd decide_eq_true_iff rfl (fun h2 => ?_) (fun h2 => ?_)
    · refine AW_skip ?_
      refine thN ?_
      refine AW_seq ?_
      refine AW_block ?_
      refine AW_seq ?_
      refine dstart 260 18 rfl ?_
      refine dv hT (vL 2 1 0 (a.map Depot.e)) [] rfl trivial rfl rfl rfl trivial ?_
      refine dv hT (vI (i : Int)) [] rfl trivial rfl rfl rfl trivial ?_
      refine dv hT (vE 2 1 i 0 (Depot.e (a.getD i default))) [] (ixM (by omega)) (okM (by omega)) rfl rfl rfl trivial ?_
      refine dv hT (vR (Depot.l (a.getD i default))) [] rfl trivial rfl rfl rfl trivial ?_
      refine dv hT (vL 2 2 0 (b.map Depot.e)) [] rfl trivial rfl rfl rfl trivial ?_
      refine dv hT (vI (i : Int)) [] rfl trivial rfl rfl rfl trivial ?_
      refine dv hT (vE 2 2 i 0 (Depot.e (b.getD i default))) [] (ixM (by omega)) (okM (by omega)) rfl rfl rfl trivial ?_
      refine dv hT (vR (Depot.l (b.getD i default))) [] rfl trivial rfl rfl rfl trivial ?_
      refine dcall hT [] [] (c_laws_eqDepot (a.getD i default) (b.getD i default)) rfl rfl rfl (f2c (ca (f2c (lav rfl) (f2c (lav rfl) f20))) (f2c (ca (f2c (lav rfl) (f2c (lav rfl) f20))) f20)) (f2c (cr (f2c lrv f20)) f20) rfl rfl trivial ?_
      refine dv hT (vB (!(decide ((a.getD i default) = (b.getD i default))))) [] rfl trivial rfl rfl rfl trivial ?_
      refine dend hm (by kernel_rfl) ?_
      refine thN ?_
      refine cnd (notIff decide_eq_true_iff) rfl (fun h3 => ?_) (fun h3 => ?_)
      · refine AW_seq ?_
        refine AW_region ?_
        refine sv hT (vB false) rfl trivial rfl rfl trivial ?_
        refine rN ?_
        refine AW_ret ?_
        exact ibR (thR (thR (ibR (thR ((qrR (ends [cB false] [] rfl rfl (f2c (cm (f2c (lmB (by exact (decide_eq_false (fun h => absurd (by rw [h]) h3)).symm)) f20)) f20))))))))
      · refine AW_skip ?_
        refine ibN ?_
        refine thN ?_
        refine AW_region ?_
        refine sv hT (vI (i : Int)) rfl trivial rfl rfl trivial ?_
        refine sv hT (vI ((i : Int) + 1)) (eqI (wI_id (by omega) (by omega))) trivial rfl rfl trivial ?_
        refine sv hT (vI ((i : Int) + 1)) rfl trivial rfl rfl trivial ?_
        refine rE ?_
        exact thN ⟨⟨i + 1, by omega, eqTake (d := default) hi2 (by omega) (by omega) (by first | omega | simpa using h3)⟩, [], [], (by show a.length - (i + 1) < a.length - i; omega), (sm rfl (emc rfl (f2c (lma rfl rfl) f20) (emc rfl (f2c (lma rfl rfl) f20) (emc rfl (f2c (lmI (by simp)) f20) em0))) xm0)⟩
    · refine AW_exit ?_
      refine thE (thE (ibH ?_))
      refine thN ?_
      refine AW_seq ?_
      refine AW_region ?_
      refine sv hT (vB true) rfl trivial rfl rfl trivial ?_
      refine rN ?_
      refine AW_ret ?_
      exact (qrR (ends [cB true] [] rfl rfl (f2c (cm (f2c (lmB (by exact (decide_eq_true (eqOf hi2 (by omega) (by omega))).symm)) f20)) f20)))

-- laws.eqPageS
theorem c_laws_eqPageS (a : List Page) (b : List Page) (hy0 : a.length ≤ 140737488355328) : Con Tryd.prog 23 [cL 4 1 0 (a.map Page.e), cL 4 2 0 (b.map Page.e)] [cB (decide (a = b))] := by
  refine con_mk hT (fn := Tryd.f23) 27 [.tmp 4] [(0, .c (cL 4 1 0 (a.map Page.e))), (1, .c (cL 4 2 0 (b.map Page.e)))] rfl rfl rfl rfl rfl rfl rfl ?_
  refine AW_seq ?_
  refine AW_region ?_
  refine sv hT (vB false) rfl trivial rfl rfl trivial ?_
  refine rN ?_
  refine AW_seq ?_
  refine AW_seq ?_
  refine AW_region ?_
  refine sv hT (vL 4 1 0 (a.map Page.e)) rfl trivial rfl rfl trivial ?_
  refine sv hT (vI (a.length : Int)) lenM trivial rfl rfl trivial ?_
  refine sv hT (vL 4 2 0 (b.map Page.e)) rfl trivial rfl rfl trivial ?_
  refine sv hT (vI (b.length : Int)) lenM trivial rfl rfl trivial ?_
  refine sv hT (vB ((a.length : Int) != (b.length : Int))) rfl trivial rfl rfl trivial ?_
  refine rN ?_
  refine cnd bne_iff_ne rfl (fun h1 => ?_) (fun h1 => ?_)
  · refine AW_seq ?_
    refine AW_region ?_
    refine sv hT (vB false) rfl trivial rfl rfl trivial ?_
    refine rN ?_
    refine AW_ret ?_
    exact thR ((qrR (ends [cB false] [] rfl rfl (f2c (cm (f2c (lmB (by exact (decide_eq_false (fun h => h1 (by rw [h]))).symm)) f20)) f20))))
  · refine AW_skip ?_
    refine thN ?_
    refine AW_seq ?_
    refine AW_seq ?_
    refine AW_region ?_
    refine sv hT (vI 0) rfl trivial rfl rfl trivial ?_
    refine rN ?_
    refine AW_block ?_
    refine lp (α := {i : Nat // i ≤ a.length ∧ a.take i = b.take i}) (fun x' => ⟨[(0, vL 4 1 0 (a.map Page.e)), (1, vL 4 2 0 (b.map Page.e)), (5, vI (x'.1 : Int))], [], 100, 8, 27⟩) (fun x' => a.length - x'.1) ⟨0, by omega, rfl⟩ [] [] (sm rfl (emc rfl (f2c (lma rfl rfl) f20) (emc rfl (f2c (lma rfl rfl) f20) (emc rfl (f2c (lmI (by simp)) f20) em0))) xm0) (fun x' => ?_)
    obtain ⟨i, hi1, hi2⟩ := x'
    change AW _ _ _ ⟨[(0, vL 4 1 0 (a.map Page.e)), (1, vL 4 2 0 (b.map Page.e)), (5, vI (i : Int))], [], 100, 8, 27⟩
    refine AW_seq ?_
    refine AW_seq ?_
    refine AW_region ?_
    refine sv hT (vI (i : Int)) rfl trivial rfl rfl trivial ?_
    refine sv hT (vL 4 1 0 (a.map Page.e)) rfl trivial rfl rfl trivial ?_
    refine sv hT (vI (a.length : Int)) lenM trivial rfl rfl trivial ?_
    refine sv hT (vB (decide ((i : Int) < (a.length : Int)))) rfl trivial rfl rfl trivial ?_
    refine rN ?_
    refine cnd decide_eq_true_iff rfl (fun h2 => ?_) (fun h2 => ?_)
    · refine AW_skip ?_
      refine thN ?_
      refine AW_seq ?_
      refine AW_block ?_
      refine AW_seq ?_
      refine dstart 260 18 rfl ?_
      refine dv hT (vL 4 1 0 (a.map Page.e)) [] rfl trivial rfl rfl rfl trivial ?_
      refine dv hT (vI (i : Int)) [] rfl trivial rfl rfl rfl trivial ?_
      refine dv hT (vE 4 1 i 0 (Page.e (a.getD i default))) [] (ixM (by omega)) (okM (by omega)) rfl rfl rfl trivial ?_
      refine dv hT (vR (Page.l (a.getD i default))) [] rfl trivial rfl rfl rfl trivial ?_
      refine dv hT (vL 4 2 0 (b.map Page.e)) [] rfl trivial rfl rfl rfl trivial ?_
      refine dv hT (vI (i : Int)) [] rfl trivial rfl rfl rfl trivial ?_
      refine dv hT (vE 4 2 i 0 (Page.e (b.getD i default))) [] (ixM (by omega)) (okM (by omega)) rfl rfl rfl trivial ?_
      refine dv hT (vR (Page.l (b.getD i default))) [] rfl trivial rfl rfl rfl trivial ?_
      refine dcall hT [] [] (c_laws_eqPage (a.getD i default) (b.getD i default)) rfl rfl rfl (f2c (ca (f2c (lav rfl) (f2c (lav rfl) (f2c (lav rfl) (f2c (lav rfl) f20))))) (f2c (ca (f2c (lav rfl) (f2c (lav rfl) (f2c (lav rfl) (f2c (lav rfl) f20))))) f20)) (f2c (cr (f2c lrv f20)) f20) rfl rfl trivial ?_
      refine dv hT (vB (!(decide ((a.getD i default) = (b.getD i default))))) [] rfl trivial rfl rfl rfl trivial ?_
      refine dend hm (by kernel_rfl) ?_
      refine thN ?_
      refine cnd (notIff decide_eq_true_iff) rfl (fun h3 => ?_) (fun h3 => ?_)
      · refine AW_seq ?_
        refine AW_region ?_
        refine sv hT (vB false) rfl trivial rfl rfl trivial ?_
        refine rN ?_
        refine AW_ret ?_
        exact ibR (thR (thR (ibR (thR ((qrR (ends [cB false] [] rfl rfl (f2c (cm (f2c (lmB (by exact (decide_eq_false (fun h => absurd (by rw [h]) h3)).symm)) f20)) f20))))))))
      · refine AW_skip ?_
        refine ibN ?_
        refine thN ?_
        refine AW_region ?_
        refine sv hT (vI (i : Int)) rfl trivial rfl rfl trivial ?_
        refine sv hT (vI ((i : Int) + 1)) (eqI (wI_id (by omega) (by omega))) trivial rfl rfl trivial ?_
        refine sv hT (vI ((i : Int) + 1)) rfl trivial rfl rfl trivial ?_
        refine rE ?_
        exact thN ⟨⟨i + 1, by omega, eqTake (d := default) hi2 (by omega) (by omega) (by first | omega | simpa using h3)⟩, [], [], (by show a.length - (i + 1) < a.length - i; omega), (sm rfl (emc rfl (f2c (lma rfl rfl) f20) (emc rfl (f2c (lma rfl rfl) f20) (emc rfl (f2c (lmI (by simp)) f20) em0))) xm0)⟩
    · refine AW_exit ?_
      refine thE (thE (ibH ?_))
      refine thN ?_
      refine AW_seq ?_
      refine AW_region ?_
      refine sv hT (vB true) rfl trivial rfl rfl trivial ?_
      refine rN ?_
      refine AW_ret ?_
      exact (qrR (ends [cB true] [] rfl rfl (f2c (cm (f2c (lmB (by exact (decide_eq_true (eqOf hi2 (by omega) (by omega))).symm)) f20)) f20)))

def depT (x : Land) (d : Depot) : List UInt8 := cellN x d.cell ++ [58] ++ Lib.itoa d.food
def pageT (x : Land) (p : Page) : List UInt8 := Lib.itoa p.day ++ [64] ++ cellN x p.cell ++ [61] ++ Lib.itoa p.food
theorem depT_len {x : Land} {d : Depot} (h : d.wf) : (depT x d).length ≤ 64 := by
  have h1 := cellN_len x d.cell
  have h2 := itoa_len h.2
  simp only [depT, List.length_append, List.length_cons, List.length_nil]; omega
theorem pageT_len {x : Land} {d : Page} (h : d.wf) : (pageT x d).length ≤ 64 := by
  have h1 := cellN_len x d.cell
  have h2 := itoa_len h.2.2.1
  have h3 := itoa_len h.1
  simp only [pageT, List.length_append, List.length_cons, List.length_nil]; omega
theorem lens_map' {α : Type} (f : α → List UInt8) (k : Nat) : ∀ (l : List α), (∀ a ∈ l, (f a).length ≤ k) → lens (l.map f) ≤ k * l.length
  | [], _ => by simp [lens]
  | a :: l, h => by
    have h1 := h a (by simp)
    have h2 := lens_map' f k l fun b hb => h b (by simp [hb])
    simp only [lens, List.map_cons, List.sum_cons, List.length_cons, Nat.mul_add] at h2 ⊢
    omega

-- laws.szMemberS
theorem c_laws_szMemberS (l : List Member) (n : Int) (hy0 : l.length ≤ 140737488355328 ∧ n ≤ 1048576 ∧ 0 ≤ n) : Con Tryd.prog 53 [cL 4 1 0 (l.map Member.e), cI n] [cI (szI (l.length : Int) n)] := by
  refine con_mk hT (fn := Tryd.f53) 12 [.tmp 4] [(0, .c (cL 4 1 0 (l.map Member.e))), (1, .c (cI n))] rfl rfl rfl rfl rfl rfl rfl ?_
  refine AW_seq ?_
  refine AW_region ?_
  refine sv hT (vI 0) rfl trivial rfl rfl trivial ?_
  refine rN ?_
  refine AW_seq ?_
  refine AW_region ?_
  refine sv hT (vI n) rfl trivial rfl rfl trivial ?_
  refine sv hT (vL 4 1 0 (l.map Member.e)) rfl trivial rfl rfl trivial ?_
  refine sv hT (vI (l.length : Int)) lenM trivial rfl rfl trivial ?_
  refine sv hT (vI (n - (l.length : Int))) (eqI (wI_id (by omega) (by omega))) trivial rfl rfl trivial ?_
  refine sv hT (vI (n - (l.length : Int))) rfl trivial rfl rfl trivial ?_
  refine rN ?_
  refine AW_seq ?_
  refine AW_seq ?_
  refine AW_region ?_
  refine sv hT (vI (n - (l.length : Int))) rfl trivial rfl rfl trivial ?_
  refine sv hT (vB (decide ((n - (l.length : Int)) < 0))) rfl trivial rfl rfl trivial ?_
  refine rN ?_
  refine cnd decide_eq_true_iff rfl (fun h1 => ?_) (fun h1 => ?_)
  · refine AW_seq ?_
    refine AW_region ?_
    refine sv hT (vI (-1)) rfl trivial rfl rfl trivial ?_
    refine rN ?_
    refine AW_ret ?_
    exact thR ((qrR (ends [cI (-1)] [] rfl rfl (f2c (cm (f2c (lmI (by simp only [szI]; split <;> omega)) f20)) f20))))
  · refine AW_skip ?_
    refine thN ?_
    refine AW_seq ?_
    refine AW_region ?_
    refine sv hT (vI (n - (l.length : Int))) rfl trivial rfl rfl trivial ?_
    refine sv hT (vI (n - (l.length : Int))) rfl trivial rfl rfl trivial ?_
    refine rN ?_
    refine AW_ret ?_
    exact (qrR (ends [cI (n - (l.length : Int))] [] rfl rfl (f2c (cm (f2c (lmI (by simp only [szI]; split <;> omega)) f20)) f20)))

-- laws.szBoolS
theorem c_laws_szBoolS (l : List Bool) (n : Int) (hy0 : l.length ≤ 140737488355328 ∧ n ≤ 1048576 ∧ 0 ≤ n) : Con Tryd.prog 54 [cL 1 1 0 (l.map eB), cI n] [cI (szI (l.length : Int) n)] := by
  refine con_mk hT (fn := Tryd.f54) 12 [.tmp 4] [(0, .c (cL 1 1 0 (l.map eB))), (1, .c (cI n))] rfl rfl rfl rfl rfl rfl rfl ?_
  refine AW_seq ?_
  refine AW_region ?_
  refine sv hT (vI 0) rfl trivial rfl rfl trivial ?_
  refine rN ?_
  refine AW_seq ?_
  refine AW_region ?_
  refine sv hT (vI n) rfl trivial rfl rfl trivial ?_
  refine sv hT (vL 1 1 0 (l.map eB)) rfl trivial rfl rfl trivial ?_
  refine sv hT (vI (l.length : Int)) lenM trivial rfl rfl trivial ?_
  refine sv hT (vI (n - (l.length : Int))) (eqI (wI_id (by omega) (by omega))) trivial rfl rfl trivial ?_
  refine sv hT (vI (n - (l.length : Int))) rfl trivial rfl rfl trivial ?_
  refine rN ?_
  refine AW_seq ?_
  refine AW_seq ?_
  refine AW_region ?_
  refine sv hT (vI (n - (l.length : Int))) rfl trivial rfl rfl trivial ?_
  refine sv hT (vB (decide ((n - (l.length : Int)) < 0))) rfl trivial rfl rfl trivial ?_
  refine rN ?_
  refine cnd decide_eq_true_iff rfl (fun h1 => ?_) (fun h1 => ?_)
  · refine AW_seq ?_
    refine AW_region ?_
    refine sv hT (vI (-1)) rfl trivial rfl rfl trivial ?_
    refine rN ?_
    refine AW_ret ?_
    exact thR ((qrR (ends [cI (-1)] [] rfl rfl (f2c (cm (f2c (lmI (by simp only [szI]; split <;> omega)) f20)) f20))))
  · refine AW_skip ?_
    refine thN ?_
    refine AW_seq ?_
    refine AW_region ?_
    refine sv hT (vI (n - (l.length : Int))) rfl trivial rfl rfl trivial ?_
    refine sv hT (vI (n - (l.length : Int))) rfl trivial rfl rfl trivial ?_
    refine rN ?_
    refine AW_ret ?_
    exact (qrR (ends [cI (n - (l.length : Int))] [] rfl rfl (f2c (cm (f2c (lmI (by simp only [szI]; split <;> omega)) f20)) f20)))

-- laws.szParty
theorem c_laws_szParty (x : Party) (n : Int) (hy0 : x.crew.length ≤ 140737488355328 ∧ x.past.length ≤ 140737488355328 ∧ n ≤ 1048576 ∧ 0 ≤ n) : Con Tryd.prog 40 [(true, Party.l x 1 2), cI n] [cI (szI ((x.crew.length + x.past.length : Nat) : Int) n)] := by
  refine con_mk hT (fn := Tryd.f40) 18 [.tmp 4] [(0, .c ((true, Party.l x 1 2))), (1, .c (cI n))] rfl rfl rfl rfl rfl rfl rfl ?_
  refine AW_seq ?_
  refine AW_region ?_
  refine sbox hT ((true, Party.l x 1 2)) rfl rfl rfl rfl (ls := Party.l x 1 2) rfl trivial ?_
  refine sv hT (vI 0) rfl trivial rfl rfl trivial ?_
  refine rN ?_
  refine AW_seq ?_
  refine AW_region ?_
  refine sv hT (vP 8 2) rfl trivial rfl rfl trivial ?_
  refine sv hT (vL 4 1 0 (x.crew.map Member.e)) rfl trivial rfl rfl trivial ?_
  refine sv hT (vI n) rfl trivial rfl rfl trivial ?_
  refine scall hT [(1, 1, 0)] [] (c_laws_szMemberS x.crew n (by first | assumption | omega | (simp only [szI] at *; omega))) rfl rfl rfl (f2c (ca (f2c (las rfl rfl rfl) f20)) (f2c (ca (f2c (lav rfl) f20)) f20)) (f2c (cr (f2c lrv f20)) f20) rfl rfl trivial ?_
  refine sv hT (vI (szI (x.crew.length : Int) n)) rfl trivial rfl rfl trivial ?_
  refine rN ?_
  refine AW_seq ?_
  refine AW_seq ?_
  refine AW_region ?_
  refine sv hT (vI (szI (x.crew.length : Int) n)) rfl trivial rfl rfl trivial ?_
  refine sv hT (vB (decide ((szI (x.crew.length : Int) n) < 0))) rfl trivial rfl rfl trivial ?_
  refine rN ?_
  refine cnd decide_eq_true_iff rfl (fun h1 => ?_) (fun h1 => ?_)
  · refine AW_seq ?_
    refine AW_region ?_
    refine sv hT (vI (-1)) rfl trivial rfl rfl trivial ?_
    refine rN ?_
    refine AW_ret ?_
    exact thR ((qrR (ends [cI (-1)] [] rfl rfl (f2c (cm (f2c (lmI (by simp only [szI] at *; omega)) f20)) f20))))
  · refine AW_skip ?_
    refine thN ?_
    refine AW_seq ?_
    refine AW_region ?_
    refine sv hT (vP 8 3) rfl trivial rfl rfl trivial ?_
    refine sv hT (vL 1 2 0 (x.past.map eB)) rfl trivial rfl rfl trivial ?_
    refine sv hT (vI (szI (x.crew.length : Int) n)) rfl trivial rfl rfl trivial ?_
    refine scall hT [(1, 2, 0)] [] (c_laws_szBoolS x.past (szI (x.crew.length : Int) n) (by first | assumption | omega | (simp only [szI] at *; omega))) rfl rfl rfl (f2c (ca (f2c (las rfl rfl rfl) f20)) (f2c (ca (f2c (lav rfl) f20)) f20)) (f2c (cr (f2c lrv f20)) f20) rfl rfl trivial ?_
    refine sv hT (vI (szI (x.past.length : Int) (szI (x.crew.length : Int) n))) rfl trivial rfl rfl trivial ?_
    refine rN ?_
    refine AW_seq ?_
    refine AW_seq ?_
    refine AW_region ?_
    refine sv hT (vI (szI (x.past.length : Int) (szI (x.crew.length : Int) n))) rfl trivial rfl rfl trivial ?_
    refine sv hT (vB (decide ((szI (x.past.length : Int) (szI (x.crew.length : Int) n)) < 0))) rfl trivial rfl rfl trivial ?_
    refine rN ?_
    refine cnd decide_eq_true_iff rfl (fun h2 => ?_) (fun h2 => ?_)
    · refine AW_seq ?_
      refine AW_region ?_
      refine sv hT (vI (-1)) rfl trivial rfl rfl trivial ?_
      refine rN ?_
      refine AW_ret ?_
      exact thR ((qrR (ends [cI (-1)] [] rfl rfl (f2c (cm (f2c (lmI (by simp only [szI] at *; omega)) f20)) f20))))
    · refine AW_skip ?_
      refine thN ?_
      refine AW_seq ?_
      refine AW_region ?_
      refine sv hT (vI (szI (x.past.length : Int) (szI (x.crew.length : Int) n))) rfl trivial rfl rfl trivial ?_
      refine sv hT (vI (szI (x.past.length : Int) (szI (x.crew.length : Int) n))) rfl trivial rfl rfl trivial ?_
      refine rN ?_
      refine AW_ret ?_
      exact (qrR (ends [cI (szI (x.past.length : Int) (szI (x.crew.length : Int) n))] [] rfl rfl (f2c (cm (f2c (lmI (by simp only [szI] at *; omega)) f20)) f20)))

-- laws.szTrek
theorem c_laws_szTrek (x : Trek) (n : Int) (hy0 : x.land.cells.length ≤ 140737488355328 ∧ x.depots.length ≤ 140737488355328 ∧ x.party.crew.length ≤ 140737488355328 ∧ x.party.past.length ≤ 140737488355328 ∧ x.journal.length ≤ 140737488355328 ∧ n ≤ 1048576 ∧ 0 ≤ n) : Con Tryd.prog 24 [(true, Trek.l x 1 2 3 4 5), cI n] [cI (szI ((x.land.cells.length + x.depots.length + (x.party.crew.length + x.party.past.length) + x.journal.length : Nat) : Int) n)] := by
  refine con_mk hT (fn := Tryd.f24) 30 [.tmp 4] [(0, .c ((true, Trek.l x 1 2 3 4 5))), (1, .c (cI n))] rfl rfl rfl rfl rfl rfl rfl ?_
  refine AW_seq ?_
  refine AW_region ?_
  refine sbox hT ((true, Trek.l x 1 2 3 4 5)) rfl rfl rfl rfl (ls := Trek.l x 1 2 3 4 5) rfl trivial ?_
  refine sv hT (vI 0) rfl trivial rfl rfl trivial ?_
  refine rN ?_
  refine AW_seq ?_
  refine AW_region ?_
  refine sv hT (vP 8 0) rfl trivial rfl rfl trivial ?_
  refine sv hT (vR (Land.l x.land 1)) rfl trivial rfl rfl trivial ?_
  refine sv hT (vI n) rfl trivial rfl rfl trivial ?_
  refine scall hT [(1, 1, 0)] [] (c_laws_szLand x.land n (by first | assumption | omega | (simp only [szI] at *; omega))) rfl rfl rfl (f2c (ca (f2c (lav rfl) (f2c (lav rfl) (f2c (las rfl rfl rfl) f20)))) (f2c (ca (f2c (lav rfl) f20)) f20)) (f2c (cr (f2c lrv f20)) f20) rfl rfl trivial ?_
  refine sv hT (vI (szI (x.land.cells.length : Int) n)) rfl trivial rfl rfl trivial ?_
  refine rN ?_
  refine AW_seq ?_
  refine AW_seq ?_
  refine AW_region ?_
  refine sv hT (vI (szI (x.land.cells.length : Int) n)) rfl trivial rfl rfl trivial ?_
  refine sv hT (vB (decide ((szI (x.land.cells.length : Int) n) < 0))) rfl trivial rfl rfl trivial ?_
  refine rN ?_
  refine cnd decide_eq_true_iff rfl (fun h1 => ?_) (fun h1 => ?_)
  · refine AW_seq ?_
    refine AW_region ?_
    refine sv hT (vI (-1)) rfl trivial rfl rfl trivial ?_
    refine rN ?_
    refine AW_ret ?_
    exact thR ((qrR (ends [cI (-1)] [] rfl rfl (f2c (cm (f2c (lmI (by simp only [szI] at *; omega)) f20)) f20))))
  · refine AW_skip ?_
    refine thN ?_
    refine AW_seq ?_
    refine AW_region ?_
    refine sv hT (vP 8 6) rfl trivial rfl rfl trivial ?_
    refine sv hT (vL 2 2 0 (x.depots.map Depot.e)) rfl trivial rfl rfl trivial ?_
    refine sv hT (vI (szI (x.land.cells.length : Int) n)) rfl trivial rfl rfl trivial ?_
    refine scall hT [(1, 2, 0)] [] (c_laws_szDepotS x.depots (szI (x.land.cells.length : Int) n) (by first | assumption | omega | (simp only [szI] at *; omega))) rfl rfl rfl (f2c (ca (f2c (las rfl rfl rfl) f20)) (f2c (ca (f2c (lav rfl) f20)) f20)) (f2c (cr (f2c lrv f20)) f20) rfl rfl trivial ?_
    refine sv hT (vI (szI (x.depots.length : Int) (szI (x.land.cells.length : Int) n))) rfl trivial rfl rfl trivial ?_
    refine rN ?_
    refine AW_seq ?_
    refine AW_seq ?_
    refine AW_region ?_
    refine sv hT (vI (szI (x.depots.length : Int) (szI (x.land.cells.length : Int) n))) rfl trivial rfl rfl trivial ?_
    refine sv hT (vB (decide ((szI (x.depots.length : Int) (szI (x.land.cells.length : Int) n)) < 0))) rfl trivial rfl rfl trivial ?_
    refine rN ?_
    refine cnd decide_eq_true_iff rfl (fun h2 => ?_) (fun h2 => ?_)
    · refine AW_seq ?_
      refine AW_region ?_
      refine sv hT (vI (-1)) rfl trivial rfl rfl trivial ?_
      refine rN ?_
      refine AW_ret ?_
      exact thR ((qrR (ends [cI (-1)] [] rfl rfl (f2c (cm (f2c (lmI (by simp only [szI] at *; omega)) f20)) f20))))
    · refine AW_skip ?_
      refine thN ?_
      refine AW_seq ?_
      refine AW_region ?_
      refine sv hT (vP 8 7) rfl trivial rfl rfl trivial ?_
      refine sv hT (vR (Party.l x.party 3 4)) rfl trivial rfl rfl trivial ?_
      refine sv hT (vI (szI (x.depots.length : Int) (szI (x.land.cells.length : Int) n))) rfl trivial rfl rfl trivial ?_
      refine scall hT [(1, 3, 0), (2, 4, 0)] [] (c_laws_szParty x.party (szI (x.depots.length : Int) (szI (x.land.cells.length : Int) n)) (by first | assumption | omega | (simp only [szI] at *; omega))) rfl rfl rfl (f2c (ca (f2c (lav rfl) (f2c (lav rfl) (f2c (las rfl rfl rfl) (f2c (las rfl rfl rfl) f20))))) (f2c (ca (f2c (lav rfl) f20)) f20)) (f2c (cr (f2c lrv f20)) f20) rfl rfl trivial ?_
      refine sv hT (vI (szI ((x.party.crew.length + x.party.past.length : Nat) : Int) (szI (x.depots.length : Int) (szI (x.land.cells.length : Int) n)))) rfl trivial rfl rfl trivial ?_
      refine rN ?_
      refine AW_seq ?_
      refine AW_seq ?_
      refine AW_region ?_
      refine sv hT (vI (szI ((x.party.crew.length + x.party.past.length : Nat) : Int) (szI (x.depots.length : Int) (szI (x.land.cells.length : Int) n)))) rfl trivial rfl rfl trivial ?_
      refine sv hT (vB (decide ((szI ((x.party.crew.length + x.party.past.length : Nat) : Int) (szI (x.depots.length : Int) (szI (x.land.cells.length : Int) n))) < 0))) rfl trivial rfl rfl trivial ?_
      refine rN ?_
      refine cnd decide_eq_true_iff rfl (fun h3 => ?_) (fun h3 => ?_)
      · refine AW_seq ?_
        refine AW_region ?_
        refine sv hT (vI (-1)) rfl trivial rfl rfl trivial ?_
        refine rN ?_
        refine AW_ret ?_
        exact thR ((qrR (ends [cI (-1)] [] rfl rfl (f2c (cm (f2c (lmI (by simp only [szI] at *; omega)) f20)) f20))))
      · refine AW_skip ?_
        refine thN ?_
        refine AW_seq ?_
        refine AW_region ?_
        refine sv hT (vP 8 11) rfl trivial rfl rfl trivial ?_
        refine sv hT (vL 4 5 0 (x.journal.map Page.e)) rfl trivial rfl rfl trivial ?_
        refine sv hT (vI (szI ((x.party.crew.length + x.party.past.length : Nat) : Int) (szI (x.depots.length : Int) (szI (x.land.cells.length : Int) n)))) rfl trivial rfl rfl trivial ?_
        refine scall hT [(1, 5, 0)] [] (c_laws_szPageS x.journal (szI ((x.party.crew.length + x.party.past.length : Nat) : Int) (szI (x.depots.length : Int) (szI (x.land.cells.length : Int) n))) (by first | assumption | omega | (simp only [szI] at *; omega))) rfl rfl rfl (f2c (ca (f2c (las rfl rfl rfl) f20)) (f2c (ca (f2c (lav rfl) f20)) f20)) (f2c (cr (f2c lrv f20)) f20) rfl rfl trivial ?_
        refine sv hT (vI (szI (x.journal.length : Int) (szI ((x.party.crew.length + x.party.past.length : Nat) : Int) (szI (x.depots.length : Int) (szI (x.land.cells.length : Int) n))))) rfl trivial rfl rfl trivial ?_
        refine rN ?_
        refine AW_seq ?_
        refine AW_seq ?_
        refine AW_region ?_
        refine sv hT (vI (szI (x.journal.length : Int) (szI ((x.party.crew.length + x.party.past.length : Nat) : Int) (szI (x.depots.length : Int) (szI (x.land.cells.length : Int) n))))) rfl trivial rfl rfl trivial ?_
        refine sv hT (vB (decide ((szI (x.journal.length : Int) (szI ((x.party.crew.length + x.party.past.length : Nat) : Int) (szI (x.depots.length : Int) (szI (x.land.cells.length : Int) n)))) < 0))) rfl trivial rfl rfl trivial ?_
        refine rN ?_
        refine cnd decide_eq_true_iff rfl (fun h4 => ?_) (fun h4 => ?_)
        · refine AW_seq ?_
          refine AW_region ?_
          refine sv hT (vI (-1)) rfl trivial rfl rfl trivial ?_
          refine rN ?_
          refine AW_ret ?_
          exact thR ((qrR (ends [cI (-1)] [] rfl rfl (f2c (cm (f2c (lmI (by simp only [szI] at *; omega)) f20)) f20))))
        · refine AW_skip ?_
          refine thN ?_
          refine AW_seq ?_
          refine AW_region ?_
          refine sv hT (vI (szI (x.journal.length : Int) (szI ((x.party.crew.length + x.party.past.length : Nat) : Int) (szI (x.depots.length : Int) (szI (x.land.cells.length : Int) n))))) rfl trivial rfl rfl trivial ?_
          refine sv hT (vI (szI (x.journal.length : Int) (szI ((x.party.crew.length + x.party.past.length : Nat) : Int) (szI (x.depots.length : Int) (szI (x.land.cells.length : Int) n))))) rfl trivial rfl rfl trivial ?_
          refine rN ?_
          refine AW_ret ?_
          exact (qrR (ends [cI (szI (x.journal.length : Int) (szI ((x.party.crew.length + x.party.past.length : Nat) : Int) (szI (x.depots.length : Int) (szI (x.land.cells.length : Int) n))))] [] rfl rfl (f2c (cm (f2c (lmI (by simp only [szI] at *; omega)) f20)) f20)))

-- laws.toRule
theorem c_laws_toRule (x : Rule) : Con Tryd.prog 43 [(true, Rule.l x)] [(true, Rule.l x)] := by
  refine con_mk hT (fn := Tryd.f43) 11 [.cell 2 57] [(0, .c ((true, Rule.l x)))] rfl rfl rfl rfl rfl rfl rfl ?_
  refine AW_seq ?_
  refine AW_region ?_
  refine sbox hT ((true, Rule.l x)) rfl rfl rfl rfl (ls := Rule.l x) rfl trivial ?_
  refine salloc hT rfl rfl rfl rfl (ls := [lI 0, lI 0]) rfl trivial ?_
  refine rN ?_
  refine AW_seq ?_
  refine AW_region ?_
  refine salloc hT rfl rfl rfl rfl (ls := [lI 0, lI 0]) rfl trivial ?_
  refine rN ?_
  refine AW_seq ?_
  refine AW_region ?_
  refine sv hT (vP 8 0) rfl trivial rfl rfl trivial ?_
  refine sv hT (vI x.most) rfl trivial rfl rfl trivial ?_
  refine sv hT (vP 10 0) rfl trivial rfl rfl trivial ?_
  refine sst hT [lI x.most, lI 0] rfl rfl rfl rfl rfl rfl rfl rfl trivial ?_
  refine rN ?_
  refine AW_seq ?_
  refine AW_region ?_
  refine sv hT (vP 8 1) rfl trivial rfl rfl trivial ?_
  refine sv hT (vI x.window) rfl trivial rfl rfl trivial ?_
  refine sv hT (vP 10 1) rfl trivial rfl rfl trivial ?_
  refine sst hT (Rule.l x) rfl rfl rfl rfl rfl rfl rfl rfl trivial ?_
  refine rN ?_
  refine AW_seq ?_
  refine AW_region ?_
  refine sv hT (vR (Rule.l x)) rfl trivial rfl rfl trivial ?_
  refine sst hT (Rule.l x) rfl rfl rfl rfl rfl rfl rfl rfl trivial ?_
  refine rN ?_
  refine AW_ret ?_
  exact (qrR (ends [(true, Rule.l x)] [] rfl rfl (f2c (cm (f2c (lmI rfl) (f2c (lmI rfl) f20))) f20)))

-- laws.toMember
theorem c_laws_toMember (x : Member) : Con Tryd.prog 67 [(true, Member.l x)] [(true, Member.l x)] := by
  refine con_mk hT (fn := Tryd.f67) 17 [.cell 2 108] [(0, .c ((true, Member.l x)))] rfl rfl rfl rfl rfl rfl rfl ?_
  refine AW_seq ?_
  refine AW_region ?_
  refine sbox hT ((true, Member.l x)) rfl rfl rfl rfl (ls := Member.l x) rfl trivial ?_
  refine salloc hT rfl rfl rfl rfl (ls := [lI 0, lI 0, lI 0, lB false]) rfl trivial ?_
  refine rN ?_
  refine AW_seq ?_
  refine AW_region ?_
  refine salloc hT rfl rfl rfl rfl (ls := [lI 0, lI 0, lI 0, lB false]) rfl trivial ?_
  refine rN ?_
  refine AW_seq ?_
  refine AW_region ?_
  refine sv hT (vP 8 0) rfl trivial rfl rfl trivial ?_
  refine sv hT (vI x.id) rfl trivial rfl rfl trivial ?_
  refine sv hT (vP 10 0) rfl trivial rfl rfl trivial ?_
  refine sst hT [lI x.id, lI 0, lI 0, lB false] rfl rfl rfl rfl rfl rfl rfl rfl trivial ?_
  refine rN ?_
  refine AW_seq ?_
  refine AW_region ?_
  refine sv hT (vP 8 1) rfl trivial rfl rfl trivial ?_
  refine sv hT (vI x.str) rfl trivial rfl rfl trivial ?_
  refine sv hT (vP 10 1) rfl trivial rfl rfl trivial ?_
  refine sst hT [lI x.id, lI x.str, lI 0, lB false] rfl rfl rfl rfl rfl rfl rfl rfl trivial ?_
  refine rN ?_
  refine AW_seq ?_
  refine AW_region ?_
  refine sv hT (vP 8 2) rfl trivial rfl rfl trivial ?_
  refine sv hT (vI x.need) rfl trivial rfl rfl trivial ?_
  refine sv hT (vP 10 2) rfl trivial rfl rfl trivial ?_
  refine sst hT [lI x.id, lI x.str, lI x.need, lB false] rfl rfl rfl rfl rfl rfl rfl rfl trivial ?_
  refine rN ?_
  refine AW_seq ?_
  refine AW_region ?_
  refine sv hT (vP 8 3) rfl trivial rfl rfl trivial ?_
  refine sv hT (vB x.ill) rfl trivial rfl rfl trivial ?_
  refine sv hT (vP 10 3) rfl trivial rfl rfl trivial ?_
  refine sst hT (Member.l x) rfl rfl rfl rfl rfl rfl rfl rfl trivial ?_
  refine rN ?_
  refine AW_seq ?_
  refine AW_region ?_
  refine sv hT (vR (Member.l x)) rfl trivial rfl rfl trivial ?_
  refine sst hT (Member.l x) rfl rfl rfl rfl rfl rfl rfl rfl trivial ?_
  refine rN ?_
  refine AW_ret ?_
  exact (qrR (ends [(true, Member.l x)] [] rfl rfl (f2c (cm (f2c (lmI rfl) (f2c (lmI rfl) (f2c (lmI rfl) (f2c (lmB rfl) f20))))) f20)))

-- laws.toMemberS
theorem c_laws_toMemberS (l : List Member) (hy0 : l.length ≤ 1048576) : Con Tryd.prog 57 [cL 4 1 0 (l.map Member.e)] [cL 4 100 0 (l.map Member.e)] := by
  refine con_mk hT (fn := Tryd.f57) 23 [.tmp 2] [(0, .c (cL 4 1 0 (l.map Member.e)))] rfl rfl rfl rfl rfl rfl rfl ?_
  refine AW_seq ?_
  refine AW_region ?_
  refine sv hT (vL 4 0 0 []) rfl trivial rfl rfl trivial ?_
  refine rN ?_
  refine AW_seq ?_
  refine AW_region ?_
  refine sv hT (vL 4 1 0 (l.map Member.e)) rfl trivial rfl rfl trivial ?_
  refine sv hT (vI (l.length : Int)) lenM trivial rfl rfl trivial ?_
  refine smake hT ((List.replicate l.length (⟨0, 0, 0, false⟩ : Member)).map Member.e) rfl rfl rfl (z := 4) rfl rfl rfl rfl rfl ⟨by omega, rfl, by show (32 : Int) * _ ≤ _; omega, by omega⟩ (by simp [Member.e]) rfl rfl trivial ?_
  refine sv hT (vL 4 100 0 ((List.replicate l.length (⟨0, 0, 0, false⟩ : Member)).map Member.e)) rfl trivial rfl rfl trivial ?_
  refine rN ?_
  refine AW_seq ?_
  refine AW_seq ?_
  refine AW_region ?_
  refine sv hT (vI 0) rfl trivial rfl rfl trivial ?_
  refine rN ?_
  refine AW_block ?_
  refine lp (α := {i : Nat // i ≤ l.length}) (fun x' => ⟨[(0, vL 4 1 0 (l.map Member.e)), (2, vL 4 0 0 []), (3, vL 4 100 0 ((l.take x'.1 ++ List.replicate (l.length - x'.1) (⟨0, 0, 0, false⟩ : Member)).map Member.e)), (4, vI (x'.1 : Int))], [], 1140, 9, 23⟩) (fun x' => l.length - x'.1) ⟨0, by omega⟩ [(100, 100, 0)] [] (sm rfl (emc rfl (f2c (lma rfl rfl) f20) (emc rfl (f2c (lma rfl rfl) f20) (emc rfl (f2c (lmo (by first | rfl | exact congrArg (List.map Member.e) (setStep (by omega))) rfl rfl rfl) f20) (emc rfl (f2c (lmI (by simp)) f20) em0)))) xm0) (fun x' => ?_)
  obtain ⟨i, hi⟩ := x'
  change AW _ _ _ ⟨[(0, vL 4 1 0 (l.map Member.e)), (2, vL 4 0 0 []), (3, vL 4 100 0 ((l.take i ++ List.replicate (l.length - i) (⟨0, 0, 0, false⟩ : Member)).map Member.e)), (4, vI (i : Int))], [], 1140, 9, 23⟩
  refine AW_seq ?_
  refine AW_seq ?_
  refine AW_region ?_
  refine sv hT (vI (i : Int)) rfl trivial rfl rfl trivial ?_
  refine sv hT (vL 4 1 0 (l.map Member.e)) rfl trivial rfl rfl trivial ?_
  refine sv hT (vI (l.length : Int)) lenM trivial rfl rfl trivial ?_
  refine sv hT (vB (decide ((i : Int) < (l.length : Int)))) rfl trivial rfl rfl trivial ?_
  refine rN ?_
  refine cnd decide_eq_true_iff rfl (fun h1 => ?_) (fun h1 => ?_)
  · refine AW_skip ?_
    refine thN ?_
    refine AW_seq ?_
    refine AW_block ?_
    refine AW_region ?_
    refine sv hT (vL 4 100 0 ((l.take i ++ List.replicate (l.length - i) (⟨0, 0, 0, false⟩ : Member)).map Member.e)) rfl trivial rfl rfl trivial ?_
    refine sv hT (vI (i : Int)) rfl trivial rfl rfl trivial ?_
    refine sv hT (vL 4 1 0 (l.map Member.e)) rfl trivial rfl rfl trivial ?_
    refine sv hT (vI (i : Int)) rfl trivial rfl rfl trivial ?_
    refine sv hT (vE 4 1 i 0 (Member.e (l.getD i default))) (ixM (by omega)) (okM (by omega)) rfl rfl trivial ?_
    refine sv hT (vR (Member.l (l.getD i default))) rfl trivial rfl rfl trivial ?_
    refine scall hT [] [] (c_laws_toMember (l.getD i default)) rfl rfl rfl (f2c (ca (f2c (lav rfl) (f2c (lav rfl) (f2c (lav rfl) (f2c (lav rfl) f20))))) f20) (f2c (cr (f2c lrv (f2c lrv (f2c lrv (f2c lrv f20))))) f20) rfl rfl trivial ?_
    refine sv hT (vE 4 100 i 0 (Member.e ((l.take i ++ List.replicate (l.length - i) (⟨0, 0, 0, false⟩ : Member) : List Member).getD i default))) (ixM (by (simp only [List.length_append, List.length_replicate, List.length_take]; omega))) (okM (by (simp only [List.length_append, List.length_replicate, List.length_take]; omega))) rfl rfl trivial ?_
    refine ssek hT [Value.int .i64 ((l.getD i default).id), Value.int .i64 ((l.getD i default).str), Value.int .i64 ((l.getD i default).need), Value.bool ((l.getD i default).ill)] [(3, vL 4 100 0 (((l.take i ++ List.replicate (l.length - i) (⟨0, 0, 0, false⟩ : Member)).set i (⟨(l.getD i default).id, (l.getD i default).str, (l.getD i default).need, (l.getD i default).ill⟩)).map Member.e)), (14, vL 4 100 0 (((l.take i ++ List.replicate (l.length - i) (⟨0, 0, 0, false⟩ : Member)).set i (⟨(l.getD i default).id, (l.getD i default).str, (l.getD i default).need, (l.getD i default).ill⟩)).map Member.e)), (21, .u)] rfl rfl rfl rfl rfl rfl rfl rfl (fun p hp => by simp only [List.mem_cons, List.not_mem_nil, or_false] at hp; rcases hp with rfl | rfl | rfl <;> first | exact .inl rfl | exact .inr (updOk _)) trivial ?_
    refine rE ?_
    refine ibN ?_
    refine thN ?_
    refine AW_region ?_
    refine sv hT (vI (i : Int)) rfl trivial rfl rfl trivial ?_
    refine sv hT (vI ((i : Int) + 1)) (eqI (wI_id (by omega) (by omega))) trivial rfl rfl trivial ?_
    refine sv hT (vI ((i : Int) + 1)) rfl trivial rfl rfl trivial ?_
    refine rE ?_
    exact thN ⟨⟨i + 1, by omega⟩, [(100, 100, 0)], [], (by show l.length - (i + 1) < l.length - i; omega), (sm rfl (emc rfl (f2c (lma rfl rfl) f20) (emc rfl (f2c (lma rfl rfl) f20) (emc rfl (f2c (lmo (by first | rfl | exact congrArg (List.map Member.e) (setStep (by omega))) rfl rfl rfl) f20) (emc rfl (f2c (lmI (by simp)) f20) em0)))) xm0)⟩
  · refine AW_exit ?_
    refine thE (thE (ibH ?_))
    refine thN ?_
    refine AW_seq ?_
    refine AW_region ?_
    refine sv hT (vL 4 100 0 ((l.take i ++ List.replicate (l.length - i) (⟨0, 0, 0, false⟩ : Member)).map Member.e)) rfl trivial rfl rfl trivial ?_
    refine sv hT (vL 4 100 0 ((l.take i ++ List.replicate (l.length - i) (⟨0, 0, 0, false⟩ : Member)).map Member.e)) rfl trivial rfl rfl trivial ?_
    refine rN ?_
    refine AW_ret ?_
    exact (qrR (ends [cL 4 100 0 ((l.take i ++ List.replicate (l.length - i) (⟨0, 0, 0, false⟩ : Member)).map Member.e)] [(100, 100, 0)] rfl rfl (f2c (cm (f2c (lmo (by exact congrArg (List.map Member.e) (by rw [List.take_of_length_le (by omega), show l.length - i = 0 by omega]; simp)) rfl rfl rfl) f20)) f20)))

-- laws.toBoolS
theorem c_laws_toBoolS (l : List Bool) (hy0 : l.length ≤ 1048576) : Con Tryd.prog 58 [cL 1 1 0 (l.map eB)] [cL 1 100 0 (l.map eB)] := by
  refine con_mk hT (fn := Tryd.f58) 22 [.tmp 2] [(0, .c (cL 1 1 0 (l.map eB)))] rfl rfl rfl rfl rfl rfl rfl ?_
  refine AW_seq ?_
  refine AW_region ?_
  refine sv hT (vL 1 0 0 []) rfl trivial rfl rfl trivial ?_
  refine rN ?_
  refine AW_seq ?_
  refine AW_region ?_
  refine sv hT (vL 1 1 0 (l.map eB)) rfl trivial rfl rfl trivial ?_
  refine sv hT (vI (l.length : Int)) lenM trivial rfl rfl trivial ?_
  refine smake hT ((List.replicate l.length false).map eB) rfl rfl rfl (z := 1) rfl rfl rfl rfl rfl ⟨by omega, rfl, by show (1 : Int) * _ ≤ _; omega, by omega⟩ (by simp []) rfl rfl trivial ?_
  refine sv hT (vL 1 100 0 ((List.replicate l.length false).map eB)) rfl trivial rfl rfl trivial ?_
  refine rN ?_
  refine AW_seq ?_
  refine AW_seq ?_
  refine AW_region ?_
  refine sv hT (vI 0) rfl trivial rfl rfl trivial ?_
  refine rN ?_
  refine AW_block ?_
  refine lp (α := {i : Nat // i ≤ l.length}) (fun x' => ⟨[(0, vL 1 1 0 (l.map eB)), (2, vL 1 0 0 []), (3, vL 1 100 0 ((l.take x'.1 ++ List.replicate (l.length - x'.1) false).map eB)), (4, vI (x'.1 : Int))], [], 1140, 9, 22⟩) (fun x' => l.length - x'.1) ⟨0, by omega⟩ [(100, 100, 0)] [] (sm rfl (emc rfl (f2c (lma rfl rfl) f20) (emc rfl (f2c (lma rfl rfl) f20) (emc rfl (f2c (lmo (by first | rfl | exact congrArg (List.map eB) (setStep (by omega))) rfl rfl rfl) f20) (emc rfl (f2c (lmI (by simp)) f20) em0)))) xm0) (fun x' => ?_)
  obtain ⟨i, hi⟩ := x'
  change AW _ _ _ ⟨[(0, vL 1 1 0 (l.map eB)), (2, vL 1 0 0 []), (3, vL 1 100 0 ((l.take i ++ List.replicate (l.length - i) false).map eB)), (4, vI (i : Int))], [], 1140, 9, 22⟩
  refine AW_seq ?_
  refine AW_seq ?_
  refine AW_region ?_
  refine sv hT (vI (i : Int)) rfl trivial rfl rfl trivial ?_
  refine sv hT (vL 1 1 0 (l.map eB)) rfl trivial rfl rfl trivial ?_
  refine sv hT (vI (l.length : Int)) lenM trivial rfl rfl trivial ?_
  refine sv hT (vB (decide ((i : Int) < (l.length : Int)))) rfl trivial rfl rfl trivial ?_
  refine rN ?_
  refine cnd decide_eq_true_iff rfl (fun h1 => ?_) (fun h1 => ?_)
  · refine AW_skip ?_
    refine thN ?_
    refine AW_seq ?_
    refine AW_block ?_
    refine AW_region ?_
    refine sv hT (vL 1 100 0 ((l.take i ++ List.replicate (l.length - i) false).map eB)) rfl trivial rfl rfl trivial ?_
    refine sv hT (vI (i : Int)) rfl trivial rfl rfl trivial ?_
    refine sv hT (vL 1 1 0 (l.map eB)) rfl trivial rfl rfl trivial ?_
    refine sv hT (vI (i : Int)) rfl trivial rfl rfl trivial ?_
    refine sv hT (vE 1 1 i 0 (eB (l.getD i false))) (ixM (by omega)) (okM (by omega)) rfl rfl trivial ?_
    refine sv hT (vB (l.getD i false)) rfl trivial rfl rfl trivial ?_
    refine sv hT (vE 1 100 i 0 (eB ((l.take i ++ List.replicate (l.length - i) false : List Bool).getD i false))) (ixM (by (simp only [List.length_append, List.length_replicate, List.length_take]; omega))) (okM (by (simp only [List.length_append, List.length_replicate, List.length_take]; omega))) rfl rfl trivial ?_
    refine ssek hT [Value.bool (l.getD i false)] [(3, vL 1 100 0 (((l.take i ++ List.replicate (l.length - i) false).set i (l.getD i false)).map eB)), (14, vL 1 100 0 (((l.take i ++ List.replicate (l.length - i) false).set i (l.getD i false)).map eB)), (20, .u)] rfl rfl rfl rfl rfl rfl rfl rfl (fun p hp => by simp only [List.mem_cons, List.not_mem_nil, or_false] at hp; rcases hp with rfl | rfl | rfl <;> first | exact .inl rfl | exact .inr (updOk _)) trivial ?_
    refine rE ?_
    refine ibN ?_
    refine thN ?_
    refine AW_region ?_
    refine sv hT (vI (i : Int)) rfl trivial rfl rfl trivial ?_
    refine sv hT (vI ((i : Int) + 1)) (eqI (wI_id (by omega) (by omega))) trivial rfl rfl trivial ?_
    refine sv hT (vI ((i : Int) + 1)) rfl trivial rfl rfl trivial ?_
    refine rE ?_
    exact thN ⟨⟨i + 1, by omega⟩, [(100, 100, 0)], [], (by show l.length - (i + 1) < l.length - i; omega), (sm rfl (emc rfl (f2c (lma rfl rfl) f20) (emc rfl (f2c (lma rfl rfl) f20) (emc rfl (f2c (lmo (by first | rfl | exact congrArg (List.map eB) (setStep (by omega))) rfl rfl rfl) f20) (emc rfl (f2c (lmI (by simp)) f20) em0)))) xm0)⟩
  · refine AW_exit ?_
    refine thE (thE (ibH ?_))
    refine thN ?_
    refine AW_seq ?_
    refine AW_region ?_
    refine sv hT (vL 1 100 0 ((l.take i ++ List.replicate (l.length - i) false).map eB)) rfl trivial rfl rfl trivial ?_
    refine sv hT (vL 1 100 0 ((l.take i ++ List.replicate (l.length - i) false).map eB)) rfl trivial rfl rfl trivial ?_
    refine rN ?_
    refine AW_ret ?_
    exact (qrR (ends [cL 1 100 0 ((l.take i ++ List.replicate (l.length - i) false).map eB)] [(100, 100, 0)] rfl rfl (f2c (cm (f2c (lmo (by exact congrArg (List.map eB) (by rw [List.take_of_length_le (by omega), show l.length - i = 0 by omega]; simp)) rfl rfl rfl) f20)) f20)))

-- laws.toParty
theorem c_laws_toParty (x : Party) (hy0 : x.crew.length ≤ 1048576 ∧ x.past.length ≤ 1048576) : Con Tryd.prog 44 [(true, Party.l x 1 2)] [(true, Party.l x 100 101)] := by
  refine con_mk hT (fn := Tryd.f44) 19 [.cell 2 60] [(0, .c ((true, Party.l x 1 2)))] rfl rfl rfl rfl rfl rfl rfl ?_
  refine AW_seq ?_
  refine AW_region ?_
  refine sbox hT ((true, Party.l x 1 2)) rfl rfl rfl rfl (ls := Party.l x 1 2) rfl trivial ?_
  refine salloc hT rfl rfl rfl rfl (ls := [lI 0, lI 0, .sl 4 0 0 [], .sl 1 0 0 []]) rfl trivial ?_
  refine rN ?_
  refine AW_seq ?_
  refine AW_region ?_
  refine salloc hT rfl rfl rfl rfl (ls := [lI 0, lI 0, .sl 4 0 0 [], .sl 1 0 0 []]) rfl trivial ?_
  refine rN ?_
  refine AW_seq ?_
  refine AW_region ?_
  refine sv hT (vP 8 0) rfl trivial rfl rfl trivial ?_
  refine sv hT (vI x.cell) rfl trivial rfl rfl trivial ?_
  refine sv hT (vP 10 0) rfl trivial rfl rfl trivial ?_
  refine sst hT [lI x.cell, lI 0, .sl 4 0 0 [], .sl 1 0 0 []] rfl rfl rfl rfl rfl rfl rfl rfl trivial ?_
  refine rN ?_
  refine AW_seq ?_
  refine AW_region ?_
  refine sv hT (vP 8 1) rfl trivial rfl rfl trivial ?_
  refine sv hT (vI x.food) rfl trivial rfl rfl trivial ?_
  refine sv hT (vP 10 1) rfl trivial rfl rfl trivial ?_
  refine sst hT [lI x.cell, lI x.food, .sl 4 0 0 [], .sl 1 0 0 []] rfl rfl rfl rfl rfl rfl rfl rfl trivial ?_
  refine rN ?_
  refine AW_seq ?_
  refine AW_region ?_
  refine sv hT (vP 8 2) rfl trivial rfl rfl trivial ?_
  refine sv hT (vL 4 1 0 (x.crew.map Member.e)) rfl trivial rfl rfl trivial ?_
  refine scall hT [(1, 1, 0)] [(148, 100)] (c_laws_toMemberS x.crew (by omega)) rfl rfl rfl (f2c (ca (f2c (las rfl rfl rfl) f20)) f20) (f2c (cr (f2c (lrn (t := 148) rfl rfl) f20)) f20) rfl rfl trivial ?_
  refine sv hT (vP 10 2) rfl trivial rfl rfl trivial ?_
  refine sst hT [lI x.cell, lI x.food, .sl 4 148 0 (x.crew.map Member.e), .sl 1 0 0 []] rfl rfl rfl rfl rfl rfl rfl rfl trivial ?_
  refine rN ?_
  refine AW_seq ?_
  refine AW_region ?_
  refine sv hT (vP 8 3) rfl trivial rfl rfl trivial ?_
  refine sv hT (vL 1 2 0 (x.past.map eB)) rfl trivial rfl rfl trivial ?_
  refine scall hT [(1, 2, 0)] [(164, 100)] (c_laws_toBoolS x.past (by omega)) rfl rfl rfl (f2c (ca (f2c (las rfl rfl rfl) f20)) f20) (f2c (cr (f2c (lrn (t := 164) rfl rfl) f20)) f20) rfl rfl trivial ?_
  refine sv hT (vP 10 3) rfl trivial rfl rfl trivial ?_
  refine sst hT (Party.l x 148 164) rfl rfl rfl rfl rfl rfl rfl rfl trivial ?_
  refine rN ?_
  refine AW_seq ?_
  refine AW_region ?_
  refine sv hT (vR (Party.l x 148 164)) rfl trivial rfl rfl trivial ?_
  refine sst hT (Party.l x 148 164) rfl rfl rfl rfl rfl rfl rfl rfl trivial ?_
  refine rN ?_
  refine AW_ret ?_
  exact (qrR (ends [(true, Party.l x 148 164)] [(100, 148, 0), (101, 164, 0)] rfl rfl (f2c (cm (f2c (lmI rfl) (f2c (lmI rfl) (f2c (lmo rfl rfl rfl rfl) (f2c (lmo rfl rfl rfl rfl) f20))))) f20)))

-- laws.toTrek
theorem c_laws_toTrek (x : Trek) (hy0 : x.land.cells.length ≤ 1048576 ∧ x.depots.length ≤ 1048576 ∧ x.party.crew.length ≤ 1048576 ∧ x.party.past.length ≤ 1048576 ∧ x.journal.length ≤ 1048576) : Con Tryd.prog 26 [(true, Trek.l x 1 2 3 4 5)] [(true, Trek.l x 100 101 102 103 104)] := by
  refine con_mk hT (fn := Tryd.f26) 37 [.cell 2 62] [(0, .c ((true, Trek.l x 1 2 3 4 5)))] rfl rfl rfl rfl rfl rfl rfl ?_
  refine AW_seq ?_
  refine AW_region ?_
  refine sbox hT ((true, Trek.l x 1 2 3 4 5)) rfl rfl rfl rfl (ls := Trek.l x 1 2 3 4 5) rfl trivial ?_
  refine salloc hT rfl rfl rfl rfl (ls := [lI 0, lI 0, .sl 1 0 0 [], lI 0, lI 0, lI 0, .sl 2 0 0 [], lI 0, lI 0, .sl 4 0 0 [], .sl 1 0 0 [], .sl 4 0 0 [], lI 0, lI 0, lI 0]) rfl trivial ?_
  refine rN ?_
  refine AW_seq ?_
  refine AW_region ?_
  refine salloc hT rfl rfl rfl rfl (ls := [lI 0, lI 0, .sl 1 0 0 [], lI 0, lI 0, lI 0, .sl 2 0 0 [], lI 0, lI 0, .sl 4 0 0 [], .sl 1 0 0 [], .sl 4 0 0 [], lI 0, lI 0, lI 0]) rfl trivial ?_
  refine rN ?_
  refine AW_seq ?_
  refine AW_region ?_
  refine sv hT (vP 8 0) rfl trivial rfl rfl trivial ?_
  refine sv hT (vR (Land.l x.land 1)) rfl trivial rfl rfl trivial ?_
  refine scall hT [(1, 1, 0)] [(148, 100)] (c_laws_toLand x.land (by omega)) rfl rfl rfl (f2c (ca (f2c (lav rfl) (f2c (lav rfl) (f2c (las rfl rfl rfl) f20)))) f20) (f2c (cr (f2c lrv (f2c lrv (f2c (lrn (t := 148) rfl rfl) f20)))) f20) rfl rfl trivial ?_
  refine sv hT (vP 10 0) rfl trivial rfl rfl trivial ?_
  refine sst hT [lI x.land.w, lI x.land.h, .sl 1 148 0 (x.land.cells.map eI), lI 0, lI 0, lI 0, .sl 2 0 0 [], lI 0, lI 0, .sl 4 0 0 [], .sl 1 0 0 [], .sl 4 0 0 [], lI 0, lI 0, lI 0] rfl rfl rfl rfl rfl rfl rfl rfl trivial ?_
  refine rN ?_
  refine AW_seq ?_
  refine AW_region ?_
  refine sv hT (vP 8 3) rfl trivial rfl rfl trivial ?_
  refine sv hT (vI x.base) rfl trivial rfl rfl trivial ?_
  refine sv hT (vP 10 3) rfl trivial rfl rfl trivial ?_
  refine sst hT [lI x.land.w, lI x.land.h, .sl 1 148 0 (x.land.cells.map eI), lI x.base, lI 0, lI 0, .sl 2 0 0 [], lI 0, lI 0, .sl 4 0 0 [], .sl 1 0 0 [], .sl 4 0 0 [], lI 0, lI 0, lI 0] rfl rfl rfl rfl rfl rfl rfl rfl trivial ?_
  refine rN ?_
  refine AW_seq ?_
  refine AW_region ?_
  refine sv hT (vP 8 4) rfl trivial rfl rfl trivial ?_
  refine sv hT (vR (Rule.l x.rule)) rfl trivial rfl rfl trivial ?_
  refine scall hT [] [] (c_laws_toRule x.rule) rfl rfl rfl (f2c (ca (f2c (lav rfl) (f2c (lav rfl) f20))) f20) (f2c (cr (f2c lrv (f2c lrv f20))) f20) rfl rfl trivial ?_
  refine sv hT (vP 10 4) rfl trivial rfl rfl trivial ?_
  refine sst hT [lI x.land.w, lI x.land.h, .sl 1 148 0 (x.land.cells.map eI), lI x.base, lI x.rule.most, lI x.rule.window, .sl 2 0 0 [], lI 0, lI 0, .sl 4 0 0 [], .sl 1 0 0 [], .sl 4 0 0 [], lI 0, lI 0, lI 0] rfl rfl rfl rfl rfl rfl rfl rfl trivial ?_
  refine rN ?_
  refine AW_seq ?_
  refine AW_region ?_
  refine sv hT (vP 8 6) rfl trivial rfl rfl trivial ?_
  refine sv hT (vL 2 2 0 (x.depots.map Depot.e)) rfl trivial rfl rfl trivial ?_
  refine scall hT [(1, 2, 0)] [(180, 100)] (c_laws_toDepotS x.depots (by omega)) rfl rfl rfl (f2c (ca (f2c (las rfl rfl rfl) f20)) f20) (f2c (cr (f2c (lrn (t := 180) rfl rfl) f20)) f20) rfl rfl trivial ?_
  refine sv hT (vP 10 6) rfl trivial rfl rfl trivial ?_
  refine sst hT [lI x.land.w, lI x.land.h, .sl 1 148 0 (x.land.cells.map eI), lI x.base, lI x.rule.most, lI x.rule.window, .sl 2 180 0 (x.depots.map Depot.e), lI 0, lI 0, .sl 4 0 0 [], .sl 1 0 0 [], .sl 4 0 0 [], lI 0, lI 0, lI 0] rfl rfl rfl rfl rfl rfl rfl rfl trivial ?_
  refine rN ?_
  refine AW_seq ?_
  refine AW_region ?_
  refine sv hT (vP 8 7) rfl trivial rfl rfl trivial ?_
  refine sv hT (vR (Party.l x.party 3 4)) rfl trivial rfl rfl trivial ?_
  refine scall hT [(1, 3, 0), (2, 4, 0)] [(196, 100), (197, 101)] (c_laws_toParty x.party (by omega)) rfl rfl rfl (f2c (ca (f2c (lav rfl) (f2c (lav rfl) (f2c (las rfl rfl rfl) (f2c (las rfl rfl rfl) f20))))) f20) (f2c (cr (f2c lrv (f2c lrv (f2c (lrn (t := 196) rfl rfl) (f2c (lrn (t := 197) rfl rfl) f20))))) f20) rfl rfl trivial ?_
  refine sv hT (vP 10 7) rfl trivial rfl rfl trivial ?_
  refine sst hT [lI x.land.w, lI x.land.h, .sl 1 148 0 (x.land.cells.map eI), lI x.base, lI x.rule.most, lI x.rule.window, .sl 2 180 0 (x.depots.map Depot.e), lI x.party.cell, lI x.party.food, .sl 4 196 0 (x.party.crew.map Member.e), .sl 1 197 0 (x.party.past.map eB), .sl 4 0 0 [], lI 0, lI 0, lI 0] rfl rfl rfl rfl rfl rfl rfl rfl trivial ?_
  refine rN ?_
  refine AW_seq ?_
  refine AW_region ?_
  refine sv hT (vP 8 11) rfl trivial rfl rfl trivial ?_
  refine sv hT (vL 4 5 0 (x.journal.map Page.e)) rfl trivial rfl rfl trivial ?_
  refine scall hT [(1, 5, 0)] [(212, 100)] (c_laws_toPageS x.journal (by omega)) rfl rfl rfl (f2c (ca (f2c (las rfl rfl rfl) f20)) f20) (f2c (cr (f2c (lrn (t := 212) rfl rfl) f20)) f20) rfl rfl trivial ?_
  refine sv hT (vP 10 11) rfl trivial rfl rfl trivial ?_
  refine sst hT [lI x.land.w, lI x.land.h, .sl 1 148 0 (x.land.cells.map eI), lI x.base, lI x.rule.most, lI x.rule.window, .sl 2 180 0 (x.depots.map Depot.e), lI x.party.cell, lI x.party.food, .sl 4 196 0 (x.party.crew.map Member.e), .sl 1 197 0 (x.party.past.map eB), .sl 4 212 0 (x.journal.map Page.e), lI 0, lI 0, lI 0] rfl rfl rfl rfl rfl rfl rfl rfl trivial ?_
  refine rN ?_
  refine AW_seq ?_
  refine AW_region ?_
  refine sv hT (vP 8 12) rfl trivial rfl rfl trivial ?_
  refine sv hT (vI x.day) rfl trivial rfl rfl trivial ?_
  refine sv hT (vP 10 12) rfl trivial rfl rfl trivial ?_
  refine sst hT [lI x.land.w, lI x.land.h, .sl 1 148 0 (x.land.cells.map eI), lI x.base, lI x.rule.most, lI x.rule.window, .sl 2 180 0 (x.depots.map Depot.e), lI x.party.cell, lI x.party.food, .sl 4 196 0 (x.party.crew.map Member.e), .sl 1 197 0 (x.party.past.map eB), .sl 4 212 0 (x.journal.map Page.e), lI x.day, lI 0, lI 0] rfl rfl rfl rfl rfl rfl rfl rfl trivial ?_
  refine rN ?_
  refine AW_seq ?_
  refine AW_region ?_
  refine sv hT (vP 8 13) rfl trivial rfl rfl trivial ?_
  refine sv hT (vI x.given) rfl trivial rfl rfl trivial ?_
  refine sv hT (vP 10 13) rfl trivial rfl rfl trivial ?_
  refine sst hT [lI x.land.w, lI x.land.h, .sl 1 148 0 (x.land.cells.map eI), lI x.base, lI x.rule.most, lI x.rule.window, .sl 2 180 0 (x.depots.map Depot.e), lI x.party.cell, lI x.party.food, .sl 4 196 0 (x.party.crew.map Member.e), .sl 1 197 0 (x.party.past.map eB), .sl 4 212 0 (x.journal.map Page.e), lI x.day, lI x.given, lI 0] rfl rfl rfl rfl rfl rfl rfl rfl trivial ?_
  refine rN ?_
  refine AW_seq ?_
  refine AW_region ?_
  refine sv hT (vP 8 14) rfl trivial rfl rfl trivial ?_
  refine sv hT (vI x.eaten) rfl trivial rfl rfl trivial ?_
  refine sv hT (vP 10 14) rfl trivial rfl rfl trivial ?_
  refine sst hT (Trek.l x 148 180 196 197 212) rfl rfl rfl rfl rfl rfl rfl rfl trivial ?_
  refine rN ?_
  refine AW_seq ?_
  refine AW_region ?_
  refine sv hT (vR (Trek.l x 148 180 196 197 212)) rfl trivial rfl rfl trivial ?_
  refine sst hT (Trek.l x 148 180 196 197 212) rfl rfl rfl rfl rfl rfl rfl rfl trivial ?_
  refine rN ?_
  refine AW_ret ?_
  exact (qrR (ends [(true, Trek.l x 148 180 196 197 212)] [(100, 148, 0), (101, 180, 0), (102, 196, 0), (103, 197, 0), (104, 212, 0)] rfl rfl (f2c (cm (f2c (lmI rfl) (f2c (lmI rfl) (f2c (lmo rfl rfl rfl rfl) (f2c (lmI rfl) (f2c (lmI rfl) (f2c (lmI rfl) (f2c (lmo rfl rfl rfl rfl) (f2c (lmI rfl) (f2c (lmI rfl) (f2c (lmo rfl rfl rfl rfl) (f2c (lmo rfl rfl rfl rfl) (f2c (lmo rfl rfl rfl rfl) (f2c (lmI rfl) (f2c (lmI rfl) (f2c (lmI rfl) f20)))))))))))))))) f20)))

-- laws.eqRule
theorem c_laws_eqRule (x : Rule) (y : Rule) : Con Tryd.prog 47 [(true, Rule.l x), (true, Rule.l y)] [cB (decide (x = y))] := by
  refine con_mk hT (fn := Tryd.f47) 15 [.tmp 4] [(0, .c ((true, Rule.l x))), (1, .c ((true, Rule.l y)))] rfl rfl rfl rfl rfl rfl rfl ?_
  refine AW_seq ?_
  refine AW_region ?_
  refine sbox hT ((true, Rule.l x)) rfl rfl rfl rfl (ls := Rule.l x) rfl trivial ?_
  refine sbox hT ((true, Rule.l y)) rfl rfl rfl rfl (ls := Rule.l y) rfl trivial ?_
  refine sv hT (vB false) rfl trivial rfl rfl trivial ?_
  refine rN ?_
  refine AW_seq ?_
  refine AW_seq ?_
  refine AW_region ?_
  refine sv hT (vP 8 0) rfl trivial rfl rfl trivial ?_
  refine sv hT (vI x.most) rfl trivial rfl rfl trivial ?_
  refine sv hT (vP 9 0) rfl trivial rfl rfl trivial ?_
  refine sv hT (vI y.most) rfl trivial rfl rfl trivial ?_
  refine sv hT (vB (x.most != y.most)) rfl trivial rfl rfl trivial ?_
  refine rN ?_
  refine cnd bne_iff_ne rfl (fun h1 => ?_) (fun h1 => ?_)
  · refine AW_seq ?_
    refine AW_region ?_
    refine sv hT (vB false) rfl trivial rfl rfl trivial ?_
    refine rN ?_
    refine AW_ret ?_
    exact thR ((qrR (ends [cB false] [] rfl rfl (f2c (cm (f2c (lmB (by first | exact (decide_eq_false (by intro h; subst h; simp_all)).symm | exact (decide_eq_true (by cases x; cases y; simp_all)).symm)) f20)) f20))))
  · refine AW_skip ?_
    refine thN ?_
    refine AW_seq ?_
    refine AW_seq ?_
    refine AW_region ?_
    refine sv hT (vP 8 1) rfl trivial rfl rfl trivial ?_
    refine sv hT (vI x.window) rfl trivial rfl rfl trivial ?_
    refine sv hT (vP 9 1) rfl trivial rfl rfl trivial ?_
    refine sv hT (vI y.window) rfl trivial rfl rfl trivial ?_
    refine sv hT (vB (x.window != y.window)) rfl trivial rfl rfl trivial ?_
    refine rN ?_
    refine cnd bne_iff_ne rfl (fun h2 => ?_) (fun h2 => ?_)
    · refine AW_seq ?_
      refine AW_region ?_
      refine sv hT (vB false) rfl trivial rfl rfl trivial ?_
      refine rN ?_
      refine AW_ret ?_
      exact thR ((qrR (ends [cB false] [] rfl rfl (f2c (cm (f2c (lmB (by first | exact (decide_eq_false (by intro h; subst h; simp_all)).symm | exact (decide_eq_true (by cases x; cases y; simp_all)).symm)) f20)) f20))))
    · refine AW_skip ?_
      refine thN ?_
      refine AW_seq ?_
      refine AW_region ?_
      refine sv hT (vB true) rfl trivial rfl rfl trivial ?_
      refine rN ?_
      refine AW_ret ?_
      exact (qrR (ends [cB true] [] rfl rfl (f2c (cm (f2c (lmB (by first | exact (decide_eq_false (by intro h; subst h; simp_all)).symm | exact (decide_eq_true (by cases x; cases y; simp_all)).symm)) f20)) f20)))

-- laws.eqMember
theorem c_laws_eqMember (x : Member) (y : Member) : Con Tryd.prog 68 [(true, Member.l x), (true, Member.l y)] [cB (decide (x = y))] := by
  refine con_mk hT (fn := Tryd.f68) 25 [.tmp 4] [(0, .c ((true, Member.l x))), (1, .c ((true, Member.l y)))] rfl rfl rfl rfl rfl rfl rfl ?_
  refine AW_seq ?_
  refine AW_region ?_
  refine sbox hT ((true, Member.l x)) rfl rfl rfl rfl (ls := Member.l x) rfl trivial ?_
  refine sbox hT ((true, Member.l y)) rfl rfl rfl rfl (ls := Member.l y) rfl trivial ?_
  refine sv hT (vB false) rfl trivial rfl rfl trivial ?_
  refine rN ?_
  refine AW_seq ?_
  refine AW_seq ?_
  refine AW_region ?_
  refine sv hT (vP 8 0) rfl trivial rfl rfl trivial ?_
  refine sv hT (vI x.id) rfl trivial rfl rfl trivial ?_
  refine sv hT (vP 9 0) rfl trivial rfl rfl trivial ?_
  refine sv hT (vI y.id) rfl trivial rfl rfl trivial ?_
  refine sv hT (vB (x.id != y.id)) rfl trivial rfl rfl trivial ?_
  refine rN ?_
  refine cnd bne_iff_ne rfl (fun h1 => ?_) (fun h1 => ?_)
  · refine AW_seq ?_
    refine AW_region ?_
    refine sv hT (vB false) rfl trivial rfl rfl trivial ?_
    refine rN ?_
    refine AW_ret ?_
    exact thR ((qrR (ends [cB false] [] rfl rfl (f2c (cm (f2c (lmB (by first | exact (decide_eq_false (by intro h; subst h; simp_all)).symm | exact (decide_eq_true (by cases x; cases y; simp_all)).symm)) f20)) f20))))
  · refine AW_skip ?_
    refine thN ?_
    refine AW_seq ?_
    refine AW_seq ?_
    refine AW_region ?_
    refine sv hT (vP 8 1) rfl trivial rfl rfl trivial ?_
    refine sv hT (vI x.str) rfl trivial rfl rfl trivial ?_
    refine sv hT (vP 9 1) rfl trivial rfl rfl trivial ?_
    refine sv hT (vI y.str) rfl trivial rfl rfl trivial ?_
    refine sv hT (vB (x.str != y.str)) rfl trivial rfl rfl trivial ?_
    refine rN ?_
    refine cnd bne_iff_ne rfl (fun h2 => ?_) (fun h2 => ?_)
    · refine AW_seq ?_
      refine AW_region ?_
      refine sv hT (vB false) rfl trivial rfl rfl trivial ?_
      refine rN ?_
      refine AW_ret ?_
      exact thR ((qrR (ends [cB false] [] rfl rfl (f2c (cm (f2c (lmB (by first | exact (decide_eq_false (by intro h; subst h; simp_all)).symm | exact (decide_eq_true (by cases x; cases y; simp_all)).symm)) f20)) f20))))
    · refine AW_skip ?_
      refine thN ?_
      refine AW_seq ?_
      refine AW_seq ?_
      refine AW_region ?_
      refine sv hT (vP 8 2) rfl trivial rfl rfl trivial ?_
      refine sv hT (vI x.need) rfl trivial rfl rfl trivial ?_
      refine sv hT (vP 9 2) rfl trivial rfl rfl trivial ?_
      refine sv hT (vI y.need) rfl trivial rfl rfl trivial ?_
      refine sv hT (vB (x.need != y.need)) rfl trivial rfl rfl trivial ?_
      refine rN ?_
      refine cnd bne_iff_ne rfl (fun h3 => ?_) (fun h3 => ?_)
      · refine AW_seq ?_
        refine AW_region ?_
        refine sv hT (vB false) rfl trivial rfl rfl trivial ?_
        refine rN ?_
        refine AW_ret ?_
        exact thR ((qrR (ends [cB false] [] rfl rfl (f2c (cm (f2c (lmB (by first | exact (decide_eq_false (by intro h; subst h; simp_all)).symm | exact (decide_eq_true (by cases x; cases y; simp_all)).symm)) f20)) f20))))
      · refine AW_skip ?_
        refine thN ?_
        refine AW_seq ?_
        refine AW_seq ?_
        refine AW_region ?_
        refine sv hT (vP 8 3) rfl trivial rfl rfl trivial ?_
        refine sv hT (vB x.ill) rfl trivial rfl rfl trivial ?_
        refine sv hT (vP 9 3) rfl trivial rfl rfl trivial ?_
        refine sv hT (vB y.ill) rfl trivial rfl rfl trivial ?_
        refine sv hT (vB (!(x.ill == y.ill))) rfl trivial rfl rfl trivial ?_
        refine rN ?_
        refine cnd (notIff beq_iff_eq) rfl (fun h4 => ?_) (fun h4 => ?_)
        · refine AW_seq ?_
          refine AW_region ?_
          refine sv hT (vB false) rfl trivial rfl rfl trivial ?_
          refine rN ?_
          refine AW_ret ?_
          exact thR ((qrR (ends [cB false] [] rfl rfl (f2c (cm (f2c (lmB (by first | exact (decide_eq_false (by intro h; subst h; simp_all)).symm | exact (decide_eq_true (by cases x; cases y; simp_all)).symm)) f20)) f20))))
        · refine AW_skip ?_
          refine thN ?_
          refine AW_seq ?_
          refine AW_region ?_
          refine sv hT (vB true) rfl trivial rfl rfl trivial ?_
          refine rN ?_
          refine AW_ret ?_
          exact (qrR (ends [cB true] [] rfl rfl (f2c (cm (f2c (lmB (by first | exact (decide_eq_false (by intro h; subst h; simp_all)).symm | exact (decide_eq_true (by cases x; cases y; simp_all)).symm)) f20)) f20)))

-- laws.eqMemberS
theorem c_laws_eqMemberS (a : List Member) (b : List Member) (hy0 : a.length ≤ 140737488355328) : Con Tryd.prog 59 [cL 4 1 0 (a.map Member.e), cL 4 2 0 (b.map Member.e)] [cB (decide (a = b))] := by
  refine con_mk hT (fn := Tryd.f59) 27 [.tmp 4] [(0, .c (cL 4 1 0 (a.map Member.e))), (1, .c (cL 4 2 0 (b.map Member.e)))] rfl rfl rfl rfl rfl rfl rfl ?_
  refine AW_seq ?_
  refine AW_region ?_
  refine sv hT (vB false) rfl trivial rfl rfl trivial ?_
  refine rN ?_
  refine AW_seq ?_
  refine AW_seq ?_
  refine AW_region ?_
  refine sv hT (vL 4 1 0 (a.map Member.e)) rfl trivial rfl rfl trivial ?_
  refine sv hT (vI (a.length : Int)) lenM trivial rfl rfl trivial ?_
  refine sv hT (vL 4 2 0 (b.map Member.e)) rfl trivial rfl rfl trivial ?_
  refine sv hT (vI (b.length : Int)) lenM trivial rfl rfl trivial ?_
  refine sv hT (vB ((a.length : Int) != (b.length : Int))) rfl trivial rfl rfl trivial ?_
  refine rN ?_
  refine cnd bne_iff_ne rfl (fun h1 => ?_) (fun h1 => ?_)
  · refine AW_seq ?_
    refine AW_region ?_
    refine sv hT (vB false) rfl trivial rfl rfl trivial ?_
    refine rN ?_
    refine AW_ret ?_
    exact thR ((qrR (ends [cB false] [] rfl rfl (f2c (cm (f2c (lmB (by exact (decide_eq_false (fun h => h1 (by rw [h]))).symm)) f20)) f20))))
  · refine AW_skip ?_
    refine thN ?_
    refine AW_seq ?_
    refine AW_seq ?_
    refine AW_region ?_
    refine sv hT (vI 0) rfl trivial rfl rfl trivial ?_
    refine rN ?_
    refine AW_block ?_
    refine lp (α := {i : Nat // i ≤ a.length ∧ a.take i = b.take i}) (fun x' => ⟨[(0, vL 4 1 0 (a.map Member.e)), (1, vL 4 2 0 (b.map Member.e)), (5, vI (x'.1 : Int))], [], 100, 8, 27⟩) (fun x' => a.length - x'.1) ⟨0, by omega, rfl⟩ [] [] (sm rfl (emc rfl (f2c (lma rfl rfl) f20) (emc rfl (f2c (lma rfl rfl) f20) (emc rfl (f2c (lmI (by simp)) f20) em0))) xm0) (fun x' => ?_)
    obtain ⟨i, hi1, hi2⟩ := x'
    change AW _ _ _ ⟨[(0, vL 4 1 0 (a.map Member.e)), (1, vL 4 2 0 (b.map Member.e)), (5, vI (i : Int))], [], 100, 8, 27⟩
    refine AW_seq ?_
    refine AW_seq ?_
    refine AW_region ?_
    refine sv hT (vI (i : Int)) rfl trivial rfl rfl trivial ?_
    refine sv hT (vL 4 1 0 (a.map Member.e)) rfl trivial rfl rfl trivial ?_
    refine sv hT (vI (a.length : Int)) lenM trivial rfl rfl trivial ?_
    refine sv hT (vB (decide ((i : Int) < (a.length : Int)))) rfl trivial rfl rfl trivial ?_
    refine rN ?_
    refine cnd decide_eq_true_iff rfl (fun h2 => ?_) (fun h2 => ?_)
    · refine AW_skip ?_
      refine thN ?_
      refine AW_seq ?_
      refine AW_block ?_
      refine AW_seq ?_
      refine dstart 260 18 rfl ?_
      refine dv hT (vL 4 1 0 (a.map Member.e)) [] rfl trivial rfl rfl rfl trivial ?_
      refine dv hT (vI (i : Int)) [] rfl trivial rfl rfl rfl trivial ?_
      refine dv hT (vE 4 1 i 0 (Member.e (a.getD i default))) [] (ixM (by omega)) (okM (by omega)) rfl rfl rfl trivial ?_
      refine dv hT (vR (Member.l (a.getD i default))) [] rfl trivial rfl rfl rfl trivial ?_
      refine dv hT (vL 4 2 0 (b.map Member.e)) [] rfl trivial rfl rfl rfl trivial ?_
      refine dv hT (vI (i : Int)) [] rfl trivial rfl rfl rfl trivial ?_
      refine dv hT (vE 4 2 i 0 (Member.e (b.getD i default))) [] (ixM (by omega)) (okM (by omega)) rfl rfl rfl trivial ?_
      refine dv hT (vR (Member.l (b.getD i default))) [] rfl trivial rfl rfl rfl trivial ?_
      refine dcall hT [] [] (c_laws_eqMember (a.getD i default) (b.getD i default)) rfl rfl rfl (f2c (ca (f2c (lav rfl) (f2c (lav rfl) (f2c (lav rfl) (f2c (lav rfl) f20))))) (f2c (ca (f2c (lav rfl) (f2c (lav rfl) (f2c (lav rfl) (f2c (lav rfl) f20))))) f20)) (f2c (cr (f2c lrv f20)) f20) rfl rfl trivial ?_
      refine dv hT (vB (!(decide ((a.getD i default) = (b.getD i default))))) [] rfl trivial rfl rfl rfl trivial ?_
      refine dend hm (by kernel_rfl) ?_
      refine thN ?_
      refine cnd (notIff decide_eq_true_iff) rfl (fun h3 => ?_) (fun h3 => ?_)
      · refine AW_seq ?_
        refine AW_region ?_
        refine sv hT (vB false) rfl trivial rfl rfl trivial ?_
        refine rN ?_
        refine AW_ret ?_
        exact ibR (thR (thR (ibR (thR ((qrR (ends [cB false] [] rfl rfl (f2c (cm (f2c (lmB (by exact (decide_eq_false (fun h => absurd (by rw [h]) h3)).symm)) f20)) f20))))))))
      · refine AW_skip ?_
        refine ibN ?_
        refine thN ?_
        refine AW_region ?_
        refine sv hT (vI (i : Int)) rfl trivial rfl rfl trivial ?_
        refine sv hT (vI ((i : Int) + 1)) (eqI (wI_id (by omega) (by omega))) trivial rfl rfl trivial ?_
        refine sv hT (vI ((i : Int) + 1)) rfl trivial rfl rfl trivial ?_
        refine rE ?_
        exact thN ⟨⟨i + 1, by omega, eqTake (d := default) hi2 (by omega) (by omega) (by first | omega | simpa using h3)⟩, [], [], (by show a.length - (i + 1) < a.length - i; omega), (sm rfl (emc rfl (f2c (lma rfl rfl) f20) (emc rfl (f2c (lma rfl rfl) f20) (emc rfl (f2c (lmI (by simp)) f20) em0))) xm0)⟩
    · refine AW_exit ?_
      refine thE (thE (ibH ?_))
      refine thN ?_
      refine AW_seq ?_
      refine AW_region ?_
      refine sv hT (vB true) rfl trivial rfl rfl trivial ?_
      refine rN ?_
      refine AW_ret ?_
      exact (qrR (ends [cB true] [] rfl rfl (f2c (cm (f2c (lmB (by exact (decide_eq_true (eqOf hi2 (by omega) (by omega))).symm)) f20)) f20)))

-- laws.eqBoolS
theorem c_laws_eqBoolS (a : List Bool) (b : List Bool) (hy0 : a.length ≤ 140737488355328) : Con Tryd.prog 60 [cL 1 1 0 (a.map eB), cL 1 2 0 (b.map eB)] [cB (decide (a = b))] := by
  refine con_mk hT (fn := Tryd.f60) 26 [.tmp 4] [(0, .c (cL 1 1 0 (a.map eB))), (1, .c (cL 1 2 0 (b.map eB)))] rfl rfl rfl rfl rfl rfl rfl ?_
  refine AW_seq ?_
  refine AW_region ?_
  refine sv hT (vB false) rfl trivial rfl rfl trivial ?_
  refine rN ?_
  refine AW_seq ?_
  refine AW_seq ?_
  refine AW_region ?_
  refine sv hT (vL 1 1 0 (a.map eB)) rfl trivial rfl rfl trivial ?_
  refine sv hT (vI (a.length : Int)) lenM trivial rfl rfl trivial ?_
  refine sv hT (vL 1 2 0 (b.map eB)) rfl trivial rfl rfl trivial ?_
  refine sv hT (vI (b.length : Int)) lenM trivial rfl rfl trivial ?_
  refine sv hT (vB ((a.length : Int) != (b.length : Int))) rfl trivial rfl rfl trivial ?_
  refine rN ?_
  refine cnd bne_iff_ne rfl (fun h1 => ?_) (fun h1 => ?_)
  · refine AW_seq ?_
    refine AW_region ?_
    refine sv hT (vB false) rfl trivial rfl rfl trivial ?_
    refine rN ?_
    refine AW_ret ?_
    exact thR ((qrR (ends [cB false] [] rfl rfl (f2c (cm (f2c (lmB (by exact (decide_eq_false (fun h => h1 (by rw [h]))).symm)) f20)) f20))))
  · refine AW_skip ?_
    refine thN ?_
    refine AW_seq ?_
    refine AW_seq ?_
    refine AW_region ?_
    refine sv hT (vI 0) rfl trivial rfl rfl trivial ?_
    refine rN ?_
    refine AW_block ?_
    refine lp (α := {i : Nat // i ≤ a.length ∧ a.take i = b.take i}) (fun x' => ⟨[(0, vL 1 1 0 (a.map eB)), (1, vL 1 2 0 (b.map eB)), (5, vI (x'.1 : Int))], [], 100, 8, 26⟩) (fun x' => a.length - x'.1) ⟨0, by omega, rfl⟩ [] [] (sm rfl (emc rfl (f2c (lma rfl rfl) f20) (emc rfl (f2c (lma rfl rfl) f20) (emc rfl (f2c (lmI (by simp)) f20) em0))) xm0) (fun x' => ?_)
    obtain ⟨i, hi1, hi2⟩ := x'
    change AW _ _ _ ⟨[(0, vL 1 1 0 (a.map eB)), (1, vL 1 2 0 (b.map eB)), (5, vI (i : Int))], [], 100, 8, 26⟩
    refine AW_seq ?_
    refine AW_seq ?_
    refine AW_region ?_
    refine sv hT (vI (i : Int)) rfl trivial rfl rfl trivial ?_
    refine sv hT (vL 1 1 0 (a.map eB)) rfl trivial rfl rfl trivial ?_
    refine sv hT (vI (a.length : Int)) lenM trivial rfl rfl trivial ?_
    refine sv hT (vB (decide ((i : Int) < (a.length : Int)))) rfl trivial rfl rfl trivial ?_
    refine rN ?_
    refine cnd decide_eq_true_iff rfl (fun h2 => ?_) (fun h2 => ?_)
    · refine AW_skip ?_
      refine thN ?_
      refine AW_seq ?_
      refine AW_block ?_
      refine AW_seq ?_
      refine dstart 244 17 rfl ?_
      refine dv hT (vL 1 1 0 (a.map eB)) [] rfl trivial rfl rfl rfl trivial ?_
      refine dv hT (vI (i : Int)) [] rfl trivial rfl rfl rfl trivial ?_
      refine dv hT (vE 1 1 i 0 (eB (a.getD i false))) [] (ixM (by omega)) (okM (by omega)) rfl rfl rfl trivial ?_
      refine dv hT (vB (a.getD i false)) [] rfl trivial rfl rfl rfl trivial ?_
      refine dv hT (vL 1 2 0 (b.map eB)) [] rfl trivial rfl rfl rfl trivial ?_
      refine dv hT (vI (i : Int)) [] rfl trivial rfl rfl rfl trivial ?_
      refine dv hT (vE 1 2 i 0 (eB (b.getD i false))) [] (ixM (by omega)) (okM (by omega)) rfl rfl rfl trivial ?_
      refine dv hT (vB (b.getD i false)) [] rfl trivial rfl rfl rfl trivial ?_
      refine dv hT (vB (!((a.getD i false) == (b.getD i false)))) [] rfl trivial rfl rfl rfl trivial ?_
      refine dend hm (by kernel_rfl) ?_
      refine thN ?_
      refine cnd (notIff beq_iff_eq) rfl (fun h3 => ?_) (fun h3 => ?_)
      · refine AW_seq ?_
        refine AW_region ?_
        refine sv hT (vB false) rfl trivial rfl rfl trivial ?_
        refine rN ?_
        refine AW_ret ?_
        exact ibR (thR (thR (ibR (thR ((qrR (ends [cB false] [] rfl rfl (f2c (cm (f2c (lmB (by exact (decide_eq_false (fun h => absurd (by rw [h]) h3)).symm)) f20)) f20))))))))
      · refine AW_skip ?_
        refine ibN ?_
        refine thN ?_
        refine AW_region ?_
        refine sv hT (vI (i : Int)) rfl trivial rfl rfl trivial ?_
        refine sv hT (vI ((i : Int) + 1)) (eqI (wI_id (by omega) (by omega))) trivial rfl rfl trivial ?_
        refine sv hT (vI ((i : Int) + 1)) rfl trivial rfl rfl trivial ?_
        refine rE ?_
        exact thN ⟨⟨i + 1, by omega, eqTake (d := false) hi2 (by omega) (by omega) (by first | omega | simpa using h3)⟩, [], [], (by show a.length - (i + 1) < a.length - i; omega), (sm rfl (emc rfl (f2c (lma rfl rfl) f20) (emc rfl (f2c (lma rfl rfl) f20) (emc rfl (f2c (lmI (by simp)) f20) em0))) xm0)⟩
    · refine AW_exit ?_
      refine thE (thE (ibH ?_))
      refine thN ?_
      refine AW_seq ?_
      refine AW_region ?_
      refine sv hT (vB true) rfl trivial rfl rfl trivial ?_
      refine rN ?_
      refine AW_ret ?_
      exact (qrR (ends [cB true] [] rfl rfl (f2c (cm (f2c (lmB (by exact (decide_eq_true (eqOf hi2 (by omega) (by omega))).symm)) f20)) f20)))

-- laws.eqParty
theorem c_laws_eqParty (x : Party) (y : Party) (hy0 : x.crew.length ≤ 140737488355328 ∧ x.past.length ≤ 140737488355328) : Con Tryd.prog 48 [(true, Party.l x 1 2), (true, Party.l y 3 4)] [cB (decide (x = y))] := by
  refine con_mk hT (fn := Tryd.f48) 27 [.tmp 4] [(0, .c ((true, Party.l x 1 2))), (1, .c ((true, Party.l y 3 4)))] rfl rfl rfl rfl rfl rfl rfl ?_
  refine AW_seq ?_
  refine AW_region ?_
  refine sbox hT ((true, Party.l x 1 2)) rfl rfl rfl rfl (ls := Party.l x 1 2) rfl trivial ?_
  refine sbox hT ((true, Party.l y 3 4)) rfl rfl rfl rfl (ls := Party.l y 3 4) rfl trivial ?_
  refine sv hT (vB false) rfl trivial rfl rfl trivial ?_
  refine rN ?_
  refine AW_seq ?_
  refine AW_seq ?_
  refine AW_region ?_
  refine sv hT (vP 8 0) rfl trivial rfl rfl trivial ?_
  refine sv hT (vI x.cell) rfl trivial rfl rfl trivial ?_
  refine sv hT (vP 9 0) rfl trivial rfl rfl trivial ?_
  refine sv hT (vI y.cell) rfl trivial rfl rfl trivial ?_
  refine sv hT (vB (x.cell != y.cell)) rfl trivial rfl rfl trivial ?_
  refine rN ?_
  refine cnd bne_iff_ne rfl (fun h1 => ?_) (fun h1 => ?_)
  · refine AW_seq ?_
    refine AW_region ?_
    refine sv hT (vB false) rfl trivial rfl rfl trivial ?_
    refine rN ?_
    refine AW_ret ?_
    exact thR ((qrR (ends [cB false] [] rfl rfl (f2c (cm (f2c (lmB (by first | exact (decide_eq_false (by intro h; subst h; simp_all)).symm | exact (decide_eq_true (by cases x; cases y; simp_all)).symm)) f20)) f20))))
  · refine AW_skip ?_
    refine thN ?_
    refine AW_seq ?_
    refine AW_seq ?_
    refine AW_region ?_
    refine sv hT (vP 8 1) rfl trivial rfl rfl trivial ?_
    refine sv hT (vI x.food) rfl trivial rfl rfl trivial ?_
    refine sv hT (vP 9 1) rfl trivial rfl rfl trivial ?_
    refine sv hT (vI y.food) rfl trivial rfl rfl trivial ?_
    refine sv hT (vB (x.food != y.food)) rfl trivial rfl rfl trivial ?_
    refine rN ?_
    refine cnd bne_iff_ne rfl (fun h2 => ?_) (fun h2 => ?_)
    · refine AW_seq ?_
      refine AW_region ?_
      refine sv hT (vB false) rfl trivial rfl rfl trivial ?_
      refine rN ?_
      refine AW_ret ?_
      exact thR ((qrR (ends [cB false] [] rfl rfl (f2c (cm (f2c (lmB (by first | exact (decide_eq_false (by intro h; subst h; simp_all)).symm | exact (decide_eq_true (by cases x; cases y; simp_all)).symm)) f20)) f20))))
    · refine AW_skip ?_
      refine thN ?_
      refine AW_seq ?_
      refine AW_seq ?_
      refine AW_region ?_
      refine sv hT (vP 8 2) rfl trivial rfl rfl trivial ?_
      refine sv hT (vL 4 1 0 (x.crew.map Member.e)) rfl trivial rfl rfl trivial ?_
      refine sv hT (vP 9 2) rfl trivial rfl rfl trivial ?_
      refine sv hT (vL 4 3 0 (y.crew.map Member.e)) rfl trivial rfl rfl trivial ?_
      refine scall hT [(1, 1, 0), (2, 3, 0)] [] (c_laws_eqMemberS x.crew y.crew (by omega)) rfl rfl rfl (f2c (ca (f2c (las rfl rfl rfl) f20)) (f2c (ca (f2c (las rfl rfl rfl) f20)) f20)) (f2c (cr (f2c lrv f20)) f20) rfl rfl trivial ?_
      refine sv hT (vB (!(decide (x.crew = y.crew)))) rfl trivial rfl rfl trivial ?_
      refine rN ?_
      refine cnd (notIff decide_eq_true_iff) rfl (fun h3 => ?_) (fun h3 => ?_)
      · refine AW_seq ?_
        refine AW_region ?_
        refine sv hT (vB false) rfl trivial rfl rfl trivial ?_
        refine rN ?_
        refine AW_ret ?_
        exact thR ((qrR (ends [cB false] [] rfl rfl (f2c (cm (f2c (lmB (by first | exact (decide_eq_false (by intro h; subst h; simp_all)).symm | exact (decide_eq_true (by cases x; cases y; simp_all)).symm)) f20)) f20))))
      · refine AW_skip ?_
        refine thN ?_
        refine AW_seq ?_
        refine AW_seq ?_
        refine AW_region ?_
        refine sv hT (vP 8 3) rfl trivial rfl rfl trivial ?_
        refine sv hT (vL 1 2 0 (x.past.map eB)) rfl trivial rfl rfl trivial ?_
        refine sv hT (vP 9 3) rfl trivial rfl rfl trivial ?_
        refine sv hT (vL 1 4 0 (y.past.map eB)) rfl trivial rfl rfl trivial ?_
        refine scall hT [(1, 2, 0), (2, 4, 0)] [] (c_laws_eqBoolS x.past y.past (by omega)) rfl rfl rfl (f2c (ca (f2c (las rfl rfl rfl) f20)) (f2c (ca (f2c (las rfl rfl rfl) f20)) f20)) (f2c (cr (f2c lrv f20)) f20) rfl rfl trivial ?_
        refine sv hT (vB (!(decide (x.past = y.past)))) rfl trivial rfl rfl trivial ?_
        refine rN ?_
        refine cnd (notIff decide_eq_true_iff) rfl (fun h4 => ?_) (fun h4 => ?_)
        · refine AW_seq ?_
          refine AW_region ?_
          refine sv hT (vB false) rfl trivial rfl rfl trivial ?_
          refine rN ?_
          refine AW_ret ?_
          exact thR ((qrR (ends [cB false] [] rfl rfl (f2c (cm (f2c (lmB (by first | exact (decide_eq_false (by intro h; subst h; simp_all)).symm | exact (decide_eq_true (by cases x; cases y; simp_all)).symm)) f20)) f20))))
        · refine AW_skip ?_
          refine thN ?_
          refine AW_seq ?_
          refine AW_region ?_
          refine sv hT (vB true) rfl trivial rfl rfl trivial ?_
          refine rN ?_
          refine AW_ret ?_
          exact (qrR (ends [cB true] [] rfl rfl (f2c (cm (f2c (lmB (by first | exact (decide_eq_false (by intro h; subst h; simp_all)).symm | exact (decide_eq_true (by cases x; cases y; simp_all)).symm)) f20)) f20)))

-- laws.eqTrek
theorem c_laws_eqTrek (x : Trek) (y : Trek) (hy0 : x.land.cells.length ≤ 140737488355328 ∧ x.depots.length ≤ 140737488355328 ∧ x.party.crew.length ≤ 140737488355328 ∧ x.party.past.length ≤ 140737488355328 ∧ x.journal.length ≤ 140737488355328) : Con Tryd.prog 28 [(true, Trek.l x 1 2 3 4 5), (true, Trek.l y 6 7 8 9 10)] [cB (decide (x = y))] := by
  refine con_mk hT (fn := Tryd.f28) 55 [.tmp 4] [(0, .c ((true, Trek.l x 1 2 3 4 5))), (1, .c ((true, Trek.l y 6 7 8 9 10)))] rfl rfl rfl rfl rfl rfl rfl ?_
  refine AW_seq ?_
  refine AW_region ?_
  refine sbox hT ((true, Trek.l x 1 2 3 4 5)) rfl rfl rfl rfl (ls := Trek.l x 1 2 3 4 5) rfl trivial ?_
  refine sbox hT ((true, Trek.l y 6 7 8 9 10)) rfl rfl rfl rfl (ls := Trek.l y 6 7 8 9 10) rfl trivial ?_
  refine sv hT (vB false) rfl trivial rfl rfl trivial ?_
  refine rN ?_
  refine AW_seq ?_
  refine AW_seq ?_
  refine AW_region ?_
  refine sv hT (vP 8 0) rfl trivial rfl rfl trivial ?_
  refine sv hT (vR (Land.l x.land 1)) rfl trivial rfl rfl trivial ?_
  refine sv hT (vP 9 0) rfl trivial rfl rfl trivial ?_
  refine sv hT (vR (Land.l y.land 6)) rfl trivial rfl rfl trivial ?_
  refine scall hT [(1, 1, 0), (2, 6, 0)] [] (c_laws_eqLand x.land y.land (by omega)) rfl rfl rfl (f2c (ca (f2c (lav rfl) (f2c (lav rfl) (f2c (las rfl rfl rfl) f20)))) (f2c (ca (f2c (lav rfl) (f2c (lav rfl) (f2c (las rfl rfl rfl) f20)))) f20)) (f2c (cr (f2c lrv f20)) f20) rfl rfl trivial ?_
  refine sv hT (vB (!(decide (x.land = y.land)))) rfl trivial rfl rfl trivial ?_
  refine rN ?_
  refine cnd (notIff decide_eq_true_iff) rfl (fun h1 => ?_) (fun h1 => ?_)
  · refine AW_seq ?_
    refine AW_region ?_
    refine sv hT (vB false) rfl trivial rfl rfl trivial ?_
    refine rN ?_
    refine AW_ret ?_
    exact thR ((qrR (ends [cB false] [] rfl rfl (f2c (cm (f2c (lmB (by first | exact (decide_eq_false (by intro h; subst h; simp_all)).symm | exact (decide_eq_true (by cases x; cases y; simp_all)).symm)) f20)) f20))))
  · refine AW_skip ?_
    refine thN ?_
    refine AW_seq ?_
    refine AW_seq ?_
    refine AW_region ?_
    refine sv hT (vP 8 3) rfl trivial rfl rfl trivial ?_
    refine sv hT (vI x.base) rfl trivial rfl rfl trivial ?_
    refine sv hT (vP 9 3) rfl trivial rfl rfl trivial ?_
    refine sv hT (vI y.base) rfl trivial rfl rfl trivial ?_
    refine sv hT (vB (x.base != y.base)) rfl trivial rfl rfl trivial ?_
    refine rN ?_
    refine cnd bne_iff_ne rfl (fun h2 => ?_) (fun h2 => ?_)
    · refine AW_seq ?_
      refine AW_region ?_
      refine sv hT (vB false) rfl trivial rfl rfl trivial ?_
      refine rN ?_
      refine AW_ret ?_
      exact thR ((qrR (ends [cB false] [] rfl rfl (f2c (cm (f2c (lmB (by first | exact (decide_eq_false (by intro h; subst h; simp_all)).symm | exact (decide_eq_true (by cases x; cases y; simp_all)).symm)) f20)) f20))))
    · refine AW_skip ?_
      refine thN ?_
      refine AW_seq ?_
      refine AW_seq ?_
      refine AW_region ?_
      refine sv hT (vP 8 4) rfl trivial rfl rfl trivial ?_
      refine sv hT (vR (Rule.l x.rule)) rfl trivial rfl rfl trivial ?_
      refine sv hT (vP 9 4) rfl trivial rfl rfl trivial ?_
      refine sv hT (vR (Rule.l y.rule)) rfl trivial rfl rfl trivial ?_
      refine scall hT [] [] (c_laws_eqRule x.rule y.rule) rfl rfl rfl (f2c (ca (f2c (lav rfl) (f2c (lav rfl) f20))) (f2c (ca (f2c (lav rfl) (f2c (lav rfl) f20))) f20)) (f2c (cr (f2c lrv f20)) f20) rfl rfl trivial ?_
      refine sv hT (vB (!(decide (x.rule = y.rule)))) rfl trivial rfl rfl trivial ?_
      refine rN ?_
      refine cnd (notIff decide_eq_true_iff) rfl (fun h3 => ?_) (fun h3 => ?_)
      · refine AW_seq ?_
        refine AW_region ?_
        refine sv hT (vB false) rfl trivial rfl rfl trivial ?_
        refine rN ?_
        refine AW_ret ?_
        exact thR ((qrR (ends [cB false] [] rfl rfl (f2c (cm (f2c (lmB (by first | exact (decide_eq_false (by intro h; subst h; simp_all)).symm | exact (decide_eq_true (by cases x; cases y; simp_all)).symm)) f20)) f20))))
      · refine AW_skip ?_
        refine thN ?_
        refine AW_seq ?_
        refine AW_seq ?_
        refine AW_region ?_
        refine sv hT (vP 8 6) rfl trivial rfl rfl trivial ?_
        refine sv hT (vL 2 2 0 (x.depots.map Depot.e)) rfl trivial rfl rfl trivial ?_
        refine sv hT (vP 9 6) rfl trivial rfl rfl trivial ?_
        refine sv hT (vL 2 7 0 (y.depots.map Depot.e)) rfl trivial rfl rfl trivial ?_
        refine scall hT [(1, 2, 0), (2, 7, 0)] [] (c_laws_eqDepotS x.depots y.depots (by omega)) rfl rfl rfl (f2c (ca (f2c (las rfl rfl rfl) f20)) (f2c (ca (f2c (las rfl rfl rfl) f20)) f20)) (f2c (cr (f2c lrv f20)) f20) rfl rfl trivial ?_
        refine sv hT (vB (!(decide (x.depots = y.depots)))) rfl trivial rfl rfl trivial ?_
        refine rN ?_
        refine cnd (notIff decide_eq_true_iff) rfl (fun h4 => ?_) (fun h4 => ?_)
        · refine AW_seq ?_
          refine AW_region ?_
          refine sv hT (vB false) rfl trivial rfl rfl trivial ?_
          refine rN ?_
          refine AW_ret ?_
          exact thR ((qrR (ends [cB false] [] rfl rfl (f2c (cm (f2c (lmB (by first | exact (decide_eq_false (by intro h; subst h; simp_all)).symm | exact (decide_eq_true (by cases x; cases y; simp_all)).symm)) f20)) f20))))
        · refine AW_skip ?_
          refine thN ?_
          refine AW_seq ?_
          refine AW_seq ?_
          refine AW_region ?_
          refine sv hT (vP 8 7) rfl trivial rfl rfl trivial ?_
          refine sv hT (vR (Party.l x.party 3 4)) rfl trivial rfl rfl trivial ?_
          refine sv hT (vP 9 7) rfl trivial rfl rfl trivial ?_
          refine sv hT (vR (Party.l y.party 8 9)) rfl trivial rfl rfl trivial ?_
          refine scall hT [(1, 3, 0), (2, 4, 0), (3, 8, 0), (4, 9, 0)] [] (c_laws_eqParty x.party y.party (by omega)) rfl rfl rfl (f2c (ca (f2c (lav rfl) (f2c (lav rfl) (f2c (las rfl rfl rfl) (f2c (las rfl rfl rfl) f20))))) (f2c (ca (f2c (lav rfl) (f2c (lav rfl) (f2c (las rfl rfl rfl) (f2c (las rfl rfl rfl) f20))))) f20)) (f2c (cr (f2c lrv f20)) f20) rfl rfl trivial ?_
          refine sv hT (vB (!(decide (x.party = y.party)))) rfl trivial rfl rfl trivial ?_
          refine rN ?_
          refine cnd (notIff decide_eq_true_iff) rfl (fun h5 => ?_) (fun h5 => ?_)
          · refine AW_seq ?_
            refine AW_region ?_
            refine sv hT (vB false) rfl trivial rfl rfl trivial ?_
            refine rN ?_
            refine AW_ret ?_
            exact thR ((qrR (ends [cB false] [] rfl rfl (f2c (cm (f2c (lmB (by first | exact (decide_eq_false (by intro h; subst h; simp_all)).symm | exact (decide_eq_true (by cases x; cases y; simp_all)).symm)) f20)) f20))))
          · refine AW_skip ?_
            refine thN ?_
            refine AW_seq ?_
            refine AW_seq ?_
            refine AW_region ?_
            refine sv hT (vP 8 11) rfl trivial rfl rfl trivial ?_
            refine sv hT (vL 4 5 0 (x.journal.map Page.e)) rfl trivial rfl rfl trivial ?_
            refine sv hT (vP 9 11) rfl trivial rfl rfl trivial ?_
            refine sv hT (vL 4 10 0 (y.journal.map Page.e)) rfl trivial rfl rfl trivial ?_
            refine scall hT [(1, 5, 0), (2, 10, 0)] [] (c_laws_eqPageS x.journal y.journal (by omega)) rfl rfl rfl (f2c (ca (f2c (las rfl rfl rfl) f20)) (f2c (ca (f2c (las rfl rfl rfl) f20)) f20)) (f2c (cr (f2c lrv f20)) f20) rfl rfl trivial ?_
            refine sv hT (vB (!(decide (x.journal = y.journal)))) rfl trivial rfl rfl trivial ?_
            refine rN ?_
            refine cnd (notIff decide_eq_true_iff) rfl (fun h6 => ?_) (fun h6 => ?_)
            · refine AW_seq ?_
              refine AW_region ?_
              refine sv hT (vB false) rfl trivial rfl rfl trivial ?_
              refine rN ?_
              refine AW_ret ?_
              exact thR ((qrR (ends [cB false] [] rfl rfl (f2c (cm (f2c (lmB (by first | exact (decide_eq_false (by intro h; subst h; simp_all)).symm | exact (decide_eq_true (by cases x; cases y; simp_all)).symm)) f20)) f20))))
            · refine AW_skip ?_
              refine thN ?_
              refine AW_seq ?_
              refine AW_seq ?_
              refine AW_region ?_
              refine sv hT (vP 8 12) rfl trivial rfl rfl trivial ?_
              refine sv hT (vI x.day) rfl trivial rfl rfl trivial ?_
              refine sv hT (vP 9 12) rfl trivial rfl rfl trivial ?_
              refine sv hT (vI y.day) rfl trivial rfl rfl trivial ?_
              refine sv hT (vB (x.day != y.day)) rfl trivial rfl rfl trivial ?_
              refine rN ?_
              refine cnd bne_iff_ne rfl (fun h7 => ?_) (fun h7 => ?_)
              · refine AW_seq ?_
                refine AW_region ?_
                refine sv hT (vB false) rfl trivial rfl rfl trivial ?_
                refine rN ?_
                refine AW_ret ?_
                exact thR ((qrR (ends [cB false] [] rfl rfl (f2c (cm (f2c (lmB (by first | exact (decide_eq_false (by intro h; subst h; simp_all)).symm | exact (decide_eq_true (by cases x; cases y; simp_all)).symm)) f20)) f20))))
              · refine AW_skip ?_
                refine thN ?_
                refine AW_seq ?_
                refine AW_seq ?_
                refine AW_region ?_
                refine sv hT (vP 8 13) rfl trivial rfl rfl trivial ?_
                refine sv hT (vI x.given) rfl trivial rfl rfl trivial ?_
                refine sv hT (vP 9 13) rfl trivial rfl rfl trivial ?_
                refine sv hT (vI y.given) rfl trivial rfl rfl trivial ?_
                refine sv hT (vB (x.given != y.given)) rfl trivial rfl rfl trivial ?_
                refine rN ?_
                refine cnd bne_iff_ne rfl (fun h8 => ?_) (fun h8 => ?_)
                · refine AW_seq ?_
                  refine AW_region ?_
                  refine sv hT (vB false) rfl trivial rfl rfl trivial ?_
                  refine rN ?_
                  refine AW_ret ?_
                  exact thR ((qrR (ends [cB false] [] rfl rfl (f2c (cm (f2c (lmB (by first | exact (decide_eq_false (by intro h; subst h; simp_all)).symm | exact (decide_eq_true (by cases x; cases y; simp_all)).symm)) f20)) f20))))
                · refine AW_skip ?_
                  refine thN ?_
                  refine AW_seq ?_
                  refine AW_seq ?_
                  refine AW_region ?_
                  refine sv hT (vP 8 14) rfl trivial rfl rfl trivial ?_
                  refine sv hT (vI x.eaten) rfl trivial rfl rfl trivial ?_
                  refine sv hT (vP 9 14) rfl trivial rfl rfl trivial ?_
                  refine sv hT (vI y.eaten) rfl trivial rfl rfl trivial ?_
                  refine sv hT (vB (x.eaten != y.eaten)) rfl trivial rfl rfl trivial ?_
                  refine rN ?_
                  refine cnd bne_iff_ne rfl (fun h9 => ?_) (fun h9 => ?_)
                  · refine AW_seq ?_
                    refine AW_region ?_
                    refine sv hT (vB false) rfl trivial rfl rfl trivial ?_
                    refine rN ?_
                    refine AW_ret ?_
                    exact thR ((qrR (ends [cB false] [] rfl rfl (f2c (cm (f2c (lmB (by first | exact (decide_eq_false (by intro h; subst h; simp_all)).symm | exact (decide_eq_true (by cases x; cases y; simp_all)).symm)) f20)) f20))))
                  · refine AW_skip ?_
                    refine thN ?_
                    refine AW_seq ?_
                    refine AW_region ?_
                    refine sv hT (vB true) rfl trivial rfl rfl trivial ?_
                    refine rN ?_
                    refine AW_ret ?_
                    exact (qrR (ends [cB true] [] rfl rfl (f2c (cm (f2c (lmB (by first | exact (decide_eq_false (by intro h; subst h; simp_all)).symm | exact (decide_eq_true (by cases x; cases y; simp_all)).symm)) f20)) f20)))

theorem total_take {l : List Depot} {i : Nat} (h : i < l.length) : total (l.take (i + 1)) = total (l.take i) + max 0 (min 10000 (l.getD i default).food) := by
  have key : ∀ (a : List Depot) (d : Depot), total (a ++ [d]) = total a + max 0 (min 10000 d.food) := by
    intro a d
    induction a with
    | nil => simp [total]
    | cons e a ih => simp only [List.cons_append, total, ih]; omega
  rw [takeS (d := default) h, key]
theorem total_rng : ∀ l : List Depot, 0 ≤ total l ∧ total l ≤ 10000 * (l.length : Int)
  | [] => by simp [total]
  | d :: l => by
    have := total_rng l
    simp only [total, List.length_cons]
    omega
theorem total_takeB (l : List Depot) (i : Nat) : 0 ≤ total (l.take i) ∧ total (l.take i) ≤ 10000 * (l.length : Int) := by
  have h1 := total_rng (l.take i)
  have h2 : (l.take i).length ≤ l.length := by simp; omega
  omega
def trekT (t : Trek) : List UInt8 := joinT ([t.day, t.given, t.eaten, t.party.food, total t.depots, (t.journal.length : Int)].map Lib.itoa)

-- spec.Max
theorem c_spec_Max (a : Int) (b : Int) : Con Tryd.prog 55 [cI a, cI b] [cI (if b > a then b else a)] := by
  refine con_mk hT (fn := Tryd.f55) 10 [.tmp 4] [(0, .c (cI a)), (1, .c (cI b))] rfl rfl rfl rfl rfl rfl rfl ?_
  refine AW_seq ?_
  refine AW_region ?_
  refine sv hT (vI 0) rfl trivial rfl rfl trivial ?_
  refine rN ?_
  refine AW_seq ?_
  refine AW_seq ?_
  refine AW_region ?_
  refine sv hT (vI b) rfl trivial rfl rfl trivial ?_
  refine sv hT (vI a) rfl trivial rfl rfl trivial ?_
  refine sv hT (vB (decide (b > a))) rfl trivial rfl rfl trivial ?_
  refine rN ?_
  refine cnd decide_eq_true_iff rfl (fun h1 => ?_) (fun h1 => ?_)
  · refine AW_seq ?_
    refine AW_region ?_
    refine sv hT (vI b) rfl trivial rfl rfl trivial ?_
    refine sv hT (vI b) rfl trivial rfl rfl trivial ?_
    refine rN ?_
    refine AW_ret ?_
    exact thR ((qrR (ends [cI b] [] rfl rfl (f2c (cm (f2c (lmI (by rw [if_pos h1])) f20)) f20))))
  · refine AW_skip ?_
    refine thN ?_
    refine AW_seq ?_
    refine AW_region ?_
    refine sv hT (vI a) rfl trivial rfl rfl trivial ?_
    refine sv hT (vI a) rfl trivial rfl rfl trivial ?_
    refine rN ?_
    refine AW_ret ?_
    exact (qrR (ends [cI a] [] rfl rfl (f2c (cm (f2c (lmI (by rw [if_neg h1])) f20)) f20)))

-- spec.Min
theorem c_spec_Min (a : Int) (b : Int) : Con Tryd.prog 56 [cI a, cI b] [cI (if b < a then b else a)] := by
  refine con_mk hT (fn := Tryd.f56) 10 [.tmp 4] [(0, .c (cI a)), (1, .c (cI b))] rfl rfl rfl rfl rfl rfl rfl ?_
  refine AW_seq ?_
  refine AW_region ?_
  refine sv hT (vI 0) rfl trivial rfl rfl trivial ?_
  refine rN ?_
  refine AW_seq ?_
  refine AW_seq ?_
  refine AW_region ?_
  refine sv hT (vI b) rfl trivial rfl rfl trivial ?_
  refine sv hT (vI a) rfl trivial rfl rfl trivial ?_
  refine sv hT (vB (decide (b < a))) rfl trivial rfl rfl trivial ?_
  refine rN ?_
  refine cnd decide_eq_true_iff rfl (fun h1 => ?_) (fun h1 => ?_)
  · refine AW_seq ?_
    refine AW_region ?_
    refine sv hT (vI b) rfl trivial rfl rfl trivial ?_
    refine sv hT (vI b) rfl trivial rfl rfl trivial ?_
    refine rN ?_
    refine AW_ret ?_
    exact thR ((qrR (ends [cI b] [] rfl rfl (f2c (cm (f2c (lmI (by rw [if_pos h1])) f20)) f20))))
  · refine AW_skip ?_
    refine thN ?_
    refine AW_seq ?_
    refine AW_region ?_
    refine sv hT (vI a) rfl trivial rfl rfl trivial ?_
    refine sv hT (vI a) rfl trivial rfl rfl trivial ?_
    refine rN ?_
    refine AW_ret ?_
    exact (qrR (ends [cI a] [] rfl rfl (f2c (cm (f2c (lmI (by rw [if_neg h1])) f20)) f20)))

-- spec.TotalFood
theorem c_spec_TotalFood (l : List Depot) (hy0 : l.length ≤ 1099511627776) : Con Tryd.prog 42 [cL 2 1 0 (l.map Depot.e)] [cI (total l)] := by
  refine con_mk hT (fn := Tryd.f42) 21 [.tmp 2] [(0, .c (cL 2 1 0 (l.map Depot.e)))] rfl rfl rfl rfl rfl rfl rfl ?_
  refine AW_seq ?_
  refine AW_region ?_
  refine sv hT (vI 0) rfl trivial rfl rfl trivial ?_
  refine rN ?_
  refine AW_seq ?_
  refine AW_region ?_
  refine sv hT (vI 0) rfl trivial rfl rfl trivial ?_
  refine rN ?_
  refine AW_seq ?_
  refine AW_seq ?_
  refine AW_region ?_
  refine sv hT (vI 0) rfl trivial rfl rfl trivial ?_
  refine rN ?_
  refine AW_block ?_
  refine lp (α := {i : Nat // i ≤ l.length}) (fun x' => ⟨[(0, vL 2 1 0 (l.map Depot.e)), (2, vI 0), (3, vI (total (l.take x'.1))), (4, vI (x'.1 : Int))], [], 100, 8, 21⟩) (fun x' => l.length - x'.1) ⟨0, by omega⟩ [] [] (sm rfl (emc rfl (f2c (lma rfl rfl) f20) (emc rfl (f2c (lmI rfl) f20) (emc rfl (f2c (lmI (by first | rfl | (rw [total_take (by omega)]; omega))) f20) (emc rfl (f2c (lmI (by simp)) f20) em0)))) xm0) (fun x' => ?_)
  obtain ⟨i, hi⟩ := x'
  have hb := total_takeB l i
  change AW _ _ _ ⟨[(0, vL 2 1 0 (l.map Depot.e)), (2, vI 0), (3, vI (total (l.take i))), (4, vI (i : Int))], [], 100, 8, 21⟩
  refine AW_seq ?_
  refine AW_seq ?_
  refine AW_region ?_
  refine sv hT (vI (i : Int)) rfl trivial rfl rfl trivial ?_
  refine sv hT (vL 2 1 0 (l.map Depot.e)) rfl trivial rfl rfl trivial ?_
  refine sv hT (vI (l.length : Int)) lenM trivial rfl rfl trivial ?_
  refine sv hT (vB (decide ((i : Int) < (l.length : Int)))) rfl trivial rfl rfl trivial ?_
  refine rN ?_
  refine cnd decide_eq_true_iff rfl (fun h1 => ?_) (fun h1 => ?_)
  · refine AW_skip ?_
    refine thN ?_
    refine AW_seq ?_
    refine AW_block ?_
    refine AW_region ?_
    refine sv hT (vI (total (l.take i))) rfl trivial rfl rfl trivial ?_
    refine sv hT (vL 2 1 0 (l.map Depot.e)) rfl trivial rfl rfl trivial ?_
    refine sv hT (vI (i : Int)) rfl trivial rfl rfl trivial ?_
    refine sv hT (vE 2 1 i 0 (Depot.e (l.getD i default))) (ixM (by omega)) (okM (by omega)) rfl rfl trivial ?_
    refine sv hT (vE 2 1 i 1 (Depot.e (l.getD i default))) rfl trivial rfl rfl trivial ?_
    refine sv hT (vI ((l.getD i default).food)) rfl trivial rfl rfl trivial ?_
    refine scall hT [] [] (c_spec_Min 10000 ((l.getD i default).food)) rfl rfl rfl (f2c (ca (f2c (lav rfl) f20)) (f2c (ca (f2c (lav rfl) f20)) f20)) (f2c (cr (f2c lrv f20)) f20) rfl rfl trivial ?_
    refine scall hT [] [] (c_spec_Max 0 (if ((l.getD i default).food) < 10000 then ((l.getD i default).food) else 10000)) rfl rfl rfl (f2c (ca (f2c (lav rfl) f20)) (f2c (ca (f2c (lav rfl) f20)) f20)) (f2c (cr (f2c lrv f20)) f20) rfl rfl trivial ?_
    refine sv hT (vI ((total (l.take i)) + (if (if ((l.getD i default).food) < 10000 then ((l.getD i default).food) else 10000) > 0 then (if ((l.getD i default).food) < 10000 then ((l.getD i default).food) else 10000) else 0))) (eqI (wI_id (by omega) (by omega))) trivial rfl rfl trivial ?_
    refine sv hT (vI ((total (l.take i)) + (if (if ((l.getD i default).food) < 10000 then ((l.getD i default).food) else 10000) > 0 then (if ((l.getD i default).food) < 10000 then ((l.getD i default).food) else 10000) else 0))) rfl trivial rfl rfl trivial ?_
    refine rE ?_
    refine ibN ?_
    refine thN ?_
    refine AW_region ?_
    refine sv hT (vI (i : Int)) rfl trivial rfl rfl trivial ?_
    refine sv hT (vI ((i : Int) + 1)) (eqI (wI_id (by omega) (by omega))) trivial rfl rfl trivial ?_
    refine sv hT (vI ((i : Int) + 1)) rfl trivial rfl rfl trivial ?_
    refine rE ?_
    exact thN ⟨⟨i + 1, by omega⟩, [], [], (by show l.length - (i + 1) < l.length - i; omega), (sm rfl (emc rfl (f2c (lma rfl rfl) f20) (emc rfl (f2c (lmI rfl) f20) (emc rfl (f2c (lmI (by first | rfl | (rw [total_take (by omega)]; omega))) f20) (emc rfl (f2c (lmI (by simp)) f20) em0)))) xm0)⟩
  · refine AW_exit ?_
    refine thE (thE (ibH ?_))
    refine thN ?_
    refine AW_seq ?_
    refine AW_region ?_
    refine sv hT (vI (total (l.take i))) rfl trivial rfl rfl trivial ?_
    refine sv hT (vI (total (l.take i))) rfl trivial rfl rfl trivial ?_
    refine rN ?_
    refine AW_ret ?_
    exact (qrR (ends [cI (total (l.take i))] [] rfl rfl (f2c (cm (f2c (lmI (by rw [List.take_of_length_le (by omega)])) f20)) f20)))

-- impl.TotalFood
theorem c_impl_TotalFood (l : List Depot) (hy0 : l.length ≤ 1099511627776) : Con Tryd.prog 46 [cL 2 1 0 (l.map Depot.e)] [cI (total l)] := by
  refine con_mk hT (fn := Tryd.f46) 20 [.tmp 2] [(0, .c (cL 2 1 0 (l.map Depot.e)))] rfl rfl rfl rfl rfl rfl rfl ?_
  refine AW_seq ?_
  refine AW_region ?_
  refine sv hT (vI 0) rfl trivial rfl rfl trivial ?_
  refine rN ?_
  refine AW_seq ?_
  refine AW_region ?_
  refine sv hT (vI 0) rfl trivial rfl rfl trivial ?_
  refine rN ?_
  refine AW_seq ?_
  refine AW_seq ?_
  refine AW_region ?_
  refine sv hT (vL 2 1 0 (l.map Depot.e)) rfl trivial rfl rfl trivial ?_
  refine sv hT (vI (l.length : Int)) lenM trivial rfl rfl trivial ?_
  refine sv hT (vI 0) rfl trivial rfl rfl trivial ?_
  refine rN ?_
  refine AW_block ?_
  refine lp (α := {i : Nat // i ≤ l.length}) (fun x' => ⟨[(2, vI 0), (3, vI (total (l.take x'.1))), (6, vL 2 1 0 (l.map Depot.e)), (7, vI (l.length : Int)), (8, vI (x'.1 : Int))], [], 100, 8, 20⟩) (fun x' => l.length - x'.1) ⟨0, by omega⟩ [] [] (sm rfl (emc rfl (f2c (lmI rfl) f20) (emc rfl (f2c (lmI (by first | rfl | (rw [total_take (by omega)]; omega))) f20) (emc rfl (f2c (lma rfl rfl) f20) (emc rfl (f2c (lmI rfl) f20) (emc rfl (f2c (lmI (by simp)) f20) em0))))) xm0) (fun x' => ?_)
  obtain ⟨i, hi⟩ := x'
  have hb := total_takeB l i
  change AW _ _ _ ⟨[(2, vI 0), (3, vI (total (l.take i))), (6, vL 2 1 0 (l.map Depot.e)), (7, vI (l.length : Int)), (8, vI (i : Int))], [], 100, 8, 20⟩
  refine AW_seq ?_
  refine AW_region ?_
  refine sv hT (vB (decide ((i : Int) < (l.length : Int)))) rfl trivial rfl rfl trivial ?_
  refine rN ?_
  refine AW_seq ?_
  refine cnd decide_eq_true_iff rfl (fun h1 => ?_) (fun h1 => ?_)
  · refine AW_skip ?_
    refine thN ?_
    refine AW_seq ?_
    refine AW_block ?_
    refine AW_seq ?_
    refine AW_region ?_
    refine sv hT (vE 2 1 i 0 (Depot.e (l.getD i default))) (ixM (by omega)) (okM (by omega)) rfl rfl trivial ?_
    refine sv hT (vR (Depot.l (l.getD i default))) rfl trivial rfl rfl trivial ?_
    refine salloc hT rfl rfl rfl rfl (ls := [lI 0, lI 0]) rfl trivial ?_
    refine sst hT (Depot.l (l.getD i default)) rfl rfl rfl rfl rfl rfl rfl rfl trivial ?_
    refine rN ?_
    refine AW_region ?_
    refine sv hT (vI (total (l.take i))) rfl trivial rfl rfl trivial ?_
    refine sv hT (vP 8 1) rfl trivial rfl rfl trivial ?_
    refine sv hT (vI ((l.getD i default).food)) rfl trivial rfl rfl trivial ?_
    refine sv hT (vI (if 0 > ((l.getD i default).food) then 0 else ((l.getD i default).food))) rfl trivial rfl rfl trivial ?_
    refine sv hT (vI (if 10000 < (if 0 > ((l.getD i default).food) then 0 else ((l.getD i default).food)) then 10000 else (if 0 > ((l.getD i default).food) then 0 else ((l.getD i default).food)))) rfl trivial rfl rfl trivial ?_
    refine sv hT (vI ((total (l.take i)) + (if 10000 < (if 0 > ((l.getD i default).food) then 0 else ((l.getD i default).food)) then 10000 else (if 0 > ((l.getD i default).food) then 0 else ((l.getD i default).food))))) (eqI (wI_id (by omega) (by omega))) trivial rfl rfl trivial ?_
    refine sv hT (vI ((total (l.take i)) + (if 10000 < (if 0 > ((l.getD i default).food) then 0 else ((l.getD i default).food)) then 10000 else (if 0 > ((l.getD i default).food) then 0 else ((l.getD i default).food))))) rfl trivial rfl rfl trivial ?_
    refine rE ?_
    refine ibN ?_
    refine thN ?_
    refine AW_region ?_
    refine sv hT (vI ((i : Int) + 1)) (eqI (wI_id (by omega) (by omega))) trivial rfl rfl trivial ?_
    refine sv hT (vI ((i : Int) + 1)) rfl trivial rfl rfl trivial ?_
    refine rE ?_
    exact thN ⟨⟨i + 1, by omega⟩, [], [], (by show l.length - (i + 1) < l.length - i; omega), (sm rfl (emc rfl (f2c (lmI rfl) f20) (emc rfl (f2c (lmI (by first | rfl | (rw [total_take (by omega)]; omega))) f20) (emc rfl (f2c (lma rfl rfl) f20) (emc rfl (f2c (lmI rfl) f20) (emc rfl (f2c (lmI (by simp)) f20) em0))))) xm0)⟩
  · refine AW_exit ?_
    refine thE (thE (ibH ?_))
    refine thN ?_
    refine AW_seq ?_
    refine AW_region ?_
    refine sv hT (vI (total (l.take i))) rfl trivial rfl rfl trivial ?_
    refine sv hT (vI (total (l.take i))) rfl trivial rfl rfl trivial ?_
    refine rN ?_
    refine AW_ret ?_
    exact (qrR (ends [cI (total (l.take i))] [] rfl rfl (f2c (cm (f2c (lmI (by rw [List.take_of_length_le (by omega)])) f20)) f20)))

-- spec.FormatNumbers
theorem c_spec_FormatNumbers (l : List Int) (hy0 : l.length ≤ 1048576) (hy1 : ∀ n ∈ l, inI n) : Con Tryd.prog 41 [cL 1 1 0 (l.map eI)] [cS (joinT (l.map Lib.itoa))] := by
  refine con_mk hT (fn := Tryd.f41) 22 [.tmp 2] [(0, .c (cL 1 1 0 (l.map eI)))] rfl rfl rfl rfl rfl rfl rfl ?_
  refine AW_seq ?_
  refine AW_region ?_
  refine sv hT (vS []) rfl trivial rfl rfl trivial ?_
  refine rN ?_
  refine AW_seq ?_
  refine AW_region ?_
  refine slit0 hT rfl rfl rfl rfl rfl (z := 1) rfl trivial ?_
  refine sv hT (vL 1 0 0 []) rfl trivial rfl rfl trivial ?_
  refine rN ?_
  refine AW_seq ?_
  refine AW_seq ?_
  refine AW_region ?_
  refine sv hT (vI 0) rfl trivial rfl rfl trivial ?_
  refine rN ?_
  refine AW_block ?_
  refine own1 3 rfl ?_
  refine lp (α := {i : Nat // i ≤ l.length}) (fun x' => ⟨[(0, vL 1 1 0 (l.map eI)), (2, vS []), (3, vL 1 116 0 (((l.take x'.1).map Lib.itoa).map eS)), (4, vI (x'.1 : Int))], [], 4228, 9, 22⟩) (fun x' => l.length - x'.1) ⟨0, by omega⟩ [(116, 116, 0)] [] (sm rfl (emc rfl (f2c (lma rfl rfl) f20) (emc rfl (f2c (lmS rfl) f20) (emc rfl (f2c (lmo (by first | rfl | exact congrArg (List.map eS) (mapStep (f := Lib.itoa) (d := 0) (by omega))) rfl rfl rfl) f20) (emc rfl (f2c (lmI (by simp)) f20) em0)))) xm0) (fun x' => ?_)
  obtain ⟨i, hi⟩ := x'
  change AW _ _ _ ⟨[(0, vL 1 1 0 (l.map eI)), (2, vS []), (3, vL 1 116 0 (((l.take i).map Lib.itoa).map eS)), (4, vI (i : Int))], [], 4228, 9, 22⟩
  refine AW_seq ?_
  refine AW_seq ?_
  refine AW_region ?_
  refine sv hT (vI (i : Int)) rfl trivial rfl rfl trivial ?_
  refine sv hT (vL 1 1 0 (l.map eI)) rfl trivial rfl rfl trivial ?_
  refine sv hT (vI (l.length : Int)) lenM trivial rfl rfl trivial ?_
  refine sv hT (vB (decide ((i : Int) < (l.length : Int)))) rfl trivial rfl rfl trivial ?_
  refine rN ?_
  refine cnd decide_eq_true_iff rfl (fun h1 => ?_) (fun h1 => ?_)
  · refine AW_skip ?_
    refine thN ?_
    refine AW_seq ?_
    refine AW_block ?_
    refine AW_region ?_
    refine sv hT (vL 1 116 0 (((l.take i).map Lib.itoa).map eS)) rfl trivial rfl rfl trivial ?_
    refine sv hT (vL 1 1 0 (l.map eI)) rfl trivial rfl rfl trivial ?_
    refine sv hT (vI (i : Int)) rfl trivial rfl rfl trivial ?_
    refine sv hT (vE 1 1 i 0 (eI (l.getD i 0))) (ixM (by omega)) (okM (by omega)) rfl rfl trivial ?_
    refine sv hT (vI (l.getD i 0)) rfl trivial rfl rfl trivial ?_
    refine scall hT [] [] (c_spec_FormatInt (l.getD i 0) (hy1 _ (getD_mem' (by omega)))) rfl rfl rfl (f2c (ca (f2c (lav rfl) f20)) f20) (f2c (cr (f2c lrv f20)) f20) rfl rfl trivial ?_
    refine slit hT ([Lib.itoa (l.getD i 0)].map eS) rfl rfl rfl (z := 1) rfl rfl rfl rfl rfl rfl trivial ?_
    refine sapk hT ((((l.take i).map Lib.itoa) ++ [Lib.itoa (l.getD i 0)]).map eS) [3, 12] rfl rfl rfl rfl rfl rfl (by change (_ + _) * 16 ≤ _; simp <;> omega) (z := 1) rfl List.map_append.symm rfl rfl trivial ?_
    refine sv hT (vL 1 4260 0 ((((l.take i).map Lib.itoa) ++ [Lib.itoa (l.getD i 0)]).map eS)) rfl trivial rfl rfl trivial ?_
    refine rE ?_
    refine ibN ?_
    refine thN ?_
    refine AW_region ?_
    refine sv hT (vI (i : Int)) rfl trivial rfl rfl trivial ?_
    refine sv hT (vI ((i : Int) + 1)) (eqI (wI_id (by omega) (by omega))) trivial rfl rfl trivial ?_
    refine sv hT (vI ((i : Int) + 1)) rfl trivial rfl rfl trivial ?_
    refine rE ?_
    exact thN ⟨⟨i + 1, by omega⟩, [(116, 4260, 0)], [], (by show l.length - (i + 1) < l.length - i; omega), (sm rfl (emc rfl (f2c (lma rfl rfl) f20) (emc rfl (f2c (lmS rfl) f20) (emc rfl (f2c (lmo (by first | rfl | exact congrArg (List.map eS) (mapStep (f := Lib.itoa) (d := 0) (by omega))) rfl rfl rfl) f20) (emc rfl (f2c (lmI (by simp)) f20) em0)))) xm0)⟩
  · refine AW_exit ?_
    refine thE (thE (ibH ?_))
    refine thN ?_
    refine AW_seq ?_
    refine AW_region ?_
    refine sv hT (vL 1 116 0 (((l.take i).map Lib.itoa).map eS)) rfl trivial rfl rfl trivial ?_
    refine scall hT [(1, 116, 0)] [] (c_spec_l39Join ((l.take i).map Lib.itoa) (by rw [List.take_of_length_le (by omega)]; have := lens_map' Lib.itoa 20 l (fun a ha => itoa_len (hy1 a ha)); simp only [List.length_map]; omega)) rfl rfl rfl (f2c (ca (f2c (las rfl rfl rfl) f20)) f20) (f2c (cr (f2c lrv f20)) f20) rfl rfl trivial ?_
    refine sv hT (vS (joinT ((l.take i).map Lib.itoa))) rfl trivial rfl rfl trivial ?_
    refine rN ?_
    refine AW_ret ?_
    exact (qrR (ends [cS (joinT ((l.take i).map Lib.itoa))] [] rfl rfl (f2c (cm (f2c (lmS (by rw [List.take_of_length_le (by omega)])) f20)) f20)))

-- impl.FormatNumbers
theorem c_impl_FormatNumbers (l : List Int) (hy0 : l.length ≤ 1048576) (hy1 : ∀ n ∈ l, inI n) : Con Tryd.prog 45 [cL 1 1 0 (l.map eI)] [cS (joinT (l.map Lib.itoa))] := by
  refine con_mk hT (fn := Tryd.f45) 21 [.tmp 2] [(0, .c (cL 1 1 0 (l.map eI)))] rfl rfl rfl rfl rfl rfl rfl ?_
  refine AW_seq ?_
  refine AW_region ?_
  refine sv hT (vS []) rfl trivial rfl rfl trivial ?_
  refine rN ?_
  refine AW_seq ?_
  refine AW_region ?_
  refine slit0 hT rfl rfl rfl rfl rfl (z := 1) rfl trivial ?_
  refine sv hT (vL 1 0 0 []) rfl trivial rfl rfl trivial ?_
  refine rN ?_
  refine AW_seq ?_
  refine AW_seq ?_
  refine AW_region ?_
  refine sv hT (vL 1 1 0 (l.map eI)) rfl trivial rfl rfl trivial ?_
  refine sv hT (vI (l.length : Int)) lenM trivial rfl rfl trivial ?_
  refine sv hT (vI 0) rfl trivial rfl rfl trivial ?_
  refine rN ?_
  refine AW_block ?_
  refine own1 3 rfl ?_
  refine lp (α := {i : Nat // i ≤ l.length}) (fun x' => ⟨[(2, vS []), (3, vL 1 116 0 (((l.take x'.1).map Lib.itoa).map eS)), (7, vL 1 1 0 (l.map eI)), (8, vI (l.length : Int)), (9, vI (x'.1 : Int))], [], 4228, 9, 21⟩) (fun x' => l.length - x'.1) ⟨0, by omega⟩ [(116, 116, 0)] [] (sm rfl (emc rfl (f2c (lmS rfl) f20) (emc rfl (f2c (lmo (by first | rfl | exact congrArg (List.map eS) (mapStep (f := Lib.itoa) (d := 0) (by omega))) rfl rfl rfl) f20) (emc rfl (f2c (lma rfl rfl) f20) (emc rfl (f2c (lmI rfl) f20) (emc rfl (f2c (lmI (by simp)) f20) em0))))) xm0) (fun x' => ?_)
  obtain ⟨i, hi⟩ := x'
  change AW _ _ _ ⟨[(2, vS []), (3, vL 1 116 0 (((l.take i).map Lib.itoa).map eS)), (7, vL 1 1 0 (l.map eI)), (8, vI (l.length : Int)), (9, vI (i : Int))], [], 4228, 9, 21⟩
  refine AW_seq ?_
  refine AW_region ?_
  refine sv hT (vB (decide ((i : Int) < (l.length : Int)))) rfl trivial rfl rfl trivial ?_
  refine rN ?_
  refine AW_seq ?_
  refine cnd decide_eq_true_iff rfl (fun h1 => ?_) (fun h1 => ?_)
  · refine AW_skip ?_
    refine thN ?_
    refine AW_seq ?_
    refine AW_block ?_
    refine AW_seq ?_
    refine AW_region ?_
    refine sv hT (vE 1 1 i 0 (eI (l.getD i 0))) (ixM (by omega)) (okM (by omega)) rfl rfl trivial ?_
    refine sv hT (vI (l.getD i 0)) rfl trivial rfl rfl trivial ?_
    refine sv hT (vI (l.getD i 0)) rfl trivial rfl rfl trivial ?_
    refine rN ?_
    refine AW_region ?_
    refine sv hT (vL 1 116 0 (((l.take i).map Lib.itoa).map eS)) rfl trivial rfl rfl trivial ?_
    refine sv hT (vI (l.getD i 0)) rfl trivial rfl rfl trivial ?_
    refine scall hT [] [] (c_impl_FormatInt (l.getD i 0) (hy1 _ (getD_mem' (by omega)))) rfl rfl rfl (f2c (ca (f2c (lav rfl) f20)) f20) (f2c (cr (f2c lrv f20)) f20) rfl rfl trivial ?_
    refine slit hT ([Lib.itoa (l.getD i 0)].map eS) rfl rfl rfl (z := 1) rfl rfl rfl rfl rfl rfl trivial ?_
    refine sapk hT ((((l.take i).map Lib.itoa) ++ [Lib.itoa (l.getD i 0)]).map eS) [3, 13] rfl rfl rfl rfl rfl rfl (by change (_ + _) * 16 ≤ _; simp <;> omega) (z := 1) rfl List.map_append.symm rfl rfl trivial ?_
    refine sv hT (vL 1 4260 0 ((((l.take i).map Lib.itoa) ++ [Lib.itoa (l.getD i 0)]).map eS)) rfl trivial rfl rfl trivial ?_
    refine rE ?_
    refine ibN ?_
    refine thN ?_
    refine AW_region ?_
    refine sv hT (vI ((i : Int) + 1)) (eqI (wI_id (by omega) (by omega))) trivial rfl rfl trivial ?_
    refine sv hT (vI ((i : Int) + 1)) rfl trivial rfl rfl trivial ?_
    refine rE ?_
    exact thN ⟨⟨i + 1, by omega⟩, [(116, 4260, 0)], [], (by show l.length - (i + 1) < l.length - i; omega), (sm rfl (emc rfl (f2c (lmS rfl) f20) (emc rfl (f2c (lmo (by first | rfl | exact congrArg (List.map eS) (mapStep (f := Lib.itoa) (d := 0) (by omega))) rfl rfl rfl) f20) (emc rfl (f2c (lma rfl rfl) f20) (emc rfl (f2c (lmI rfl) f20) (emc rfl (f2c (lmI (by simp)) f20) em0))))) xm0)⟩
  · refine AW_exit ?_
    refine thE (thE (ibH ?_))
    refine thN ?_
    refine AW_seq ?_
    refine AW_region ?_
    refine sv hT (vL 1 116 0 (((l.take i).map Lib.itoa).map eS)) rfl trivial rfl rfl trivial ?_
    refine scall hT [(1, 116, 0)] [] (c_impl_orDash ((l.take i).map Lib.itoa) (by rw [List.take_of_length_le (by omega)]; have := lens_map' Lib.itoa 20 l (fun a ha => itoa_len (hy1 a ha)); simp only [List.length_map]; omega)) rfl rfl rfl (f2c (ca (f2c (las rfl rfl rfl) f20)) f20) (f2c (cr (f2c lrv f20)) f20) rfl rfl trivial ?_
    refine sv hT (vS (joinT ((l.take i).map Lib.itoa))) rfl trivial rfl rfl trivial ?_
    refine rN ?_
    refine AW_ret ?_
    exact (qrR (ends [cS (joinT ((l.take i).map Lib.itoa))] [] rfl rfl (f2c (cm (f2c (lmS (by rw [List.take_of_length_le (by omega)])) f20)) f20)))

-- spec.FormatTrek
theorem c_spec_FormatTrek (t : Trek) (hy0 : inI t.day ∧ inI t.given ∧ inI t.eaten ∧ inI t.party.food ∧ t.depots.length ≤ 1099511627776 ∧ t.journal.length ≤ 1099511627776) : Con Tryd.prog 25 [(true, Trek.l t 1 2 3 4 5)] [cS (trekT t)] := by
  refine con_mk hT (fn := Tryd.f25) 20 [.tmp 2] [(0, .c ((true, Trek.l t 1 2 3 4 5)))] rfl rfl rfl rfl rfl rfl rfl ?_
  refine AW_seq ?_
  refine AW_region ?_
  refine sbox hT ((true, Trek.l t 1 2 3 4 5)) rfl rfl rfl rfl (ls := Trek.l t 1 2 3 4 5) rfl trivial ?_
  refine sv hT (vS []) rfl trivial rfl rfl trivial ?_
  refine rN ?_
  refine AW_seq ?_
  refine dstart 404 27 rfl ?_
  refine dv hT (vP 8 12) [] rfl trivial rfl rfl rfl trivial ?_
  refine dv hT (vI t.day) [8] rfl trivial rfl rfl rfl trivial ?_
  refine dv hT (vP 8 13) [] rfl trivial rfl rfl rfl trivial ?_
  refine dv hT (vI t.given) [8] rfl trivial rfl rfl rfl trivial ?_
  refine dv hT (vP 8 14) [] rfl trivial rfl rfl rfl trivial ?_
  refine dv hT (vI t.eaten) [8] rfl trivial rfl rfl rfl trivial ?_
  refine dv hT (vP 8 7) [] rfl trivial rfl rfl rfl trivial ?_
  refine dv hT (vP 8 8) [] rfl trivial rfl rfl rfl trivial ?_
  refine dv hT (vI t.party.food) [8] rfl trivial rfl rfl rfl trivial ?_
  refine dv hT (vP 8 6) [] rfl trivial rfl rfl rfl trivial ?_
  refine dv hT (vL 2 2 0 (t.depots.map Depot.e)) [8] rfl trivial rfl rfl rfl trivial ?_
  refine dcall hT [(1, 2, 0)] [] (c_spec_TotalFood t.depots (by omega)) rfl rfl rfl (f2c (ca (f2c (las rfl rfl rfl) f20)) f20) (f2c (cr (f2c lrv f20)) f20) rfl rfl trivial ?_
  refine dv hT (vP 8 11) [] rfl trivial rfl rfl rfl trivial ?_
  refine dv hT (vL 4 5 0 (t.journal.map Page.e)) [8] rfl trivial rfl rfl rfl trivial ?_
  refine dv hT (vI (t.journal.length : Int)) [] lenM trivial rfl rfl rfl trivial ?_
  refine dlit hT 356 ([t.day, t.given, t.eaten, t.party.food, total t.depots, (t.journal.length : Int)].map eI) rfl rfl rfl rfl (z := 1) rfl rfl rfl rfl rfl rfl trivial ?_
  refine dcall hT [(1, 356, 0)] [] (c_spec_FormatNumbers [t.day, t.given, t.eaten, t.party.food, total t.depots, (t.journal.length : Int)] (by simp) (by have := total_rng t.depots; intro n hn; simp only [List.mem_cons, List.not_mem_nil, or_false] at hn; unfold inI at *; rcases hn with rfl | rfl | rfl | rfl | rfl | rfl <;> omega)) rfl rfl rfl (f2c (ca (f2c (las rfl rfl rfl) f20)) f20) (f2c (cr (f2c lrv f20)) f20) rfl rfl trivial ?_
  refine dv hT (vS (joinT ([t.day, t.given, t.eaten, t.party.food, total t.depots, (t.journal.length : Int)].map Lib.itoa))) [] rfl trivial rfl rfl rfl trivial ?_
  refine dend hm (by kernel_rfl) ?_
  refine thN ?_
  refine AW_ret ?_
  exact (qrR (ends [cS (joinT ([t.day, t.given, t.eaten, t.party.food, total t.depots, (t.journal.length : Int)].map Lib.itoa))] [] rfl rfl (f2c (cm (f2c (lmS (by rfl)) f20)) f20)))

-- impl.FormatTrek
theorem c_impl_FormatTrek (t : Trek) (hy0 : inI t.day ∧ inI t.given ∧ inI t.eaten ∧ inI t.party.food ∧ t.depots.length ≤ 1099511627776 ∧ t.journal.length ≤ 1099511627776) : Con Tryd.prog 27 [(true, Trek.l t 1 2 3 4 5)] [cS (trekT t)] := by
  refine con_mk hT (fn := Tryd.f27) 20 [.tmp 2] [(0, .c ((true, Trek.l t 1 2 3 4 5)))] rfl rfl rfl rfl rfl rfl rfl ?_
  refine AW_seq ?_
  refine AW_region ?_
  refine sbox hT ((true, Trek.l t 1 2 3 4 5)) rfl rfl rfl rfl (ls := Trek.l t 1 2 3 4 5) rfl trivial ?_
  refine sv hT (vS []) rfl trivial rfl rfl trivial ?_
  refine rN ?_
  refine AW_seq ?_
  refine dstart 404 27 rfl ?_
  refine dv hT (vP 8 12) [] rfl trivial rfl rfl rfl trivial ?_
  refine dv hT (vI t.day) [8] rfl trivial rfl rfl rfl trivial ?_
  refine dv hT (vP 8 13) [] rfl trivial rfl rfl rfl trivial ?_
  refine dv hT (vI t.given) [8] rfl trivial rfl rfl rfl trivial ?_
  refine dv hT (vP 8 14) [] rfl trivial rfl rfl rfl trivial ?_
  refine dv hT (vI t.eaten) [8] rfl trivial rfl rfl rfl trivial ?_
  refine dv hT (vP 8 7) [] rfl trivial rfl rfl rfl trivial ?_
  refine dv hT (vP 8 8) [] rfl trivial rfl rfl rfl trivial ?_
  refine dv hT (vI t.party.food) [8] rfl trivial rfl rfl rfl trivial ?_
  refine dv hT (vP 8 6) [] rfl trivial rfl rfl rfl trivial ?_
  refine dv hT (vL 2 2 0 (t.depots.map Depot.e)) [8] rfl trivial rfl rfl rfl trivial ?_
  refine dcall hT [(1, 2, 0)] [] (c_impl_TotalFood t.depots (by omega)) rfl rfl rfl (f2c (ca (f2c (las rfl rfl rfl) f20)) f20) (f2c (cr (f2c lrv f20)) f20) rfl rfl trivial ?_
  refine dv hT (vP 8 11) [] rfl trivial rfl rfl rfl trivial ?_
  refine dv hT (vL 4 5 0 (t.journal.map Page.e)) [8] rfl trivial rfl rfl rfl trivial ?_
  refine dv hT (vI (t.journal.length : Int)) [] lenM trivial rfl rfl rfl trivial ?_
  refine dlit hT 356 ([t.day, t.given, t.eaten, t.party.food, total t.depots, (t.journal.length : Int)].map eI) rfl rfl rfl rfl (z := 1) rfl rfl rfl rfl rfl rfl trivial ?_
  refine dcall hT [(1, 356, 0)] [] (c_impl_FormatNumbers [t.day, t.given, t.eaten, t.party.food, total t.depots, (t.journal.length : Int)] (by simp) (by have := total_rng t.depots; intro n hn; simp only [List.mem_cons, List.not_mem_nil, or_false] at hn; unfold inI at *; rcases hn with rfl | rfl | rfl | rfl | rfl | rfl <;> omega)) rfl rfl rfl (f2c (ca (f2c (las rfl rfl rfl) f20)) f20) (f2c (cr (f2c lrv f20)) f20) rfl rfl trivial ?_
  refine dv hT (vS (joinT ([t.day, t.given, t.eaten, t.party.food, total t.depots, (t.journal.length : Int)].map Lib.itoa))) [] rfl trivial rfl rfl rfl trivial ?_
  refine dend hm (by kernel_rfl) ?_
  refine thN ?_
  refine AW_ret ?_
  exact (qrR (ends [cS (joinT ([t.day, t.given, t.eaten, t.party.food, total t.depots, (t.journal.length : Int)].map Lib.itoa))] [] rfl rfl (f2c (cm (f2c (lmS (by rfl)) f20)) f20)))

-- laws.FnExactFormatTrek
theorem c_laws_FnExactFormatTrek (x : Trek) (hy0 : x.land.cells.length ≤ 140737488355328 ∧ x.depots.length ≤ 140737488355328 ∧ x.party.crew.length ≤ 140737488355328 ∧ x.party.past.length ≤ 140737488355328 ∧ x.journal.length ≤ 140737488355328) (hy1 : inI x.day ∧ inI x.given ∧ inI x.eaten ∧ inI x.party.food) : Con Tryd.prog 6 [(true, Trek.l x 1 2 3 4 5)] [cB true] := by
  refine con_mk hT (fn := Tryd.f6) 27 [.tmp 2] [(0, .c ((true, Trek.l x 1 2 3 4 5)))] rfl rfl rfl rfl rfl rfl rfl ?_
  refine AW_seq ?_
  refine AW_region ?_
  refine sbox hT ((true, Trek.l x 1 2 3 4 5)) rfl rfl rfl rfl (ls := Trek.l x 1 2 3 4 5) rfl trivial ?_
  refine sv hT (vB false) rfl trivial rfl rfl trivial ?_
  refine rN ?_
  refine AW_seq ?_
  refine AW_region ?_
  refine sv hT (vI 1048576) rfl trivial rfl rfl trivial ?_
  refine rN ?_
  refine AW_seq ?_
  refine AW_region ?_
  refine sv hT (vR (Trek.l x 1 2 3 4 5)) rfl trivial rfl rfl trivial ?_
  refine sv hT (vI 1048576) rfl trivial rfl rfl trivial ?_
  refine scall hT [(1, 1, 0), (2, 2, 0), (3, 3, 0), (4, 4, 0), (5, 5, 0)] [] (c_laws_szTrek x 1048576 (by first | assumption | omega | (simp only [szI] at *; omega) | exact ⟨hy1.1, hy1.2.1, hy1.2.2.1, hy1.2.2.2, by simp only [szI] at *; omega, by simp only [szI] at *; omega⟩)) rfl rfl rfl (f2c (ca (f2c (lav rfl) (f2c (lav rfl) (f2c (las rfl rfl rfl) (f2c (lav rfl) (f2c (lav rfl) (f2c (lav rfl) (f2c (las rfl rfl rfl) (f2c (lav rfl) (f2c (lav rfl) (f2c (las rfl rfl rfl) (f2c (las rfl rfl rfl) (f2c (las rfl rfl rfl) (f2c (lav rfl) (f2c (lav rfl) (f2c (lav rfl) f20)))))))))))))))) (f2c (ca (f2c (lav rfl) f20)) f20)) (f2c (cr (f2c lrv f20)) f20) rfl rfl trivial ?_
  refine sv hT (vI (szI ((x.land.cells.length + x.depots.length + (x.party.crew.length + x.party.past.length) + x.journal.length : Nat) : Int) 1048576)) rfl trivial rfl rfl trivial ?_
  refine rN ?_
  refine AW_seq ?_
  refine AW_seq ?_
  refine AW_region ?_
  refine sv hT (vI (szI ((x.land.cells.length + x.depots.length + (x.party.crew.length + x.party.past.length) + x.journal.length : Nat) : Int) 1048576)) rfl trivial rfl rfl trivial ?_
  refine sv hT (vB (decide ((szI ((x.land.cells.length + x.depots.length + (x.party.crew.length + x.party.past.length) + x.journal.length : Nat) : Int) 1048576) < 0))) rfl trivial rfl rfl trivial ?_
  refine rN ?_
  refine cnd decide_eq_true_iff rfl (fun h1 => ?_) (fun h1 => ?_)
  · refine AW_seq ?_
    refine AW_region ?_
    refine sv hT (vB true) rfl trivial rfl rfl trivial ?_
    refine rN ?_
    refine AW_ret ?_
    exact thR ((qrR (ends [cB true] [] rfl rfl (f2c (cm (f2c (lmB rfl) f20)) f20))))
  · refine AW_skip ?_
    refine thN ?_
    refine AW_seq ?_
    refine AW_region ?_
    refine sv hT (vR (Trek.l x 1 2 3 4 5)) rfl trivial rfl rfl trivial ?_
    refine scall hT [(1, 1, 0), (2, 2, 0), (3, 3, 0), (4, 4, 0), (5, 5, 0)] [(132, 100), (133, 101), (134, 102), (135, 103), (136, 104)] (c_laws_toTrek x (by first | assumption | omega | (simp only [szI] at *; omega) | exact ⟨hy1.1, hy1.2.1, hy1.2.2.1, hy1.2.2.2, by simp only [szI] at *; omega, by simp only [szI] at *; omega⟩)) rfl rfl rfl (f2c (ca (f2c (lav rfl) (f2c (lav rfl) (f2c (las rfl rfl rfl) (f2c (lav rfl) (f2c (lav rfl) (f2c (lav rfl) (f2c (las rfl rfl rfl) (f2c (lav rfl) (f2c (lav rfl) (f2c (las rfl rfl rfl) (f2c (las rfl rfl rfl) (f2c (las rfl rfl rfl) (f2c (lav rfl) (f2c (lav rfl) (f2c (lav rfl) f20)))))))))))))))) f20) (f2c (cr (f2c lrv (f2c lrv (f2c (lrn (t := 132) rfl rfl) (f2c lrv (f2c lrv (f2c lrv (f2c (lrn (t := 133) rfl rfl) (f2c lrv (f2c lrv (f2c (lrn (t := 134) rfl rfl) (f2c (lrn (t := 135) rfl rfl) (f2c (lrn (t := 136) rfl rfl) (f2c lrv (f2c lrv (f2c lrv f20)))))))))))))))) f20) rfl rfl trivial ?_
    refine scall hT [(1, 132, 0), (2, 133, 0), (3, 134, 0), (4, 135, 0), (5, 136, 0)] [] (c_spec_FormatTrek x (by first | assumption | omega | (simp only [szI] at *; omega) | exact ⟨hy1.1, hy1.2.1, hy1.2.2.1, hy1.2.2.2, by simp only [szI] at *; omega, by simp only [szI] at *; omega⟩)) rfl rfl rfl (f2c (ca (f2c (lav rfl) (f2c (lav rfl) (f2c (las rfl rfl rfl) (f2c (lav rfl) (f2c (lav rfl) (f2c (lav rfl) (f2c (las rfl rfl rfl) (f2c (lav rfl) (f2c (lav rfl) (f2c (las rfl rfl rfl) (f2c (las rfl rfl rfl) (f2c (las rfl rfl rfl) (f2c (lav rfl) (f2c (lav rfl) (f2c (lav rfl) f20)))))))))))))))) f20) (f2c (cr (f2c lrv f20)) f20) rfl rfl trivial ?_
    refine sv hT (vS (trekT x)) rfl trivial rfl rfl trivial ?_
    refine rN ?_
    refine AW_seq ?_
    refine AW_region ?_
    refine sv hT (vR (Trek.l x 1 2 3 4 5)) rfl trivial rfl rfl trivial ?_
    refine scall hT [(1, 1, 0), (2, 2, 0), (3, 3, 0), (4, 4, 0), (5, 5, 0)] [(164, 100), (165, 101), (166, 102), (167, 103), (168, 104)] (c_laws_toTrek x (by first | assumption | omega | (simp only [szI] at *; omega) | exact ⟨hy1.1, hy1.2.1, hy1.2.2.1, hy1.2.2.2, by simp only [szI] at *; omega, by simp only [szI] at *; omega⟩)) rfl rfl rfl (f2c (ca (f2c (lav rfl) (f2c (lav rfl) (f2c (las rfl rfl rfl) (f2c (lav rfl) (f2c (lav rfl) (f2c (lav rfl) (f2c (las rfl rfl rfl) (f2c (lav rfl) (f2c (lav rfl) (f2c (las rfl rfl rfl) (f2c (las rfl rfl rfl) (f2c (las rfl rfl rfl) (f2c (lav rfl) (f2c (lav rfl) (f2c (lav rfl) f20)))))))))))))))) f20) (f2c (cr (f2c lrv (f2c lrv (f2c (lrn (t := 164) rfl rfl) (f2c lrv (f2c lrv (f2c lrv (f2c (lrn (t := 165) rfl rfl) (f2c lrv (f2c lrv (f2c (lrn (t := 166) rfl rfl) (f2c (lrn (t := 167) rfl rfl) (f2c (lrn (t := 168) rfl rfl) (f2c lrv (f2c lrv (f2c lrv f20)))))))))))))))) f20) rfl rfl trivial ?_
    refine salloc hT rfl rfl rfl rfl (ls := [lI 0, lI 0, .sl 1 0 0 [], lI 0, lI 0, lI 0, .sl 2 0 0 [], lI 0, lI 0, .sl 4 0 0 [], .sl 1 0 0 [], .sl 4 0 0 [], lI 0, lI 0, lI 0]) rfl trivial ?_
    refine sst hT (Trek.l x 164 165 166 167 168) rfl rfl rfl rfl rfl rfl rfl rfl trivial ?_
    refine rN ?_
    refine AW_seq ?_
    refine AW_region ?_
    refine sv hT (vR (Trek.l x 164 165 166 167 168)) rfl trivial rfl rfl trivial ?_
    refine scall hT [(1, 164, 0), (2, 165, 0), (3, 166, 0), (4, 167, 0), (5, 168, 0)] [] (c_impl_FormatTrek x (by first | assumption | omega | (simp only [szI] at *; omega) | exact ⟨hy1.1, hy1.2.1, hy1.2.2.1, hy1.2.2.2, by simp only [szI] at *; omega, by simp only [szI] at *; omega⟩)) rfl rfl rfl (f2c (ca (f2c (lav rfl) (f2c (lav rfl) (f2c (las rfl rfl rfl) (f2c (lav rfl) (f2c (lav rfl) (f2c (lav rfl) (f2c (las rfl rfl rfl) (f2c (lav rfl) (f2c (lav rfl) (f2c (las rfl rfl rfl) (f2c (las rfl rfl rfl) (f2c (las rfl rfl rfl) (f2c (lav rfl) (f2c (lav rfl) (f2c (lav rfl) f20)))))))))))))))) f20) (f2c (cr (f2c lrv f20)) f20) rfl rfl trivial ?_
    refine sv hT (vS (trekT x)) rfl trivial rfl rfl trivial ?_
    refine rN ?_
    refine AW_seq ?_
    refine AW_seq ?_
    refine AW_region ?_
    refine sv hT (vS (trekT x)) rfl trivial rfl rfl trivial ?_
    refine sv hT (vS (trekT x)) rfl trivial rfl rfl trivial ?_
    refine sv hT (vB (!((trekT x) == (trekT x)))) rfl trivial rfl rfl trivial ?_
    refine rN ?_
    refine cnd (notIff eqStr) rfl (fun h2 => ?_) (fun h2 => ?_)
    · refine AW_seq ?_
      refine AW_region ?_
      refine sv hT (vB false) rfl trivial rfl rfl trivial ?_
      refine rN ?_
      refine AW_ret ?_
      exact thR ((qrR (ends [cB false] [] rfl rfl (f2c (cm (f2c (lmB (by first | rfl | (exfalso; simp_all))) f20)) f20))))
    · refine AW_skip ?_
      refine thN ?_
      refine AW_seq ?_
      refine AW_seq ?_
      refine dstart 292 20 rfl ?_
      refine dv hT (vR (Trek.l x 164 165 166 167 168)) [13] rfl trivial rfl rfl rfl trivial ?_
      refine dv hT (vR (Trek.l x 1 2 3 4 5)) [8] rfl trivial rfl rfl rfl trivial ?_
      refine dcall hT [(1, 1, 0), (2, 2, 0), (3, 3, 0), (4, 4, 0), (5, 5, 0)] [(244, 100), (245, 101), (246, 102), (247, 103), (248, 104)] (c_laws_toTrek x (by first | assumption | omega | (simp only [szI] at *; omega) | exact ⟨hy1.1, hy1.2.1, hy1.2.2.1, hy1.2.2.2, by simp only [szI] at *; omega, by simp only [szI] at *; omega⟩)) rfl rfl rfl (f2c (ca (f2c (lav rfl) (f2c (lav rfl) (f2c (las rfl rfl rfl) (f2c (lav rfl) (f2c (lav rfl) (f2c (lav rfl) (f2c (las rfl rfl rfl) (f2c (lav rfl) (f2c (lav rfl) (f2c (las rfl rfl rfl) (f2c (las rfl rfl rfl) (f2c (las rfl rfl rfl) (f2c (lav rfl) (f2c (lav rfl) (f2c (lav rfl) f20)))))))))))))))) f20) (f2c (cr (f2c lrv (f2c lrv (f2c (lrn (t := 244) rfl rfl) (f2c lrv (f2c lrv (f2c lrv (f2c (lrn (t := 245) rfl rfl) (f2c lrv (f2c lrv (f2c (lrn (t := 246) rfl rfl) (f2c (lrn (t := 247) rfl rfl) (f2c (lrn (t := 248) rfl rfl) (f2c lrv (f2c lrv (f2c lrv f20)))))))))))))))) f20) rfl rfl trivial ?_
      refine dcall hT [(1, 164, 0), (2, 165, 0), (3, 166, 0), (4, 167, 0), (5, 168, 0), (6, 244, 0), (7, 245, 0), (8, 246, 0), (9, 247, 0), (10, 248, 0)] [] (c_laws_eqTrek x x (by first | assumption | omega | (simp only [szI] at *; omega) | exact ⟨hy1.1, hy1.2.1, hy1.2.2.1, hy1.2.2.2, by simp only [szI] at *; omega, by simp only [szI] at *; omega⟩)) rfl rfl rfl (f2c (ca (f2c (lav rfl) (f2c (lav rfl) (f2c (las rfl rfl rfl) (f2c (lav rfl) (f2c (lav rfl) (f2c (lav rfl) (f2c (las rfl rfl rfl) (f2c (lav rfl) (f2c (lav rfl) (f2c (las rfl rfl rfl) (f2c (las rfl rfl rfl) (f2c (las rfl rfl rfl) (f2c (lav rfl) (f2c (lav rfl) (f2c (lav rfl) f20)))))))))))))))) (f2c (ca (f2c (lav rfl) (f2c (lav rfl) (f2c (las rfl rfl rfl) (f2c (lav rfl) (f2c (lav rfl) (f2c (lav rfl) (f2c (las rfl rfl rfl) (f2c (lav rfl) (f2c (lav rfl) (f2c (las rfl rfl rfl) (f2c (las rfl rfl rfl) (f2c (las rfl rfl rfl) (f2c (lav rfl) (f2c (lav rfl) (f2c (lav rfl) f20)))))))))))))))) f20)) (f2c (cr (f2c lrv f20)) f20) rfl rfl trivial ?_
      refine dv hT (vB (!(decide (x = x)))) [] rfl trivial rfl rfl rfl trivial ?_
      refine dend hm (by kernel_rfl) ?_
      refine thN ?_
      refine cnd (notIff decide_eq_true_iff) rfl (fun h3 => ?_) (fun h3 => ?_)
      · refine AW_seq ?_
        refine AW_region ?_
        refine sv hT (vB false) rfl trivial rfl rfl trivial ?_
        refine rN ?_
        refine AW_ret ?_
        exact thR ((qrR (ends [cB false] [] rfl rfl (f2c (cm (f2c (lmB (by first | rfl | (exfalso; simp_all))) f20)) f20))))
      · refine AW_skip ?_
        refine thN ?_
        refine AW_seq ?_
        refine AW_region ?_
        refine sv hT (vB true) rfl trivial rfl rfl trivial ?_
        refine rN ?_
        refine AW_ret ?_
        exact (qrR (ends [cB true] [] rfl rfl (f2c (cm (f2c (lmB rfl) f20)) f20)))
end Go.Proofs.YtlinhogbnmnhjaaDoor.X.D
