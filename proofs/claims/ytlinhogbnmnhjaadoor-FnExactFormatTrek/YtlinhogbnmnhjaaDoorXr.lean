/- The law's statement: for every input the law returns true. No condition beyond the statement's own. -/
import Derived.Test.YtlinhogbnmnhjaaDoorXc
import Derived.Test.YtlinhogbnmnhjaaDoorCards
import Derived.Test.YtlinhogbnmnhjaaDoorTie
import Derived.WalkKit
import Derived.ProofKit
import Derived.OpenShut
import Derived.Carry
import Derived.Deep.DeepHandedRow
import Derived.Lib.LaidTab
namespace Go.Proofs.YtlinhogbnmnhjaaDoor.fnExactFormatTrek
open Go.ChangeShapes Go.WideShapes Go.ChangeAt Go.RowKit Go.Proofs.YtlinhogbnmnhjaaDoor.X

theorem own : ownKnob Tryd.prog.godebug = none := by kernel_rfl
theorem laidOut : laidOutB Tryd.prog = true := by kernel_rfl
theorem table {W : World} (h : laidMetH Tryd.prog Rows.fnExactFormatTrekRow.laid W) : Lib.TabIs Tryd.prog W "internal/strconv.uint64pow10" .u64 Lib.pow10Tab := by
  have h' : laidMet Tryd.prog Rows.fnExactFormatTrekRow.laid W := h
  obtain ⟨ps, ⟨_, _, _, _, _, _, _, _, _, _, ⟨_, _, _, _, _, _, _, _, _, _, ⟨g', t', cs, fuel, p, q, hg', ht', hvar, hd, _, _⟩, _⟩, _⟩, _⟩ := h'
  obtain rfl := Option.some.inj ((show Tryd.prog.globalNamed "internal/strconv.uint64pow10" = some 1 by kernel_rfl).symm.trans hg')
  obtain rfl := Option.some.inj ((show (Tryd.prog.globals[1]?).map (·.type) = some 128 by kernel_rfl).symm.trans ht')
  have hd' : DataW.trod _ Tryd.prog W _ _ _ fuel 128 cs.toList = some (Lib.tabData .u64 Lib.pow10Tab, p) := hd
  have := Lib.cells_of_tab (n := 20) (e := 121) Tryd.underlying128 Tryd.underlying121 (by kernel_rfl) (by kernel_rfl) hd'
  unfold Lib.TabIs
  rw [hvar, ← this]

set_option maxRecDepth 100000 in
theorem contract (H : Type) (enc : TypeId × Value → H) (W : World) (base : Nat) (args : Array Value) (ds gs : List (DataW H)) (before : List MemPlace)
    (hval : ∀ (j : Nat) t v, Tryd.f6.params[j]? = some t → args[j]? = some v → Value.okWide Tryd.prog W .any base t v)
    (hW : DataW.Whole enc Tryd.prog Tryd.f6.params.toList Rows.fnExactFormatTrekSpec.vars false W args.toList ds gs before) (hsz : (DataW.weightsEach Tryd.prog (Tryd.f6.params.toList ++ (OpenSpec.ofChange Rows.fnExactFormatTrekSpec).bare.plain.varTypes Tryd.prog) (ds ++ gs)).all (· ≤ reachBytes) = true) (hL : laidMetH Tryd.prog Rows.fnExactFormatTrekRow.laid W) :
    Calls Tryd.prog 6 args W fun e W' => ∃ v, e = .returned v ∧ Rows.fnExactFormatTrekSpec.post enc Tryd.prog Tryd.f6 false true false false W args v W' := by
  have hW' := hW
  obtain ⟨p, q, hA0, hV, rfl, hfz, hnd⟩ := hW
  have hA : DataW.TrodAll enc Tryd.prog W 0 (fun _ => true) true Tryd.f6.params.toList args.toList ds p := hA0
  rw [Tryd.params6] at hA hval hsz
  obtain ⟨v0, vs0, d0, ds0, p0, q0, hargs, rfl, rfl, h0, r0⟩ := trodAll_cons hA
  obtain ⟨rfl, rfl, rfl⟩ := trodAll_nil r0
  obtain rfl : args = #[v0] := by cases args; simp_all
  obtain ⟨rfl, rfl⟩ := trodVars_none hV
  have k0 := h0
  have lt0 : ∀ x ∈ p0, x.block < W.heap.size := by obtain ⟨m, hm⟩ := k0; exact DataW.trod_lt m _ _ _ hm
  have w0 : Wt Tryd.prog 54 d0 := List.all_eq_true.2 fun n hn => List.all_eq_true.1 hsz n (DataW.weights_mem_each (j := 0) rfl rfl n hn)
  obtain ⟨cs0, rfl, hc0⟩ := arg_st D.hT [.k (.i .i64), .k (.i .i64), .sl [.i .i64], .k (.i .i64), .k (.i .i64), .k (.i .i64), .sl [.i .i64, .i .i64], .k (.i .i64), .k (.i .i64), .sl [.i .i64, .i .i64, .i .i64, .b], .sl [.b], .sl [.i .i64, .i .i64, .i .i64, .i .i64], .k (.i .i64), .k (.i .i64), .k (.i .i64)] rfl rfl (hval 0 54 v0 rfl rfl) h0 w0
  obtain ⟨m, ls, _, hb, hf, ho⟩ := open_M _ _ 1 M.empty hc0 (base0 W) (Nat.le_refl _)
  obtain ⟨a0, _, rfl, b0, c0, a1, _, rfl, b1, c1, xs2, _, rfl, x2, hx2, a3, _, rfl, b3, c3, a4, _, rfl, b4, c4, a5, _, rfl, b5, c5, xs6, _, rfl, x6, hx6, a7, _, rfl, b7, c7, a8, _, rfl, b8, c8, xs9, _, rfl, x9, hx9, xs10, _, rfl, x10, hx10, xs11, _, rfl, x11, hx11, a12, _, rfl, b12, c12, a13, _, rfl, b13, c13, a14, _, rfl, b14, c14, rfl⟩ := ho
  obtain ⟨l2, rfl, g2⟩ := ints_of hx2
  obtain ⟨l6, rfl, g6⟩ := depots_of hx6
  obtain ⟨l9, rfl, g9⟩ := members_of hx9
  obtain ⟨l10, rfl⟩ := bools_of hx10
  obtain ⟨l11, rfl, g11⟩ := pages_of hx11
  have g0 := sk_i ⟨b0, c0⟩
  have g1 := sk_i ⟨b1, c1⟩
  have g3 := sk_i ⟨b3, c3⟩
  have g4 := sk_i ⟨b4, c4⟩
  have g5 := sk_i ⟨b5, c5⟩
  have g7 := sk_i ⟨b7, c7⟩
  have g8 := sk_i ⟨b8, c8⟩
  have g12 := sk_i ⟨b12, c12⟩
  have g13 := sk_i ⟨b13, c13⟩
  have g14 := sk_i ⟨b14, c14⟩
  obtain ⟨y0, r, e0, f0, hf⟩ := F2.inv hf
  obtain ⟨y1, r, rfl, f1, hf⟩ := F2.inv hf
  obtain ⟨y2, r, rfl, f2, hf⟩ := F2.inv hf
  obtain ⟨y3, r, rfl, f3, hf⟩ := F2.inv hf
  obtain ⟨y4, r, rfl, f4, hf⟩ := F2.inv hf
  obtain ⟨y5, r, rfl, f5, hf⟩ := F2.inv hf
  obtain ⟨y6, r, rfl, f6, hf⟩ := F2.inv hf
  obtain ⟨y7, r, rfl, f7, hf⟩ := F2.inv hf
  obtain ⟨y8, r, rfl, f8, hf⟩ := F2.inv hf
  obtain ⟨y9, r, rfl, f9, hf⟩ := F2.inv hf
  obtain ⟨y10, r, rfl, f10, hf⟩ := F2.inv hf
  obtain ⟨y11, r, rfl, f11, hf⟩ := F2.inv hf
  obtain ⟨y12, r, rfl, f12, hf⟩ := F2.inv hf
  obtain ⟨y13, r, rfl, f13, hf⟩ := F2.inv hf
  obtain ⟨y14, r, rfl, f14, hf⟩ := F2.inv hf
  obtain rfl := F2.nil hf
  have e0a := e0
  have hphi : HasPhi.Φ Tryd.prog W := table hL
  simp only [List.length_map] at x2 x6 x9 x10 x11
  refine (law_calls (D.c_laws_FnExactFormatTrek ⟨⟨a0, a1, l2⟩, a3, ⟨a4, a5⟩, l6, ⟨a7, a8, l9, l10⟩, l11, a12, a13, a14⟩ ⟨x2, x6, x9, x10, x11⟩ ⟨g12, g13, g14, g8⟩) (vs := [.agg cs0]) hphi hb (by decide) ⟨⟨cs0, rfl, by rw [e0a]; exact ⟨f0, f1, f2, f3, f4, f5, f6, f7, f8, f9, f10, f11, f12, f13, f14, trivial⟩⟩, trivial⟩).mono fun e W' ⟨he, bel⟩ => ?_
  subst he
  exact ⟨_, rfl, _, _, _, [], _, [], hW', trodAll_mk1 (shut_bool Tryd.underlying4 _), (trodAll_cons_mk (Below.trod laidOut (by kernel_rfl) (of_decide_eq_true (by kernel_rfl)) k0 bel lt0) trodAll_mk0), rfl, bel.frame _, fun h => by cases h⟩

def tabAt (xs : Array Value) : Obj → Obj
  | .cells _ t frozen => .cells xs t frozen
  | o => o
noncomputable def laidWorld (os : Os) : World :=
  let w := World.holding Tryd.prog os ⟨#[], #[], []⟩
  { w with heap := ((w.heap.modify 1 (tabAt (Lib.pow10Tab.map (Value.int .u64)).toArray)).modify 2 (tabAt (([0, 1, 28, 2, 29, 14, 24, 3, 30, 22, 20, 15, 25, 17, 4, 8, 31, 27, 13, 23, 21, 19, 16, 7, 26, 12, 18, 6, 11, 5, 10, 9] : List Int).map (Value.int .u8)).toArray)).modify 3 (tabAt (([0, 1, 56, 2, 57, 49, 28, 3, 61, 58, 42, 50, 38, 29, 17, 4, 62, 47, 59, 36, 45, 43, 51, 22, 53, 39, 33, 30, 24, 18, 12, 5, 63, 55, 48, 27, 60, 41, 37, 16, 46, 35, 44, 21, 52, 32, 23, 11, 54, 26, 40, 15, 34, 20, 31, 10, 25, 14, 19, 9, 13, 8, 7, 6] : List Int).map (Value.int .u8)).toArray) }
theorem laid_met (os : Os) : laidMet Tryd.prog Rows.fnExactFormatTrekRow.laid ((laidWorld os).forCall (fun _ _ => 0) ⟨#[], #[.agg #[.int .i64 0, .int .i64 0, .slice none 0 0, .int .i64 0, .int .i64 0, .int .i64 0, .slice none 0 0, .int .i64 0, .int .i64 0, .slice none 0 0, .slice none 0 0, .slice none 0 0, .int .i64 0, .int .i64 0, .int .i64 0]], []⟩).memory :=
  laidMet_of_run' 8 (by kernel_rfl) (by kernel_rfl)

theorem reads (os : Os) {H : Type} (enc : TypeId × Value → H) : ∃ places, DataW.whole enc Tryd.prog ((laidWorld os).forCall (fun _ _ => 0) ⟨#[], #[.agg #[.int .i64 0, .int .i64 0, .slice none 0 0, .int .i64 0, .int .i64 0, .int .i64 0, .slice none 0 0, .int .i64 0, .int .i64 0, .slice none 0 0, .slice none 0 0, .slice none 0 0, .int .i64 0, .int .i64 0, .int .i64 0]], []⟩).memory Tryd.f6.params.toList Rows.fnExactFormatTrekSpec.vars false [.agg #[.int .i64 0, .int .i64 0, .slice none 0 0, .int .i64 0, .int .i64 0, .int .i64 0, .slice none 0 0, .int .i64 0, .int .i64 0, .slice none 0 0, .slice none 0 0, .slice none 0 0, .int .i64 0, .int .i64 0, .int .i64 0]] 8 = some ([.agg [.agg [.lit (.int .i64 0), .lit (.int .i64 0), .nil], .lit (.int .i64 0), .agg [.lit (.int .i64 0), .lit (.int .i64 0)], .nil, .agg [.lit (.int .i64 0), .lit (.int .i64 0), .nil, .nil], .nil, .lit (.int .i64 0), .lit (.int .i64 0), .lit (.int .i64 0)]], [], places) :=
  ⟨[], by kernel_rfl⟩

set_option maxRecDepth 100000 in
theorem lifted (os : Os) (started : os.Started) (H : Type) (enc : TypeId × Value → H) (F : Stop.Interp) :
    ReturnsInHanded {} Tryd.checked os 6 .any ((OpenSpec.ofChange Rows.fnExactFormatTrekSpec).preRow enc Tryd.prog Tryd.f6 Rows.fnExactFormatTrekRow.domain false Rows.fnExactFormatTrekRow.laid) (((OpenSpec.ofChange Rows.fnExactFormatTrekSpec).at F).post enc Tryd.prog Tryd.f6 false true false false) := by
  obtain ⟨places, hx⟩ := reads os enc
  refine returnsInHanded_of_row (C := Tryd.checked) (s := OpenSpec.ofChange Rows.fnExactFormatTrekSpec) own started (by kernel_rfl) Tryd.func6
    (witness_row_at (enc := enc) (C := Tryd.checked) false (laidWorld os) #[.agg #[.int .i64 0, .int .i64 0, .slice none 0 0, .int .i64 0, .int .i64 0, .int .i64 0, .slice none 0 0, .int .i64 0, .int .i64 0, .slice none 0 0, .slice none 0 0, .slice none 0 0, .int .i64 0, .int .i64 0, .int .i64 0]] rfl (by kernel_rfl) (by kernel_rfl) (by kernel_rfl)
      (OpenSpec.preRow_of_cond 8 hx (by kernel_rfl) (fun k hk => by cases hk) (by kernel_rfl) (laid_met os))) ?_
  intro W base args ds gs before hval hW _ _ hsz hL _ _
  exact contract H enc W base args ds gs before hval hW hsz hL

theorem said : Rows.FnExactFormatTrekSaid :=
  OpenClaim.holds_of_cond 6 Tryd.f6 rfl rfl rfl rfl rfl rfl rfl ⟨rfl, rfl, rfl, rfl, rfl⟩ rfl rfl rfl rfl rfl (by kernel_rfl) Tryd.func6 (by kernel_rfl)
    (of_decide_eq_true (by kernel_rfl)) (by unfold Func.isWrapper; first | (rw [if_pos (by decide +kernel)]; kernel_rfl) | (rw [if_neg (by decide +kernel)]; exact ⟨rfl, rfl⟩))
    (fun os started H enc _ F => by rw [OpenClaim.pre_eq_preRow]; exact lifted os started H enc F)

theorem plain (f : FuncId) (fn : Func) (hf : Tryd.pinned.checked.prog.funcNamed "loop.example/g03008/laws.FnExactFormatTrek" = some f) (hfn : Tryd.pinned.checked.prog.funcs[f]? = some fn) :
    false = Tryd.pinned.checked.prog.looks [] ∧ ∀ (j : Nat) t, fn.params[j]? = some t → Tryd.pinned.checked.prog.wantsStandIn t = false := by
  obtain rfl : f = 6 := Option.some.inj ((show Tryd.prog.funcNamed "loop.example/g03008/laws.FnExactFormatTrek" = some 6 by kernel_rfl).symm.trans hf) |>.symm
  obtain rfl : fn = Tryd.f6 := (Option.some.inj (Tryd.func6.symm.trans hfn)).symm
  refine ⟨by kernel_rfl, fun j t ht => ?_⟩
  rw [Tryd.params6] at ht
  have hall : ∀ t ∈ ([54] : List Nat), Tryd.prog.wantsStandIn t = false := by
    intro t ht
    simp only [List.mem_cons, List.not_mem_nil, or_false] at ht
    subst ht; kernel_rfl
  exact hall t (by simpa using Array.mem_of_getElem? ht)

theorem card : Rows.FnExactFormatTrekCardSaid :=
  Claim7.holds_tied_plain_at .later [] _ _ _ _ said (fun _ h => by cases h) (by kernel_rfl) (fun _ h => by cases h) fnExactFormatTrek_row_tie rfl ⟨rfl, rfl⟩ (by kernel_rfl) rfl plain (by kernel_rfl)

#print axioms card
end Go.Proofs.YtlinhogbnmnhjaaDoor.fnExactFormatTrek
namespace Go.Proofs.YtlinhogbnmnhjaaDoor
theorem fnExactFormatTrek_holds : Rows.FnExactFormatTrekCardSaid := fnExactFormatTrek.card
end Go.Proofs.YtlinhogbnmnhjaaDoor
