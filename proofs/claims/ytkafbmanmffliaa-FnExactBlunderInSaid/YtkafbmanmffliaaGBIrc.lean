/- Parts of the proof that the law of this seat holds: RoBI. -/
import Derived.Test.YtkafbmanmffliaaRows
import Derived.Test.YtkafbmanmffliaaGBIpo
import Derived.Test.YtkafbmanmffliaaGBIra
import Derived.Test.YtkafbmanmffliaaGBIrb
set_option linter.unusedVariables false
set_option linter.unusedSimpArgs false
/- The program's BlunderIn returns what the reference's returns, whatever the arguments. No condition. -/
namespace Go.Proofs.Ytkafbmanmffliaa.RFnExactBlunderIn
open Go.ChangeShapes Go.WideShapes Go.ChangeAt Go.RowKit
open Go.ChangeMaps (open_string shut_string)
open YtkafbmanmffliaaW.PrintWords
open Q
theorem own : ownKnob Try.prog.godebug = none := by kernel_rfl
theorem laidOut : laidOutB Try.prog = true := by kernel_rfl
set_option maxRecDepth 100000 in
theorem lifted (os : Os) (started : os.Started) (H : Type) (enc : TypeId × Value → H) :
  ReturnsInHanded {} Try.checked os 12 .any (Rows.fnExactBlunderInSpec.pre6 enc Try.prog Try.f12 Rows.fnExactBlunderInRow.domain false) (Rows.fnExactBlunderInSpec.post enc Try.prog Try.f12 false true false false) := by
 refine returnsInHanded_of_change_sized (C := Try.checked) own started (by kernel_rfl) Try.func12
  (ChangeSpec.witness6 (enc := enc) (C := Try.checked) false ⟨#[], #[.agg #[.int .i64 0, .slice none 0 0]], []⟩ 8 (by kernel_rfl) (by kernel_rfl) (by kernel_rfl) (by kernel_rfl)) ?_
 intro W base args ds gs before hval0 hW hcnd hsz0 _
 have hsz : (DataW.weightsEach Try.prog (Try.f12.params.toList ++ Rows.fnExactBlunderInSpec.plain.varTypes Try.prog) (ds ++ gs)).all (· ≤ reachBytes) = true := hsz0
 have hval : ∀ (j : Nat) t v, Try.f12.params[j]? = some t → args[j]? = some v → Value.okWide Try.prog W .any base t v := hval0
 have hW' := hW
 obtain ⟨p, q, hA0, hV, rfl, hfz, hnd⟩ := hW
 have hA : DataW.TrodAll enc Try.prog W 0 (fun _ => true) true Try.f12.params.toList args.toList ds p := hA0
 rw [Try.params12] at hA hval hsz
 obtain ⟨v0, vs0, d0, ds0, p0, q0, hargs, rfl, rfl, h0, r0⟩ := trodAll_cons hA
 obtain ⟨rfl, rfl, rfl⟩ := trodAll_nil r0
 obtain rfl : args = #[v0] := by cases args; simp_all
 obtain ⟨rfl, rfl⟩ := trodVars_none hV
 have k0 := h0
 have lt0 : ∀ x ∈ p0, x.block < W.heap.size := by obtain ⟨m, hm⟩ := k0; exact DataW.trod_lt m _ _ _ hm
 obtain ⟨x0, cs0, rfl, hk0, ok0⟩ := Op.open_struct_arg Try.underlying42 (Op.opens_survey W) (hval 0 42 v0 rfl rfl) h0
 obtain ⟨A0, c0, rfl, hl0, hr0⟩ := Op.survey_open hk0
 have ok0' : x0.2.length ≤ 9223372036854775807 := by have := ok0; unfold maxLen at this; exact this
 clear hA0 hval0 hsz0 hsz
 refine (LwBI.law_any x0.1 x0.2 A0 c0 W hr0 hl0 ok0').mono fun e W' ⟨he, bel⟩ => ?_
 subst he
 exact ⟨_, rfl, _, _, _, [], _, [], hW', trodAll_mk1 (shut_bool Try.underlying4 _), (trodAll_cons_mk (Below.trod laidOut (by kernel_rfl) (of_decide_eq_true (by kernel_rfl)) k0 bel lt0) trodAll_mk0), rfl, bel.frame _, fun h => by cases h⟩
theorem closed : joinedFacts Try.prog 12 Try.f12 Rows.fnExactBlunderInSpec Rows.fnExactBlunderInRow = true := by
 unfold joinedFacts
 rw [Fx.lift, Fx.enter, Fx.make]
 kernel_rfl
theorem over : Rows.fnExactBlunderInRow.holds Try.pinned (OpenSpec.ofChange Rows.fnExactBlunderInSpec) :=
 OpenClaim.holds_of_wide 12 Try.f12 rfl rfl rfl rfl rfl rfl rfl ⟨rfl, rfl, rfl, rfl, rfl⟩ rfl rfl rfl rfl rfl (by kernel_rfl) Try.func12 closed
  (of_decide_eq_true (by kernel_rfl)) (by unfold Func.isWrapper; first | (rw [if_pos (by decide +kernel)]; kernel_rfl) | (rw [if_neg (by decide +kernel)]; exact ⟨rfl, rfl⟩))
  (fun os started H enc _ => lifted os started H enc)
end Go.Proofs.Ytkafbmanmffliaa.RFnExactBlunderIn
namespace Go.Proofs.Ytkafbmanmffliaa
theorem fnExactBlunderIn_holds : Rows.FnExactBlunderInSaid := RFnExactBlunderIn.over
#print axioms fnExactBlunderIn_holds
end Go.Proofs.Ytkafbmanmffliaa

