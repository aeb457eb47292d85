/- Parts of the proof that the law of this seat holds: RoRM. -/
import Derived.Test.YtibaiaenfeppcaaRows
import Derived.Test.YtibaiaenfeppcaaGRMpc
import Derived.Test.YtibaiaenfeppcaaGRMpa
set_option linter.unusedVariables false
set_option linter.unusedSimpArgs false
/- The program's RunMoves returns what the reference's returns, for all arguments. No condition. -/
namespace Go.Proofs.Ytibaiaenfeppcaa.RFnExactRunMoves
open Go.ChangeShapes Go.WideShapes Go.ChangeAt Go.RowKit
open Go.ChangeMaps (open_string shut_string)
open Go.Proofs.YtibaiaenfeppcaaW.PrintWords
open Go.Proofs.Ytibaiaenfeppcaa.Q
set_option linter.unusedVariables false
theorem own : ownKnob Try.prog.godebug = none := by kernel_rfl
theorem laidOut : laidOutB Try.prog = true := by kernel_rfl
set_option maxRecDepth 100000 in
theorem lifted (os : Os) (started : os.Started) (H : Type) (enc : TypeId × Value → H) :
    ReturnsInHanded {} Try.checked os 9 .any (Rows.fnExactRunMovesSpec.pre6 enc Try.prog Try.f9 Rows.fnExactRunMovesRow.domain false) (Rows.fnExactRunMovesSpec.post enc Try.prog Try.f9 false true false false) := by
  refine returnsInHanded_of_change_sized (C := Try.checked) own started (by kernel_rfl) Try.func9
    (ChangeSpec.witness6 (enc := enc) (C := Try.checked) false ⟨#[], #[.agg #[.int .i64 0, .slice none 0 0], .slice none 0 0], []⟩ 8 (by kernel_rfl) (by kernel_rfl) (by kernel_rfl) (by kernel_rfl)) ?_
  intro W base args ds gs before hval0 hW hcnd hsz0 _
  have hsz : (DataW.weightsEach Try.prog (Try.f9.params.toList ++ Rows.fnExactRunMovesSpec.plain.varTypes Try.prog) (ds ++ gs)).all (· ≤ reachBytes) = true := hsz0
  have hval : ∀ (j : Nat) t v, Try.f9.params[j]? = some t → args[j]? = some v → Value.okWide Try.prog W .any base t v := hval0
  have hW' := hW
  obtain ⟨p, q, hA0, hV, rfl, hfz, hnd⟩ := hW
  have hA : DataW.TrodAll enc Try.prog W 0 (fun _ => true) true Try.f9.params.toList args.toList ds p := hA0
  rw [Try.params9] at hA hval hsz
  obtain ⟨v0, vs0, d0, ds0, p0, q0, hargs, rfl, rfl, h0, r0⟩ := trodAll_cons hA
  obtain ⟨v1, vs1, d1, ds1, p1, q1, rfl, rfl, rfl, h1, r1⟩ := trodAll_cons r0
  obtain ⟨rfl, rfl, rfl⟩ := trodAll_nil r1
  obtain rfl : args = #[v0, v1] := by cases args; simp_all
  obtain ⟨rfl, rfl⟩ := trodVars_none hV
  have k0 := h0
  have lt0 : ∀ x ∈ p0, x.block < W.heap.size := by obtain ⟨m, hm⟩ := k0; exact DataW.trod_lt m _ _ _ hm
  obtain ⟨x0, cs0, rfl, hk0, ok0⟩ := Op.open_struct_arg Try.underlying24 (Op.opens_yard W) (hval 0 24 v0 rfl rfl) h0
  obtain ⟨A0, c0, rfl, hl0, hr0⟩ := Op.yard_open hk0
  have okl : x0.2.length ≤ 9223372036854775807 := by have := ok0.1; unfold maxLen at this; exact this
  have okr : ∀ r ∈ x0.2, r.length ≤ 9223372036854775807 := by have := ok0.2; unfold maxLen at this; exact this
  have k1 := h1
  have lt1 : ∀ x ∈ p1, x.block < W.heap.size := by obtain ⟨m, hm⟩ := k1; exact DataW.trod_lt m _ _ _ hm
  obtain ⟨A1, c1, l1, rfl, hc1, hr1, ok1⟩ := Op.open_slice_arg Try.underlying22 (Op.opens_rows W) (hval 1 22 v1 rfl rfl) h1
  have okm : l1.length ≤ 9223372036854775807 := by have := ok1.1; unfold maxLen at this; exact this
  have okmr : ∀ r ∈ l1, r.length ≤ 9223372036854775807 := by have := ok1.2; unfold maxLen at this; exact this
  clear hA0 hval0 hsz0 hsz
  refine (LRM.calls x0.1 A0 c0 x0.2 A1 c1 l1 W hr0 hl0 okl okr hr1 hc1 okm okmr).mono fun e W' ⟨he, bel⟩ => ?_
  subst he
  exact ⟨_, rfl, _, _, _, [], _, [], hW', trodAll_mk1 (shut_bool Try.underlying4 _), (trodAll_cons_mk (Below.trod laidOut (by kernel_rfl) (of_decide_eq_true (by kernel_rfl)) k0 bel lt0) (trodAll_cons_mk (Below.trod laidOut (by kernel_rfl) (of_decide_eq_true (by kernel_rfl)) k1 bel lt1) trodAll_mk0)), rfl, bel.frame _, fun h => by cases h⟩
theorem over : Rows.fnExactRunMovesRow.holds Try.pinned (OpenSpec.ofChange Rows.fnExactRunMovesSpec) :=
  OpenClaim.holds_of_wide 9 Try.f9 rfl rfl rfl rfl rfl rfl rfl ⟨rfl, rfl, rfl, rfl, rfl⟩ rfl rfl rfl rfl rfl (by kernel_rfl) Try.func9 (by kernel_rfl)
    (of_decide_eq_true (by kernel_rfl)) (by unfold Func.isWrapper; first | (rw [if_pos (by decide +kernel)]; kernel_rfl) | (rw [if_neg (by decide +kernel)]; exact ⟨rfl, rfl⟩))
    (fun os started H enc _ => lifted os started H enc)
end Go.Proofs.Ytibaiaenfeppcaa.RFnExactRunMoves
namespace Go.Proofs.Ytibaiaenfeppcaa
theorem fnExactRunMoves_holds : Rows.FnExactRunMovesSaid := RFnExactRunMoves.over
#print axioms fnExactRunMoves_holds
end Go.Proofs.Ytibaiaenfeppcaa

