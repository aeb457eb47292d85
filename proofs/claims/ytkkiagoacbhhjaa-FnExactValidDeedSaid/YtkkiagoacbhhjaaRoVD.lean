/- The program's ValidDeed returns what the reference's returns, whatever the deed. No condition. -/
import Derived.Test.YtkkiagoacbhhjaaRows
import Derived.Test.YtkkiagoacbhhjaaPuVD
import Derived.Test.YtkkiagoacbhhjaaOp
namespace Go.Proofs.Ytkkiagoacbhhjaa.RFnExactValidDeed
open Go.ChangeShapes Go.WideShapes Go.ChangeAt Go.RowKit
open Go.ChangeMaps (open_string shut_string)
open Go.Proofs.YtkkiagoacbhhjaaW.PrintWords
open Go.Proofs.Ytkkiagoacbhhjaa.Q
set_option linter.unusedVariables false
abbrev kD : Kd (Int × Int × Int × Int × (Int × Int) × Int × Int × Int) := Kd.pair (Kd.int .i64) (Kd.pair (Kd.int .i64) (Kd.pair (Kd.int .i64) (Kd.pair (Kd.int .i64) (Kd.pair (Kd.pair (Kd.int .i64) (Kd.int .i64)) (Kd.pair (Kd.int .i64) (Kd.pair (Kd.int .i64) (Kd.int .i64)))))))
theorem kD_open {w : World} {x : Int × Int × Int × Int × (Int × Int) × Int × Int × Int} {cs : List Value} (h : kD.K w x cs) : cs = [.int .i64 x.1, .int .i64 x.2.1, .int .i64 x.2.2.1, .int .i64 x.2.2.2.1, .int .i64 x.2.2.2.2.1.1, .int .i64 x.2.2.2.2.1.2, .int .i64 x.2.2.2.2.2.1, .int .i64 x.2.2.2.2.2.2.1, .int .i64 x.2.2.2.2.2.2.2] := by
  obtain ⟨_, _, rfl, rfl, ⟨_, _, rfl, rfl, ⟨_, _, rfl, rfl, ⟨_, _, rfl, rfl, ⟨_, _, rfl, ⟨_, _, rfl, rfl, rfl⟩, ⟨_, _, rfl, rfl, ⟨_, _, rfl, rfl, rfl⟩⟩⟩⟩⟩⟩⟩ := h
  rfl
theorem opensD (w : World) : Op.Opens Try.prog w 25 kD (fun _ => True) := by
  have i := Op.opens_imp (Op.opens_i64 (w := w) Try.underlying2) (Ok' := fun _ => True) (fun _ _ => trivial)
  have r := Op.opens_struct (w := w) Try.underlying23 (by kernel_rfl) (Op.opensL_cons i rfl (by kernel_rfl) (Op.opensL_one i rfl (by kernel_rfl)))
  exact Op.opens_imp (Op.opens_struct (w := w) Try.underlying25 (by kernel_rfl) (Op.opensL_cons i rfl (by kernel_rfl) (Op.opensL_cons i rfl (by kernel_rfl) (Op.opensL_cons i rfl (by kernel_rfl) (Op.opensL_cons i rfl (by kernel_rfl) (Op.opensL_cons r rfl (by kernel_rfl) (Op.opensL_cons i rfl (by kernel_rfl) (Op.opensL_cons i rfl (by kernel_rfl) (Op.opensL_one i rfl (by kernel_rfl)))))))))) (fun _ _ => trivial)
theorem own : ownKnob Try.prog.godebug = none := by kernel_rfl
theorem laidOut : laidOutB Try.prog = true := by kernel_rfl
set_option maxRecDepth 100000 in
theorem lifted (os : Os) (started : os.Started) (H : Type) (enc : TypeId × Value → H) :
    ReturnsInHanded {} Try.checked os 3 .any (Rows.fnExactValidDeedSpec.pre6 enc Try.prog Try.f3 Rows.fnExactValidDeedRow.domain false) (Rows.fnExactValidDeedSpec.post enc Try.prog Try.f3 false true false false) := by
  refine returnsInHanded_of_change_sized (C := Try.checked) own started (by kernel_rfl) Try.func3
    (ChangeSpec.witness6 (enc := enc) (C := Try.checked) false ⟨#[], #[.agg #[.int .i64 0, .int .i64 0, .int .i64 0, .int .i64 0, .int .i64 0, .int .i64 0, .int .i64 0, .int .i64 0, .int .i64 0]], []⟩ 8 (by kernel_rfl) (by kernel_rfl) (by kernel_rfl) (by kernel_rfl)) ?_
  intro W base args ds gs before hval0 hW hcnd hsz0 _
  have hsz : (DataW.weightsEach Try.prog (Try.f3.params.toList ++ Rows.fnExactValidDeedSpec.plain.varTypes Try.prog) (ds ++ gs)).all (· ≤ reachBytes) = true := hsz0
  have hval : ∀ (j : Nat) t v, Try.f3.params[j]? = some t → args[j]? = some v → Value.okWide Try.prog W .any base t v := hval0
  have hW' := hW
  obtain ⟨p, q, hA0, hV, rfl, hfz, hnd⟩ := hW
  have hA : DataW.TrodAll enc Try.prog W 0 (fun _ => true) true Try.f3.params.toList args.toList ds p := hA0
  rw [Try.params3] at hA hval hsz
  obtain ⟨v0, vs0, d0, ds0, p0, q0, hargs, rfl, rfl, h0, r0⟩ := trodAll_cons hA
  obtain ⟨rfl, rfl, rfl⟩ := trodAll_nil r0
  obtain rfl : args = #[v0] := by cases args; simp_all
  obtain ⟨rfl, rfl⟩ := trodVars_none hV
  have k0 := h0
  have lt0 : ∀ x ∈ p0, x.block < W.heap.size := by obtain ⟨m, hm⟩ := k0; exact DataW.trod_lt m _ _ _ hm
  obtain ⟨x0, cs0, rfl, hk0, ok0⟩ := Op.open_struct_arg Try.underlying25 (opensD W) (hval 0 25 v0 rfl rfl) h0
  obtain rfl := kD_open hk0
  obtain ⟨k, hp⟩ := PuVD.pure x0.1 x0.2.1 x0.2.2.1 x0.2.2.2.1 x0.2.2.2.2.1.1 x0.2.2.2.2.1.2 x0.2.2.2.2.2.1 x0.2.2.2.2.2.2.1 x0.2.2.2.2.2.2.2
  clear hA0 hval0 hsz0 hsz
  refine (laws_FnExactValidDeed.calls k _ _ _ _ _ _ _ _ _ true W hp).mono fun e W' ⟨he, bel⟩ => ?_
  subst he
  exact ⟨_, rfl, _, _, _, [], _, [], hW', trodAll_mk1 (shut_bool Try.underlying4 _), (trodAll_cons_mk (Below.trod laidOut (by kernel_rfl) (of_decide_eq_true (by kernel_rfl)) k0 bel lt0) trodAll_mk0), rfl, bel.frame _, fun h => by cases h⟩
theorem over : Rows.fnExactValidDeedRow.holds Try.pinned (OpenSpec.ofChange Rows.fnExactValidDeedSpec) :=
  OpenClaim.holds_of_wide 3 Try.f3 rfl rfl rfl rfl rfl rfl rfl ⟨rfl, rfl, rfl, rfl, rfl⟩ rfl rfl rfl rfl rfl (by kernel_rfl) Try.func3 (by kernel_rfl)
    (of_decide_eq_true (by kernel_rfl)) (by unfold Func.isWrapper; first | (rw [if_pos (by decide +kernel)]; kernel_rfl) | (rw [if_neg (by decide +kernel)]; exact ⟨rfl, rfl⟩))
    (fun os started H enc _ => lifted os started H enc)
end Go.Proofs.Ytkkiagoacbhhjaa.RFnExactValidDeed
namespace Go.Proofs.Ytkkiagoacbhhjaa
theorem fnExactValidDeed_holds : Rows.FnExactValidDeedSaid := RFnExactValidDeed.over
#print axioms fnExactValidDeed_holds
end Go.Proofs.Ytkkiagoacbhhjaa
