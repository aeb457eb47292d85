/- A survey that came in as an argument: its value and what its sights' cells hold. -/
import Derived.Test.YtkkiagoacbhhjaaQ0
import Derived.Test.YtkkiagoacbhhjaaOp
namespace Go.Proofs.Ytkkiagoacbhhjaa.Op
open Go.RowKit Go.ChangeShapes Go.WideShapes Go.ChangeAt Go.Proofs.YtkkiagoacbhhjaaW.PrintWords Go.Proofs.Ytkkiagoacbhhjaa.Q

abbrev kSurvey : Kd (Int × List S78) := Kd.pair (Kd.int .i64) (Kd.slice 78 k78)
theorem opens_survey (w : World) : Opens Try.prog w 34 kSurvey (fun x => x.2.length ≤ maxLen) := by
  have i := opens_imp (opens_i64 (w := w) Try.underlying2) (Ok' := fun _ => True) (fun _ _ => trivial)
  have s := opens_iso (d := Kd.pair (Kd.int .i64) (Kd.pair (Kd.int .i64) (Kd.pair (Kd.int .i64) (Kd.int .i64)))) (f := fun x : S78 => (x.f0, x.f1, x.f2, x.f3)) (fun a => ⟨a.1, a.2.1, a.2.2.1, a.2.2.2⟩) (fun _ => rfl)
    (opens_struct (w := w) Try.underlying78 (by kernel_rfl) (opensL_cons i rfl (by kernel_rfl) (opensL_cons i rfl (by kernel_rfl) (opensL_cons i rfl (by kernel_rfl) (opensL_one i rfl (by kernel_rfl))))))
  have l := opens_slice (d := k78) (w := w) Try.underlying32 s (by kernel_rfl)
  exact opens_imp (opens_struct (w := w) Try.underlying34 (by kernel_rfl) (opensL_cons i rfl (by kernel_rfl) (opensL_one l rfl (by kernel_rfl)))) (fun _ h => h.2.2)
theorem survey_open {w : World} {x : Int × List S78} {cs : List Value} (h : kSurvey.K w x cs) : ∃ A c, cs = [.int .i64 x.1, .slice A x.2.length c] ∧ x.2.length ≤ c ∧ Kd.C k78 w A x.2.length x.2 := by
  obtain ⟨_, _, rfl, rfl, A, c, rfl, hl, hr⟩ := h
  exact ⟨A, c, rfl, hl, hr⟩
end Go.Proofs.Ytkkiagoacbhhjaa.Op
