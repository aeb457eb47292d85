import Derived.Test.YtkkiagoacbhhjaaQ19
namespace Go.Proofs.Ytkkiagoacbhhjaa.PuVD
open Go.RowKit Go.Proofs.YtkkiagoacbhhjaaW.PrintWords Go.Proofs.Ytkkiagoacbhhjaa.Q

theorem l00In_eq (a b c : Int) : spec_l00In.f a b c = some (decide (b ≤ a) && decide (a ≤ c)) := by
  unfold spec_l00In.f; split <;> simp_all <;> (intros; omega)
theorem within_eq (a b c : Int) : impl_within.f a b c = some (decide (b ≤ a) && decide (a ≤ c)) := by
  unfold impl_within.f; split <;> simp_all <;> (intros; omega)
theorem ite_and (a b : Bool) : (if a = true then some b else some false) = some (a && b) := by cases a <;> simp
theorem turn_eq (a b : Int) : spec_l02Turn.f a b = some (decide (-12 ≤ a) && decide (a ≤ 12) && (decide (-12 ≤ b) && decide (b ≤ 12))) := by
  simp only [spec_l02Turn.f, l00In_eq, Option.bind_some, ite_and]
theorem turn2_eq (a b : Int) : impl_isTurn.f a b = some (decide (-12 ≤ a) && decide (a ≤ 12) && (decide (-12 ≤ b) && decide (b ≤ 12))) := by
  simp [impl_isTurn.f, impl_areWithin.f, Ha.areIn, Ha.inB]
theorem bound_eq (a : Int) : spec_l06Bound.f a = some (decide (0 ≤ a) && decide (a ≤ 1000000)) := by
  simp only [spec_l06Bound.f, l00In_eq, Option.bind_some]
theorem litres_eq (a : Int) : spec_l07Litres.f a = some (decide (0 ≤ a) && decide (a ≤ 100000)) := by
  simp only [spec_l07Litres.f, l00In_eq, Option.bind_some]
theorem ring_eq (a b : Int) : spec_l03Is.f a b = some (decide (0 ≤ a) && decide (a ≤ 1) && (decide (0 ≤ b) && decide (b ≤ 15))) := by
  simp only [spec_l03Is.f, l00In_eq, Option.bind_some, ite_and]
theorem ring2_eq (a b : Int) : impl_ValidRing.f a b = some (decide (0 ≤ a) && decide (a ≤ 1) && (decide (0 ≤ b) && decide (b ≤ 15))) := by
  simp only [impl_ValidRing.f, within_eq, Option.bind_some, ite_and]
theorem are_eq (a b : Int) : impl_areWithin.f [a, b] 0 100000 = some (decide (0 ≤ a) && decide (a ≤ 100000) && (decide (0 ≤ b) && decide (b ≤ 100000))) := by
  simp [impl_areWithin.f, Ha.areIn, Ha.inB]

/-- a deed is as its kind asks. -/
def deedB (x0 x1 x2 x3 x4 x5 x6 x7 x8 : Int) : Bool :=
  if x0 = 1 then (decide (-12 ≤ x1) && decide (x1 ≤ 12) && (decide (-12 ≤ x2) && decide (x2 ≤ 12))) && (decide (0 ≤ x3) && decide (x3 ≤ 1000000)) && (x4 == 0 && x5 == 0) && (x6 == 0 && x7 == 0 && x8 == 0)
  else if x0 = 2 then (x1 == 0 && x2 == 0 && x3 == 0) && (decide (0 ≤ x4) && decide (x4 ≤ 1) && (decide (0 ≤ x5) && decide (x5 ≤ 15))) && (x6 == 0 && x7 == 0 && x8 == 0)
  else if x0 = 3 then (x1 == 0 && x2 == 0 && x3 == 0) && (x4 == 0 && x5 == 0) && (decide (0 ≤ x6) && decide (x6 ≤ 100000)) && (decide (0 ≤ x7) && decide (x7 ≤ 100000)) && (decide (0 ≤ x8) && decide (x8 ≤ 100))
  else false

theorem j1_eq (k : Nat) (a b : Bool) (x0 x1 x2 x3 x4 x5 x6 x7 x8 : Int) (ha : a = !(x1 == 0 && x2 == 0 && x3 == 0)) (hb : b = !(x6 == 0 && x7 == 0 && x8 == 0)) :
    spec_l11Deed.j1 (k + 1) a b x0 x1 x2 x3 x4 x5 x6 x7 x8 = some (deedB x0 x1 x2 x3 x4 x5 x6 x7 x8, x0, x1, x2, x3, x4, x5, x6, x7, x8) := by
  simp only [spec_l11Deed.j1, turn_eq, bound_eq, litres_eq, ring_eq, l00In_eq, Option.bind_some, deedB]
  by_cases h1 : x0 = 1
  · simp only [h1, if_true, if_false]
    cases hA : (decide (-12 ≤ x1) && decide (x1 ≤ 12) && (decide (-12 ≤ x2) && decide (x2 ≤ 12))) <;> cases hB : (decide (0 ≤ x3) && decide (x3 ≤ 1000000)) <;> cases hC : (x4 == 0 && x5 == 0) <;> simp [hb]
  · by_cases h2 : x0 = 2
    · subst h2
      simp only [h1, if_true, if_false]
      cases hA : (x1 == 0 && x2 == 0 && x3 == 0) <;> simp [ha, hA, hb] <;> (cases hB : (decide (0 ≤ x4) && decide (x4 ≤ 1) && (decide (0 ≤ x5) && decide (x5 ≤ 15))) <;> simp_all <;> (intros; omega))
    · by_cases h3 : x0 = 3
      · subst h3
        simp only [h1, h2, if_true, if_false]
        cases hA : (x1 == 0 && x2 == 0 && x3 == 0) <;> simp [ha, hA]
        cases hB : (x4 == 0 && x5 == 0) <;> cases hC : (decide (0 ≤ x6) && decide (x6 ≤ 100000)) <;> cases hD : (decide (0 ≤ x7) && decide (x7 ≤ 100000)) <;> simp_all <;> (intros; omega)
      · simp [h1, h2, h3]

theorem spec_eq (x0 x1 x2 x3 x4 x5 x6 x7 x8 : Int) : spec_ValidDeed.f 2 x0 x1 x2 x3 x4 x5 x6 x7 x8 = some (deedB x0 x1 x2 x3 x4 x5 x6 x7 x8) := by
  have h0 : ∀ a : Bool, a = !(x1 == 0 && x2 == 0 && x3 == 0) → spec_l11Deed.j0 2 a x0 x1 x2 x3 x4 x5 x6 x7 x8 = some (deedB x0 x1 x2 x3 x4 x5 x6 x7 x8, x0, x1, x2, x3, x4, x5, x6, x7, x8) := by
    intro a ha
    simp only [spec_l11Deed.j0]
    by_cases h6 : x6 = 0
    · by_cases h7 : x7 = 0
      · rw [if_pos h6, if_pos h7]; exact j1_eq 0 _ _ _ _ _ _ _ _ _ _ _ ha (by simp [h6, h7]; rfl)
      · rw [if_pos h6, if_neg h7]; exact j1_eq 0 _ _ _ _ _ _ _ _ _ _ _ ha (by simp [h7])
    · rw [if_neg h6]; exact j1_eq 0 _ _ _ _ _ _ _ _ _ _ _ ha (by simp [h6])
  have : spec_l11Deed.f 2 x0 x1 x2 x3 x4 x5 x6 x7 x8 = some (deedB x0 x1 x2 x3 x4 x5 x6 x7 x8, x0, x1, x2, x3, x4, x5, x6, x7, x8) := by
    simp only [spec_l11Deed.f]
    by_cases h6 : x1 = 0
    · by_cases h7 : x2 = 0
      · rw [if_pos h6, if_pos h7]; exact h0 _ (by simp [h6, h7]; rfl)
      · rw [if_pos h6, if_neg h7]; exact h0 _ (by simp [h7])
    · rw [if_neg h6]; exact h0 _ (by simp [h6])
  simp [spec_ValidDeed.f, this]

theorem impl_eq (x0 x1 x2 x3 x4 x5 x6 x7 x8 : Int) : impl_ValidDeed.f x0 x1 x2 x3 x4 x5 x6 x7 x8 = some (deedB x0 x1 x2 x3 x4 x5 x6 x7 x8) := by
  simp only [impl_ValidDeed.f, turn2_eq, within_eq, ring2_eq, are_eq, Option.bind_some, ite_and, deedB]
  by_cases h1 : x0 = 1
  · simp [h1, Bool.and_comm, Bool.and_left_comm, Bool.and_assoc]
  · by_cases h2 : x0 = 2
    · simp [h2, Bool.and_comm, Bool.and_left_comm, Bool.and_assoc]
    · by_cases h3 : x0 = 3
      · simp [h3, Bool.and_comm, Bool.and_left_comm, Bool.and_assoc]
      · simp [h1, h2, h3]

theorem pure (x0 x1 x2 x3 x4 x5 x6 x7 x8 : Int) : ∃ k, laws_FnExactValidDeed.f k x0 x1 x2 x3 x4 x5 x6 x7 x8 = some true := by
  refine ⟨2, ?_⟩
  simp [laws_FnExactValidDeed.f, laws_toDeed.f, laws_toRing.f, spec_eq, impl_eq]
end Go.Proofs.Ytkkiagoacbhhjaa.PuVD
