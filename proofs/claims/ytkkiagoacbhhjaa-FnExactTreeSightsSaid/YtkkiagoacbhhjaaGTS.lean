/- Parts of the proof that the law of this seat holds: PuI, PuTS, RoTS. -/
import Derived.Test.YtkkiagoacbhhjaaGVSb
import Derived.Test.YtkkiagoacbhhjaaGICa
import Derived.Test.YtkkiagoacbhhjaaGICb
import Derived.Test.YtkkiagoacbhhjaaRows
/- What the laws' helpers compute on lists of numbers: equality with itself, marks, and that marks are held. -/
namespace Go.Proofs.Ytkkiagoacbhhjaa.PuI
open Go.RowKit Go.Proofs.YtkkiagoacbhhjaaW.PrintWords Go.Proofs.Ytkkiagoacbhhjaa.Q Go.Proofs.Ytkkiagoacbhhjaa.PuS

theorem eqInt_loop (l : List Int) (hl : l.length ≤ 1048576) : ∀ (d k i : Nat), i + d = l.length → d < k → laws_eqInt64S.l0 k l l i = some true := by
  intro d
  induction d with
  | zero =>
    intro k i hi hk
    obtain ⟨k, rfl⟩ : ∃ m, k = m + 1 := ⟨k - 1, by omega⟩
    simp only [laws_eqInt64S.l0]
    rw [if_neg (by omega)]
  | succ d ih =>
    intro k i hi hk
    obtain ⟨k, rfl⟩ : ∃ m, k = m + 1 := ⟨k - 1, by omega⟩
    simp only [laws_eqInt64S.l0, if_true]
    rw [if_pos (by omega), if_pos (by omega), if_pos (by omega), wrap_id (by omega) (by omega), show (i : Int) + 1 = ((i + 1 : Nat) : Int) by omega]
    exact ih k (i + 1) (by omega) (by omega)
theorem eqInt_eq (l : List Int) (hl : l.length ≤ 1048576) (k : Nat) (hk : l.length < k) : laws_eqInt64S.f k l l = some true := by
  simp only [laws_eqInt64S.f, if_true]
  exact eqInt_loop l hl l.length k 0 (by omega) hk

def marked (n : Nat) : List Int := (List.range n).map fun j : Nat => (j : Int) + 1
theorem marked_len (n : Nat) : (marked n).length = n := by simp [marked]
theorem mark_loop (n : Nat) (hn : n ≤ 1048576) : ∀ (d k i : Nat) (x : List Int), x.length = n → i + d = n → d < k → (∀ j, j < i → x[j]? = (marked n)[j]?) → laws_markInt64S.l0 k x ((i : Int) + 1) i = some ((n : Int) + 1, marked n) := by
  intro d
  induction d with
  | zero =>
    intro k i x hx hi hk hj
    obtain ⟨k, rfl⟩ : ∃ m, k = m + 1 := ⟨k - 1, by omega⟩
    simp only [laws_markInt64S.l0]
    rw [if_neg (by omega)]
    have : x = marked n := by
      apply List.ext_getElem?
      intro j
      by_cases h : j < i
      · exact hj j h
      · rw [List.getElem?_eq_none (by omega), List.getElem?_eq_none (by rw [marked_len]; omega)]
    rw [this, show i = n by omega]
  | succ d ih =>
    intro k i x hx hi hk hj
    obtain ⟨k, rfl⟩ : ∃ m, k = m + 1 := ⟨k - 1, by omega⟩
    simp only [laws_markInt64S.l0]
    rw [if_pos (by omega), if_pos (by omega), wrap_id (x := (i : Int) + 1 + 1) (by omega) (by omega), wrap_id (x := (i : Int) + 1) (by omega) (by omega), Int.toNat_natCast, show (i : Int) + 1 = ((i + 1 : Nat) : Int) by omega]
    refine ih k (i + 1) _ (by simp [hx]) (by omega) (by omega) ?_
    intro j hlt
    by_cases h : j = i
    · subst h
      rw [List.getElem?_set_self (by omega)]
      simp [marked, show j < n by omega]
    · rw [List.getElem?_set_ne (by omega)]; exact hj j (by omega)
theorem mark_eq (l : List Int) (hl : l.length ≤ 1048576) (k : Nat) (hk : l.length < k) : laws_markInt64S.f k l 1 = some ((l.length : Int) + 1, marked l.length) := by
  have := mark_loop l.length hl l.length k 0 l rfl (by omega) hk (by intro j hj; omega)
  exact this
theorem held_loop (n : Nat) (hn : n ≤ 1048576) : ∀ (d k i : Nat), i + d = n → d < k → laws_heldInt64S.l0 k (marked n) ((i : Int) + 1) i = some ((n : Int) + 1) := by
  intro d
  have hl := marked_len n
  induction d with
  | zero =>
    intro k i hi hk
    obtain ⟨k, rfl⟩ : ∃ m, k = m + 1 := ⟨k - 1, by omega⟩
    simp only [laws_heldInt64S.l0]
    rw [if_neg (by omega), show i = n by omega]
  | succ d ih =>
    intro k i hi hk
    obtain ⟨k, rfl⟩ : ∃ m, k = m + 1 := ⟨k - 1, by omega⟩
    have hr : rd (marked n) i = (i : Int) + 1 := by
      simp [rd, marked, List.getD_eq_getElem?_getD, show i < n by omega]
    simp only [laws_heldInt64S.l0, hr, if_true]
    rw [if_pos (by omega), if_pos (by omega), wrap_id (x := (i : Int) + 1 + 1) (by omega) (by omega), wrap_id (x := (i : Int) + 1) (by omega) (by omega), show (i : Int) + 1 = ((i + 1 : Nat) : Int) by omega]
    exact ih k (i + 1) (by omega) (by omega)
theorem held_eq (n : Nat) (hn : n ≤ 1048576) (k : Nat) (hk : n < k) : laws_heldInt64S.f k (marked n) 1 = some ((n : Int) + 1) := by
  have := held_loop n hn n k 0 (by omega) hk
  exact this

theorem markS_loop (n : Nat) (hn : n ≤ 1048576) : ∀ (d k i : Nat) (x : List S64), x.length = n → i + d = n → d < k → ∃ y : List S64, laws_markSightS.l0 k x (4 * (i : Int) + 1) i = some (4 * (n : Int) + 1, y) ∧ y.length = n := by
  intro d
  induction d with
  | zero =>
    intro k i x hx hi hk
    obtain ⟨k, rfl⟩ : ∃ m, k = m + 1 := ⟨k - 1, by omega⟩
    simp only [laws_markSightS.l0]
    rw [if_neg (by omega), show i = n by omega]
    exact ⟨x, rfl, hx⟩
  | succ d ih =>
    intro k i x hx hi hk
    obtain ⟨k, rfl⟩ : ∃ m, k = m + 1 := ⟨k - 1, by omega⟩
    simp only [laws_markSightS.l0, Option.bind_some]
    rw [if_pos (by omega), if_pos (by omega), wrap_id (x := 4 * (i : Int) + 1 + 1) (by omega) (by omega), wrap_id (x := 4 * (i : Int) + 1 + 1 + 1) (by omega) (by omega), wrap_id (x := 4 * (i : Int) + 1 + 1 + 1 + 1) (by omega) (by omega), wrap_id (x := 4 * (i : Int) + 1 + 1 + 1 + 1 + 1) (by omega) (by omega), wrap_id (x := (i : Int) + 1) (by omega) (by omega), show 4 * (i : Int) + 1 + 1 + 1 + 1 + 1 = 4 * ((i + 1 : Nat) : Int) + 1 by omega, show (i : Int) + 1 = ((i + 1 : Nat) : Int) by omega]
    exact ih k (i + 1) _ (by simp [hx]) (by omega) (by omega)
theorem markSurvey_eq (p : Int) (l : List S64) (hl : l.length ≤ 1048576) (k : Nat) (hk : l.length < k) : ∃ y : List S64, laws_markSurvey.f k p l 1 = some (4 * (l.length : Int) + 1, y) ∧ y.length = l.length := by
  obtain ⟨y, hy, hl2⟩ := markS_loop l.length hl l.length k 0 l rfl (by omega) hk
  refine ⟨y, ?_, hl2⟩
  have : laws_markSightS.f k l 1 = some (4 * (l.length : Int) + 1, y) := hy
  simp [laws_markSurvey.f, this]
end Go.Proofs.Ytkkiagoacbhhjaa.PuI

/- The program's TreeSights hands back what the reference's does. -/
namespace Go.Proofs.Ytkkiagoacbhhjaa.PuTS
open Go.RowKit Go.Proofs.YtkkiagoacbhhjaaW.PrintWords Go.Proofs.Ytkkiagoacbhhjaa.Q Go.Proofs.Ytkkiagoacbhhjaa.PuS Go.Proofs.Ytkkiagoacbhhjaa.PuI Go.Proofs.Ytkkiagoacbhhjaa.PuT Go.Proofs.Ytkkiagoacbhhjaa.Hb Go.Proofs.Ytkkiagoacbhhjaa.Hd
def res (p : Int) (l : List S64) : List Int := if connB p l = true then (treeS p l).out else []
theorem resLen (p : Int) (l : List S64) (hl : l.length ≤ 1048576) : (res p l).length ≤ 1048576 ∧ (res p l).length ≤ l.length := by
  unfold res
  split
  · have := at_out p l l.length
    rw [at_all] at this; omega
  · simp
theorem specR (p : Int) (l : List S64) (_ : l.length ≤ 1048576) (k : Nat) (_ : l.length < k) (_ : 80 ≤ k) : spec_TreeSights.f p l = some (res p l, connB p l) := by
  simp only [spec_TreeSights.f, spec_l10Whole.f, spec_l10Is.f, Option.bind_some, connB, res]
  by_cases hv : surveyB p l = true
  · simp only [hv, if_true, spec_l10Tree.f, Bool.true_and]
    cases h : (treeS p l).part.all (· == 0)
    · simp
    · simp only [if_true, Option.bind_some, hv, h]
  · simp [hv]
theorem implR (p : Int) (l : List S64) (hl : l.length ≤ 1048576) (k : Nat) (hk : l.length < k) (hk2 : 80 ≤ k) : impl_TreeSights.f k p l = some (res p l, connB p l) := by
  simp only [impl_TreeSights.f, implConn_eq p l hl k hk hk2, Option.bind_some, res]
  cases hc : connB p l
  · simp
  · have hv : surveyB p l = true := by simp only [connB, Bool.and_eq_true] at hc; exact hc.1
    obtain ⟨n, rfl⟩ := nat_pts hv
    simp [implTree_eq n l hv k hk2, out_eq hv]
theorem law_FnExactTreeSights (p : Int) (l : List S78) (h : l.length ≤ 9223372036854775807) : ∃ k, laws_FnExactTreeSights.f k p l = some true := by
  refine ⟨l.length + 100 + 3, ?_⟩
  simp only [laws_FnExactTreeSights.f, szSurvey_eq p l h, Option.bind_some]
  by_cases hl : l.length ≤ 1048576
  · have hm : (l.map conv).length ≤ 1048576 := by simpa using hl
    have hml : (l.map conv).length = l.length := by simp
    have hr := resLen p (l.map conv) hm
    rw [if_pos hl, if_neg (by omega)]
    obtain ⟨y, hy, -⟩ := markSurvey_eq p (l.map conv) hm (l.length + 100 + 2) (by omega)
    simp only [toSurvey_eq p l hl _ (show l.length < l.length + 100 + 3 by omega), Option.bind_some, specR p _ hm (l.length + 100 + 3) (by omega) (by omega), implR p _ hm (l.length + 100 + 3) (by omega) (by omega), eqInt_eq _ hr.1 (l.length + 100 + 3) (by omega), if_true, laws_FnExactTreeSights.j0, bne_self_eq_false, Bool.false_eq_true, if_false,
      toSurvey_eq p l hl (l.length + 100 + 2) (by omega), eqSurvey_eq p _ hm (l.length + 100 + 2) (by omega), hy, eqInt_eq _ hr.1 (l.length + 100 + 2) (by omega)]
    rw [if_neg (by omega)]
    simp only [laws_FnExactTreeSights.j1, Bool.false_eq_true, if_false, mark_eq _ hr.1 (l.length + 100 + 1) (by omega), Option.bind_some, held_eq _ hr.1 (l.length + 100 + 1) (by omega), if_true, toSurvey_eq p l hl (l.length + 100 + 1) (by omega), implR p _ hm (l.length + 100 + 1) (by omega) (by omega), eqInt_eq _ hr.1 (l.length + 100 + 1) (by omega), bne_self_eq_false]
    rw [if_neg (by omega)]
    simp only [laws_FnExactTreeSights.j2, Bool.false_eq_true, if_false, held_eq _ hr.1 (l.length + 100) (by omega), Option.bind_some, if_true]
    rw [if_neg (by omega)]
  · rw [if_neg hl]; simp
end Go.Proofs.Ytkkiagoacbhhjaa.PuTS

/- The program's TreeSights returns what the reference's returns, whatever the survey. No condition. -/
namespace Go.Proofs.Ytkkiagoacbhhjaa.RFnExactTreeSights
open Go.ChangeShapes Go.WideShapes Go.ChangeAt Go.RowKit
open Go.ChangeMaps (open_string shut_string)
open Go.Proofs.YtkkiagoacbhhjaaW.PrintWords
open Go.Proofs.Ytkkiagoacbhhjaa.Q
set_option linter.unusedVariables false
theorem own : ownKnob Try.prog.godebug = none := by kernel_rfl
theorem laidOut : laidOutB Try.prog = true := by kernel_rfl
set_option maxRecDepth 100000 in
theorem lifted (os : Os) (started : os.Started) (H : Type) (enc : TypeId × Value → H) :
    ReturnsInHanded {} Try.checked os 7 .any (Rows.fnExactTreeSightsSpec.pre6 enc Try.prog Try.f7 Rows.fnExactTreeSightsRow.domain false) (Rows.fnExactTreeSightsSpec.post enc Try.prog Try.f7 false true false false) := by
  refine returnsInHanded_of_change_sized (C := Try.checked) own started (by kernel_rfl) Try.func7
    (ChangeSpec.witness6 (enc := enc) (C := Try.checked) false ⟨#[], #[.agg #[.int .i64 0, .slice none 0 0]], []⟩ 8 (by kernel_rfl) (by kernel_rfl) (by kernel_rfl) (by kernel_rfl)) ?_
  intro W base args ds gs before hval0 hW hcnd hsz0 _
  have hsz : (DataW.weightsEach Try.prog (Try.f7.params.toList ++ Rows.fnExactTreeSightsSpec.plain.varTypes Try.prog) (ds ++ gs)).all (· ≤ reachBytes) = true := hsz0
  have hval : ∀ (j : Nat) t v, Try.f7.params[j]? = some t → args[j]? = some v → Value.okWide Try.prog W .any base t v := hval0
  have hW' := hW
  obtain ⟨p, q, hA0, hV, rfl, hfz, hnd⟩ := hW
  have hA : DataW.TrodAll enc Try.prog W 0 (fun _ => true) true Try.f7.params.toList args.toList ds p := hA0
  rw [Try.params7] at hA hval hsz
  obtain ⟨v0, vs0, d0, ds0, p0, q0, hargs, rfl, rfl, h0, r0⟩ := trodAll_cons hA
  obtain ⟨rfl, rfl, rfl⟩ := trodAll_nil r0
  obtain rfl : args = #[v0] := by cases args; simp_all
  obtain ⟨rfl, rfl⟩ := trodVars_none hV
  have k0 := h0
  have lt0 : ∀ x ∈ p0, x.block < W.heap.size := by obtain ⟨m, hm⟩ := k0; exact DataW.trod_lt m _ _ _ hm
  obtain ⟨x0, cs0, rfl, hk0, ok0⟩ := Op.open_struct_arg Try.underlying34 (Op.opens_survey W) (hval 0 34 v0 rfl rfl) h0
  obtain ⟨A0, c0, rfl, hl0, hr0⟩ := Op.survey_open hk0
  have ok0' : x0.2.length ≤ 9223372036854775807 := by have := ok0; unfold maxLen at this; exact this
  clear hA0 hval0 hsz0 hsz
  refine ((PuTS.law_FnExactTreeSights x0.1 x0.2 ok0').elim fun k hp => laws_FnExactTreeSights.calls k x0.1 A0 c0 x0.2 true W hr0 hl0 hp).mono fun e W' ⟨he, bel⟩ => ?_
  subst he
  exact ⟨_, rfl, _, _, _, [], _, [], hW', trodAll_mk1 (shut_bool Try.underlying4 _), (trodAll_cons_mk (Below.trod laidOut (by kernel_rfl) (of_decide_eq_true (by kernel_rfl)) k0 bel lt0) trodAll_mk0), rfl, bel.frame _, fun h => by cases h⟩
theorem over : Rows.fnExactTreeSightsRow.holds Try.pinned (OpenSpec.ofChange Rows.fnExactTreeSightsSpec) :=
  OpenClaim.holds_of_wide 7 Try.f7 rfl rfl rfl rfl rfl rfl rfl ⟨rfl, rfl, rfl, rfl, rfl⟩ rfl rfl rfl rfl rfl (by kernel_rfl) Try.func7 (by kernel_rfl)
    (of_decide_eq_true (by kernel_rfl)) (by unfold Func.isWrapper; first | (rw [if_pos (by decide +kernel)]; kernel_rfl) | (rw [if_neg (by decide +kernel)]; exact ⟨rfl, rfl⟩))
    (fun os started H enc _ => lifted os started H enc)
end Go.Proofs.Ytkkiagoacbhhjaa.RFnExactTreeSights
namespace Go.Proofs.Ytkkiagoacbhhjaa
theorem fnExactTreeSights_holds : Rows.FnExactTreeSightsSaid := RFnExactTreeSights.over
#print axioms fnExactTreeSights_holds
end Go.Proofs.Ytkkiagoacbhhjaa


