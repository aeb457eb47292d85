/- Parts of the proof that the law of this seat holds: Q60, Q61, Q2, Q15, Q16, Q48, Q49, Q50, PuVD, PuDT, Ni, Hr, Hs, Ri, Vb9, Vb10, Vb11, Vb12, Vb13. -/
import Derived.Test.YtkbklocfdoofeaaDoorGRCpa
import Derived.Lib.AtoiErrMem
import Derived.Lib.ParseIntBTie
set_option linter.unusedVariables false
set_option linter.unusedSimpArgs false
-- made by a patched copy of print.sh: this session's own
namespace Go.Proofs.YtkbklocfdoofeaaDoor.Q
open Go.RowKit Go.Proofs.YtkbklocfdoofeaaDoorW.PrintWords Go.Proofs.YtkbklocfdoofeaaDoorW.PrintLast Go.Proofs.YtkbklocfdoofeaaDoorW.PrintMore
attribute [local go_sem] max2_int min2_int max_two min_two max_three min_three max_four min_four   -- for this text's walks alone
set_option linter.unusedVariables false
set_option linter.unusedSimpArgs false

/-! ### impl_ringText: function 82 -/
def impl_ringText.f (a0_0 : Int) (a0_1 : Int) : Option (ByteArray) := if 0 ≤ a0_0 then (if a0_0 ≤ (wrap64 (a0_0 + 1)) then (if (wrap64 (a0_0 + 1)) ≤ 2 then ((impl_Decimal.f a0_1).bind fun t292 => (if ((⟨#[115, 116]⟩ : ByteArray).extract (a0_0 : Int).toNat ((wrap64 (a0_0 + 1)) : Int).toNat).size + t292.size ≤ 9223372036854775807 then (some (((⟨#[115, 116]⟩ : ByteArray).extract (a0_0 : Int).toNat ((wrap64 (a0_0 + 1)) : Int).toNat) ++ t292)) else (none))) else (none)) else (none)) else (none)
def impl_ringText.T1 : Bool × List (List Nat × List Nat) := (true, [([], []), ([0], [0]), ([], []), ([2], [2]), ([3], [3]), ([1, 4], [1, 4]), ([], []), ([6], [6]), ([7], [7]), ([5, 8], [5, 8]), ([9, 8, 0, 1, 2, 3, 4, 5, 6, 7, 8, 9], [9])])
def impl_ringText.B1 : List Nat := [0, 1, 0, 4, 12, 31, 0, 64, 192, 511, 1023]
theorem impl_ringText.tab1 : rtab .any (opsOf Tryd.f82 1) = impl_ringText.T1 := by kernel_rfl
theorem impl_ringText.bits1 : waitsOk impl_ringText.T1.2 impl_ringText.B1 = true := by kernel_rfl
set_option maxHeartbeats 8000000 in
set_option maxRecDepth 100000 in
theorem impl_ringText.calls (a0_0 : Int) (a0_1 : Int) (r : ByteArray) (w : World) (hT : Tb.TB w) (h : impl_ringText.f a0_0 a0_1 = some r) :
    Calls Tryd.prog 82 #[.agg #[.int .i64 a0_0, .int .i64 a0_1]] w fun e w' => e = .returned (.string r) ∧ Below w.heap.size w w' := by
  have HT := Aside0.mk hT
  clear hT
  have hu39 := Tryd.underlying39
  have HB := Aside0.mk (Below.refl w.heap.size w)
  have H : (if 0 ≤ a0_0 then (if a0_0 ≤ (wrap64 (a0_0 + 1)) then (if (wrap64 (a0_0 + 1)) ≤ 2 then ((impl_Decimal.f a0_1).bind fun t292 => (if ((⟨#[115, 116]⟩ : ByteArray).extract (a0_0 : Int).toNat ((wrap64 (a0_0 + 1)) : Int).toNat).size + t292.size ≤ 9223372036854775807 then (some (((⟨#[115, 116]⟩ : ByteArray).extract (a0_0 : Int).toNat ((wrap64 (a0_0 + 1)) : Int).toNat) ++ t292)) else (none))) else (none)) else (none)) else (none)) = some r := h
  clear h
  by_cases c2 : 0 ≤ a0_0
  · rw [if_pos c2] at H
    have c2b0 := eq_true c2
    have c2b1 : decide (0 ≤ a0_0) = true := decide_eq_true c2
    clear c2
    by_cases c3 : a0_0 ≤ (wrap64 (a0_0 + 1))
    · rw [if_pos c3] at H
      have c3b0 := eq_true c3
      have c3b1 : decide (a0_0 ≤ (wrap64 (a0_0 + 1))) = true := decide_eq_true c3
      by_cases c4 : (wrap64 (a0_0 + 1)) ≤ 2
      · rw [if_pos c4] at H
        have c4b0 := eq_true c4
        have c4b1 : decide ((wrap64 (a0_0 + 1)) ≤ 2) = true := decide_eq_true c4
        replace H := Option.bind_eq_some_iff.mp H
        obtain ⟨t292, A50, H⟩ := H
        replace H : (if ((⟨#[115, 116]⟩ : ByteArray).extract (a0_0 : Int).toNat ((wrap64 (a0_0 + 1)) : Int).toNat).size + t292.size ≤ 9223372036854775807 then (some (((⟨#[115, 116]⟩ : ByteArray).extract (a0_0 : Int).toNat ((wrap64 (a0_0 + 1)) : Int).toNat) ++ t292)) else (none)) = some r := H
        have A5 := Aside0.mk A50
        clear A50
        by_cases c6 : ((⟨#[115, 116]⟩ : ByteArray).extract (a0_0 : Int).toNat ((wrap64 (a0_0 + 1)) : Int).toNat).size + t292.size ≤ 9223372036854775807
        · rw [if_pos c6] at H
          have c6b0 := eq_true c6
          have c6b1 : decide (((⟨#[115, 116]⟩ : ByteArray).extract (a0_0 : Int).toNat ((wrap64 (a0_0 + 1)) : Int).toNat).size + t292.size ≤ 9223372036854775807) = true := decide_eq_true c6
          try have c6b2 : (9223372036854775807 < ((⟨#[115, 116]⟩ : ByteArray).extract (a0_0 : Int).toNat ((wrap64 (a0_0 + 1)) : Int).toNat).size + t292.size) = False := eq_false (Nat.not_lt.2 c6)
          try have c6b4 : (9223372036854775807 < (wrap64 (a0_0 + 1)).toNat - a0_0.toNat + t292.size) = False := by have h_ := c6; rw [ByteArray.size_extract, show (⟨#[115, 116]⟩ : ByteArray).size = 2 from rfl] at h_; exact eq_false (by omega)
          obtain rfl := Option.some.inj H
          go_enter Tryd.func82, Tryd.ntmps82
          try go_wp2_with (first | ((with_reducible refine gate_dst (N := 1) rfl ?_); refine box_event ?hg (N := 1) ?hd (cs := #[.int .i64 a0_0, .int .i64 a0_1]) (t := 39) ?hr ?_; (case hd => rfl); (case hg => rfl); (case hr => first | (go_simp; done) | (go_simp; rfl)); intro gb291 hg w7 hbox hb; have n0_ := Aside0.mk (below_step (by repeat (first | (with_reducible first | exact HB.out | apply below_alloc | apply pw_below_drewN | apply below_drew1) | exact HB.out)) hb); have n1_ := Aside0.mk (hbox); have n2_ := Aside0.mk ((by rw [hg]; exact (below_size (by repeat (first | (with_reducible first | exact HB.out | apply below_alloc | apply pw_below_drewN | apply below_drew1) | exact HB.out))) : w.heap.size ≤ gb291)); have n3_ := Aside0.mk ((by rw [hg]; exact (below_size (by repeat (first | (with_reducible first | exact HB.out | apply below_alloc | apply pw_below_drewN | apply below_drew1) | exact HB.out))) : w.heap.size ≤ gb291)); clear HB; have HB := n0_; have BK291 := n1_; have GW291 := n2_; have GE291 := n3_; clear n0_ n1_ n2_ n3_; clear hb hbox hg))
          have n0_ := Aside0.mk (blk_drew BK291.out)
          have n1_ := Aside0.mk (below_drew1 HB.out)
          clear BK291
          clear HB
          have BK291 := n0_
          have HB := n1_
          clear n0_ n1_
          refine start_ (n := 11) (S := fun w' => w'.cell? ⟨gb291, 0, none⟩ = some (.int .i64 a0_0) ∧ w'.cell? ⟨gb291, 1, none⟩ = some (.int .i64 a0_1)) (ds := []) #[false, false, false, false, false, false, false, false, false, false, false] (by kernel_rfl) rfl rfl ⟨(blk_cell BK291.out 0).trans rfl, (blk_cell BK291.out 1).trans rfl⟩ (fun hHeld => ?_); refine with_tabW impl_ringText.tab1 impl_ringText.bits1 (fun HT_ HW_ => ?_)
          generalize w7.drew = w8 at BK291 HB hHeld ⊢
          refine pure_ (i := 0) (N := some 3) (v := ?_) (a' := ?_) #[true, false, false, false, false, false, false, false, false, false, false] rfl rfl (any_of HT_.out (by kernel_rfl)) (fun _ _ _ h => h) (Or.inl ⟨by rfl, ?_⟩) ?_ ?_
          rotate_left
          · intro w'
            go_simp
            with_reducible rfl
          rotate_left
          · simp only [Act.put, List.setIfInBounds_toArray, List.set_cons_zero, List.set_cons_succ, i64_w, i32_w]
            rfl
          refine pure_ (i := 2) (N := some 5) (v := ?_) (a' := ?_) #[true, false, true, false, false, false, false, false, false, false, false] rfl rfl (any_of HT_.out (by kernel_rfl)) (fun _ _ _ h => h) (Or.inl ⟨by rfl, ?_⟩) ?_ ?_
          rotate_left
          · intro w'
            go_simp
            with_reducible rfl
          rotate_left
          · simp only [Act.put, List.setIfInBounds_toArray, List.set_cons_zero, List.set_cons_succ, i64_w, i32_w]
            rfl
          refine pure_ (i := 6) (N := some 9) (v := ?_) (a' := ?_) #[true, false, true, false, false, false, true, false, false, false, false] rfl rfl (any_of HT_.out (by kernel_rfl)) (fun _ _ _ h => h) (Or.inl ⟨by rfl, ?_⟩) ?_ ?_
          rotate_left
          · intro w'
            go_simp
            with_reducible rfl
          rotate_left
          · simp only [Act.put, List.setIfInBounds_toArray, List.set_cons_zero, List.set_cons_succ, i64_w, i32_w]
            rfl
          refine take_ (i := 1) (N := some 4) (v := ?_) (a' := ?_) #[true, true, true, false, false, false, true, false, false, false, false] rfl rfl (take_ofW HT_.out HW_.out (by kernel_rfl)) (fun _ _ _ h => h) (Or.inl ⟨by rfl, ?_⟩) hHeld ?_ ?_
          rotate_left
          · rintro w' ⟨s0, s1⟩
            go_simp
            with_reducible rfl
          rotate_left
          · simp only [Act.put, List.setIfInBounds_toArray, List.set_cons_zero, List.set_cons_succ, i64_w, i32_w]
            rfl
          refine take_ (i := 3) (N := some 6) (v := ?_) (a' := ?_) #[true, true, true, true, false, false, true, false, false, false, false] rfl rfl (take_ofW HT_.out HW_.out (by kernel_rfl)) (fun _ _ _ h => h) (Or.inl ⟨by rfl, ?_⟩) hHeld ?_ ?_
          rotate_left
          · rintro w' ⟨s0, s1⟩
            go_simp
            with_reducible rfl
          rotate_left
          · simp only [Act.put, List.setIfInBounds_toArray, List.set_cons_zero, List.set_cons_succ, i64_w, i32_w]
            rfl
          refine pure_ (i := 4) (N := some 7) (v := ?_) (a' := ?_) #[true, true, true, true, true, false, true, false, false, false, false] rfl rfl (any_of HT_.out (by kernel_rfl)) (fun _ _ _ h => h) (Or.inl ⟨by rfl, ?_⟩) ?_ ?_
          rotate_left
          · intro w'
            go_simp
            with_reducible rfl
          rotate_left
          · simp only [Act.put, List.setIfInBounds_toArray, List.set_cons_zero, List.set_cons_succ, i64_w, i32_w]
            rfl
          refine pure_ (i := 5) (N := some 8) (v := ?_) (a' := ?_) #[true, true, true, true, true, true, true, false, false, false, false] rfl rfl (any_of HT_.out (by kernel_rfl)) (fun _ _ _ h => h) (Or.inl ⟨by rfl, ?_⟩) ?_ ?_
          rotate_left
          · intro w'
            go_simp
            with_reducible rfl
          rotate_left
          · simp only [Act.put, List.setIfInBounds_toArray, List.set_cons_zero, List.set_cons_succ, i64_w, i32_w]
            rfl
          refine take_ (i := 7) (N := some 10) (v := ?_) (a' := ?_) #[true, true, true, true, true, true, true, true, false, false, false] rfl rfl (take_ofW HT_.out HW_.out (by kernel_rfl)) (fun _ _ _ h => h) (Or.inl ⟨by rfl, ?_⟩) hHeld ?_ ?_
          rotate_left
          · rintro w' ⟨s0, s1⟩
            go_simp
            with_reducible rfl
          rotate_left
          · simp only [Act.put, List.setIfInBounds_toArray, List.set_cons_zero, List.set_cons_succ, i64_w, i32_w]
            rfl
          refine one_ (i := 8) (N := some 11) #[true, true, true, true, true, true, true, true, true, false, false] rfl rfl (one_of HT_.out (by kernel_rfl)) (by decide) (fun K hK => ?_)
          refine goes_ Tryd.func41 (by kernel_rfl) rfl #[.int .i64 a0_1] (by rfl) rfl rfl (by (try simp only [List.map_toArray, List.map_cons, List.map_nil]); first | done | rfl | (simp only [List.length_drop, List.length_take]; rfl)) ?_
          with_reducible refine (impl_Decimal.calls a0_1 t292 _ ?side1 A5.out).mono ?_
          (case side1 => first | exact HT.out | exact Tb.TB.below HT.out (by repeat (first | (with_reducible first | exact HB.out | apply below_alloc | apply pw_below_drewN | apply below_drew1 | refine below_set ?_ GE291.out) | exact HB.out)))
          rintro e w9 ⟨rfl, hb⟩
          refine ⟨_, rfl, ?_⟩
          have n0_ := Aside0.mk (blk_below (g := gb291) (o := .cells #[.int .i64 a0_0, .int .i64 a0_1] 39 (0, 0)) (by (with_reducible repeat (first | refine blk_drewN ?_ _ | refine blk_drew ?_ | refine blk_alloc ?_ _)); exact BK291.out) hb)
          have n1_ := Aside0.mk (below_step (by repeat (first | (with_reducible first | exact HB.out | apply below_alloc | apply pw_below_drewN | apply below_drew1 | refine below_set ?_ GE291.out) | exact HB.out)) hb)
          clear BK291
          clear HB
          have BK291 := n0_
          have HB := n1_
          clear n0_ n1_
          (try clear hb)
          (try clear hb2)
          (try clear hk)
          (try clear hi)
          refine hK.out _ _ ⟨(blk_cell BK291.out 0).trans rfl, (blk_cell BK291.out 1).trans rfl⟩ (fun hHeld => ?_)
          clear hK K
          refine norm_ (a' := ?_) ?_ ?_
          rotate_left
          · show Act.put _ (some 11) _ = _
            simp only [Act.put, List.setIfInBounds_toArray, List.set_cons_zero, List.set_cons_succ, i64_w, i32_w]
            rfl
          refine pure_ (i := 9) (N := some 12) (v := ?_) (a' := ?_) #[true, true, true, true, true, true, true, true, true, true, false] rfl rfl (any_of HT_.out (by kernel_rfl)) (fun _ _ _ h => h) (Or.inl ⟨by rfl, ?_⟩) ?_ ?_
          rotate_left
          · intro w'
            go_simp
            with_reducible rfl
          rotate_left
          · simp only [Act.put, List.setIfInBounds_toArray, List.set_cons_zero, List.set_cons_succ, i64_w, i32_w]
            rfl
          refine pure_ (i := 10) (N := some 2) (v := ?_) (a' := ?_) #[true, true, true, true, true, true, true, true, true, true, true] rfl rfl (any_of HT_.out (by kernel_rfl)) (fun _ _ _ h => h) (Or.inl ⟨by rfl, ?_⟩) ?_ ?_
          rotate_left
          · intro w'
            go_simp
            with_reducible rfl
          rotate_left
          · simp only [Act.put, List.setIfInBounds_toArray, List.set_cons_zero, List.set_cons_succ, i64_w, i32_w]
            rfl
          refine done_ (done_of HT_.out (by kernel_rfl)) ?_
          try go_wp2
          go_ret
          exact ⟨by first | rfl | (simp [errW_none, errW_some] <;> rfl) | (simp [*, errW_none, errW_some] <;> rfl), by repeat (first | (with_reducible first | exact HB.out | apply below_alloc | apply pw_below_drewN | apply below_drew1 | refine below_set ?_ GE291.out) | exact HB.out)⟩
        · rw [if_neg c6] at H
          exact absurd H (by simp)
      · rw [if_neg c4] at H
        exact absurd H (by simp)
    · rw [if_neg c3] at H
      exact absurd H (by simp)
  · rw [if_neg c2] at H
    exact absurd H (by simp)

end Go.Proofs.YtkbklocfdoofeaaDoor.Q

-- made by a patched copy of print.sh: this session's own
namespace Go.Proofs.YtkbklocfdoofeaaDoor.Q
open Go.RowKit Go.Proofs.YtkbklocfdoofeaaDoorW.PrintWords Go.Proofs.YtkbklocfdoofeaaDoorW.PrintLast Go.Proofs.YtkbklocfdoofeaaDoorW.PrintMore
attribute [local go_sem] max2_int min2_int max_two min_two max_three min_three max_four min_four   -- for this text's walks alone
set_option linter.unusedVariables false
set_option linter.unusedSimpArgs false

/-! ### impl_deedText: function 47 -/
def impl_deedText.f (k : Nat) (a0_0 : Int) (a0_1 : Int) (a0_2 : Int) (a0_3 : Int) (a0_4 : Int) (a0_5 : Int) (a0_6 : Int) (a0_7 : Int) (a0_8 : Int) : Option (ByteArray) := if a0_0 = 1 then ((impl_decimals.f k (([a0_1, a0_2, a0_3] : List Int)) (⟨#[32]⟩ : ByteArray)).bind fun t297 => (if 5 + t297.size ≤ 9223372036854775807 then (some ((⟨#[112, 117, 115, 104, 32]⟩ : ByteArray) ++ t297)) else (none))) else (if a0_0 = 2 then ((impl_ringText.f a0_4 a0_5).bind fun t298 => (if 6 + t298.size ≤ 9223372036854775807 then (some ((⟨#[98, 117, 105, 108, 100, 32]⟩ : ByteArray) ++ t298)) else (none))) else ((impl_decimals.f k (([a0_6, a0_7, a0_8] : List Int)) (⟨#[32]⟩ : ByteArray)).bind fun t302 => (if 6 + t302.size ≤ 9223372036854775807 then (some ((⟨#[103, 114, 111, 117, 116, 32]⟩ : ByteArray) ++ t302)) else (none))))
set_option maxHeartbeats 8000000 in
set_option maxRecDepth 100000 in
theorem impl_deedText.calls (k : Nat) (a0_0 : Int) (a0_1 : Int) (a0_2 : Int) (a0_3 : Int) (a0_4 : Int) (a0_5 : Int) (a0_6 : Int) (a0_7 : Int) (a0_8 : Int) (r : ByteArray) (w : World) (hT : Tb.TB w) (h : impl_deedText.f k a0_0 a0_1 a0_2 a0_3 a0_4 a0_5 a0_6 a0_7 a0_8 = some r) :
    Calls Tryd.prog 47 #[.agg #[.int .i64 a0_0, .int .i64 a0_1, .int .i64 a0_2, .int .i64 a0_3, .int .i64 a0_4, .int .i64 a0_5, .int .i64 a0_6, .int .i64 a0_7, .int .i64 a0_8]] w fun e w' => e = .returned (.string r) ∧ Below w.heap.size w w' := by
  have HT := Aside0.mk hT
  clear hT
  have hu41 := Tryd.underlying41
  have hu39 := Tryd.underlying39
  have HB := Aside0.mk (Below.refl w.heap.size w)
  have H : (if a0_0 = 1 then ((impl_decimals.f k (([a0_1, a0_2, a0_3] : List Int)) (⟨#[32]⟩ : ByteArray)).bind fun t297 => (if 5 + t297.size ≤ 9223372036854775807 then (some ((⟨#[112, 117, 115, 104, 32]⟩ : ByteArray) ++ t297)) else (none))) else (if a0_0 = 2 then ((impl_ringText.f a0_4 a0_5).bind fun t298 => (if 6 + t298.size ≤ 9223372036854775807 then (some ((⟨#[98, 117, 105, 108, 100, 32]⟩ : ByteArray) ++ t298)) else (none))) else ((impl_decimals.f k (([a0_6, a0_7, a0_8] : List Int)) (⟨#[32]⟩ : ByteArray)).bind fun t302 => (if 6 + t302.size ≤ 9223372036854775807 then (some ((⟨#[103, 114, 111, 117, 116, 32]⟩ : ByteArray) ++ t302)) else (none))))) = some r := h
  clear h
  by_cases c2 : a0_0 = 1
  · rw [if_pos c2] at H
    have c2b0 : (a0_0 == 1) = true := beq_iff_eq.mpr c2
    have c2b1 : (a0_0 != 1) = false := bne_eq_false_iff_eq.mpr c2
    clear c2
    obtain ⟨y294, hy294⟩ : ∃ y_ : List Int, y_ = (([a0_1, a0_2, a0_3] : List Int)) := ⟨_, rfl⟩
    replace H : ((impl_decimals.f k y294 (⟨#[32]⟩ : ByteArray)).bind fun t297 => (if 5 + t297.size ≤ 9223372036854775807 then (some ((⟨#[112, 117, 115, 104, 32]⟩ : ByteArray) ++ t297)) else (none))) = some r := by first | (rw [hy294]; with_reducible exact H) | (have H2_ := (Option.bind_some _ _).symm.trans H; rw [hy294]; with_reducible exact H2_) | (have H2_ := (Option.bind_some _ _).symm.trans H; with_reducible exact H2_) | with_reducible exact H | (rw [hy294]; exact H) | exact H
    have Ny294 := Aside0.mk hy294
    clear hy294
    replace H := Option.bind_eq_some_iff.mp H
    obtain ⟨t297, A30, H⟩ := H
    replace H : (if 5 + t297.size ≤ 9223372036854775807 then (some ((⟨#[112, 117, 115, 104, 32]⟩ : ByteArray) ++ t297)) else (none)) = some r := H
    have A3 := Aside0.mk A30
    clear A30
    by_cases c4 : 5 + t297.size ≤ 9223372036854775807
    · rw [if_pos c4] at H
      have c4b0 := eq_true c4
      have c4b1 : decide (5 + t297.size ≤ 9223372036854775807) = true := decide_eq_true c4
      try have c4b2 : (9223372036854775807 < 5 + t297.size) = False := eq_false (Nat.not_lt.2 c4)
      obtain rfl := Option.some.inj H
      go_enter Tryd.func47, Tryd.ntmps47
      go_wp2_with (first | ((with_reducible refine gate_dst (N := 1) rfl ?_); refine box_event ?hg (N := 1) ?hd (cs := #[.int .i64 a0_0, .int .i64 a0_1, .int .i64 a0_2, .int .i64 a0_3, .int .i64 a0_4, .int .i64 a0_5, .int .i64 a0_6, .int .i64 a0_7, .int .i64 a0_8]) (t := 41) ?hr ?_; (case hd => rfl); (case hg => rfl); (case hr => first | (go_simp; done) | (go_simp; rfl)); intro gb293 hg w5 hbox hb; have n0_ := Aside0.mk (below_step (by repeat (first | (with_reducible first | exact HB.out | apply below_alloc | apply pw_below_drewN | apply below_drew1) | exact HB.out)) hb); have n1_ := Aside0.mk (hbox); have n2_ := Aside0.mk ((by rw [hg]; exact (below_size (by repeat (first | (with_reducible first | exact HB.out | apply below_alloc | apply pw_below_drewN | apply below_drew1) | exact HB.out))) : w.heap.size ≤ gb293)); have n3_ := Aside0.mk ((by rw [hg]; exact (below_size (by repeat (first | (with_reducible first | exact HB.out | apply below_alloc | apply pw_below_drewN | apply below_drew1) | exact HB.out))) : w.heap.size ≤ gb293)); clear HB; have HB := n0_; have BK293 := n1_; have GW293 := n2_; have GE293 := n3_; clear n0_ n1_ n2_ n3_; clear hb hbox hg; have hcz6_0 : w5.cell? ⟨gb293, 0, none⟩ = some (.int .i64 a0_0) := (blk_cell BK293.out 0).trans rfl; have hcz6_1 : w5.cell? ⟨gb293, 1, none⟩ = some (.int .i64 a0_1) := (blk_cell BK293.out 1).trans rfl; have hcz6_2 : w5.cell? ⟨gb293, 2, none⟩ = some (.int .i64 a0_2) := (blk_cell BK293.out 2).trans rfl; have hcz6_3 : w5.cell? ⟨gb293, 3, none⟩ = some (.int .i64 a0_3) := (blk_cell BK293.out 3).trans rfl; have hcz6_4 : w5.cell? ⟨gb293, 4, none⟩ = some (.int .i64 a0_4) := (blk_cell BK293.out 4).trans rfl; have hcz6_5 : w5.cell? ⟨gb293, 5, none⟩ = some (.int .i64 a0_5) := (blk_cell BK293.out 5).trans rfl; have hcz6_6 : w5.cell? ⟨gb293, 6, none⟩ = some (.int .i64 a0_6) := (blk_cell BK293.out 6).trans rfl; have hcz6_7 : w5.cell? ⟨gb293, 7, none⟩ = some (.int .i64 a0_7) := (blk_cell BK293.out 7).trans rfl; have hcz6_8 : w5.cell? ⟨gb293, 8, none⟩ = some (.int .i64 a0_8) := (blk_cell BK293.out 8).trans rfl; have hfz6_0 := blk_frozen BK293.out 0; have hfz6_1 := blk_frozen BK293.out 1; have hfz6_2 := blk_frozen BK293.out 2; have hfz6_3 := blk_frozen BK293.out 3; have hfz6_4 := blk_frozen BK293.out 4; have hfz6_5 := blk_frozen BK293.out 5; have hfz6_6 := blk_frozen BK293.out 6; have hfz6_7 := blk_frozen BK293.out 7; have hfz6_8 := blk_frozen BK293.out 8) | ((with_reducible refine gate_dst (N := 13) rfl ?_); refine Kd.R_lit (Kd.int .i64) _ 2 ?hg (N := 13) ?hd (xs := ([a0_1, a0_2, a0_3] : List Int)) (inner := [.int .i64 a0_1, .int .i64 a0_2, .int .i64 a0_3]) (ok := fun _ => True) (okp := fun _ => True) ?hr ?hp (fun _ hk => hk) trivial (Below.refl _ _) (Nat.le_refl _) (by simp) ?_; (case hd => rfl); (case hg => rfl); (case hr => first | (go_simp; done) | (go_simp; rfl)); (case hp => exact (Reps.one (show Kd.M (Kd.int .i64) _ _ _ a0_1 [.int .i64 a0_1] from rfl) (Reps.one (show Kd.M (Kd.int .i64) _ _ _ a0_2 [.int .i64 a0_2] from rfl) (Reps.one (show Kd.M (Kd.int .i64) _ _ _ a0_3 [.int .i64 a0_3] from rfl) (Reps.none _ _))))); intro v295 w7 ho8 hb hg_ hnew_; clear hg_ hnew_; (first | rw [← Ny294.out] at ho8 | (simp only [Int.reduceToNat] at ho8; rw [← Ny294.out] at ho8)); have n0_ := Aside0.mk (Kd.R_lower ho8 (below_size (by repeat (first | (with_reducible first | exact HB.out | apply below_alloc | apply pw_below_drewN | apply below_drew1 | refine below_set ?_ GE293.out) | exact HB.out)))); have n1_ := Aside0.mk (blk_below (g := gb293) (o := .cells #[.int .i64 a0_0, .int .i64 a0_1, .int .i64 a0_2, .int .i64 a0_3, .int .i64 a0_4, .int .i64 a0_5, .int .i64 a0_6, .int .i64 a0_7, .int .i64 a0_8] 41 (0, 0)) (by (with_reducible repeat (first | refine blk_drewN ?_ _ | refine blk_drew ?_ | refine blk_alloc ?_ _)); exact BK293.out) hb); have n2_ := Aside0.mk (below_step (by repeat (first | (with_reducible first | exact HB.out | apply below_alloc | apply pw_below_drewN | apply below_drew1 | refine below_set ?_ GE293.out) | exact HB.out)) hb); clear BK293; clear HB; have HO296 := n0_; have BK293 := n1_; have HB := n2_; clear n0_ n1_ n2_; clear hb ho8; obtain ⟨Ao9, co9, eo9⟩ := Kd.R_slice HO296.out; subst eo9) | ((with_reducible refine gate_callee (f := 81) rfl ?_); refine goesL_ (some 14) rfl rfl Tryd.func81 (by kernel_rfl) rfl #[.slice Ao9 y294.length co9, .string (⟨#[32]⟩ : ByteArray)] rfl (by (try simp only [List.map_toArray, List.map_cons, List.map_nil]); first | done | rfl | (simp only [List.length_drop, List.length_take]; rfl)) ?_; (with_reducible refine (impl_decimals.calls k _ _ y294 (⟨#[32]⟩ : ByteArray) t297 _ ?side1 ?side2 ?side3 A3.out).mono ?_); (case side1 => repeat (first | exact (Kd.R_reads' HO296.out).2.2 | (with_reducible refine Kd.C_alloc ?_ _) | (with_reducible refine Kd.C_drewN ?_ _) | (with_reducible refine Kd.C_drew ?_))); (case side2 => exact (Kd.R_reads' HO296.out).2.1); (case side3 => first | exact HT.out | exact Tb.TB.below HT.out (by repeat (first | (with_reducible first | exact HB.out | apply below_alloc | apply pw_below_drewN | apply below_drew1 | refine below_set ?_ GE293.out) | exact HB.out))); rintro e w10 ⟨rfl, hb⟩; refine ⟨_, rfl, ?_⟩; have n0_ := Aside0.mk (Kd.R_below (by (with_reducible repeat (first | apply Kd.R_alloc | apply Kd.R_drewN | apply Kd.R_drew)); exact HO296.out) hb); have n1_ := Aside0.mk (blk_below (g := gb293) (o := .cells #[.int .i64 a0_0, .int .i64 a0_1, .int .i64 a0_2, .int .i64 a0_3, .int .i64 a0_4, .int .i64 a0_5, .int .i64 a0_6, .int .i64 a0_7, .int .i64 a0_8] 41 (0, 0)) (by (with_reducible repeat (first | refine blk_drewN ?_ _ | refine blk_drew ?_ | refine blk_alloc ?_ _)); exact BK293.out) hb); have n2_ := Aside0.mk (below_step (by repeat (first | (with_reducible first | exact HB.out | apply below_alloc | apply pw_below_drewN | apply below_drew1 | refine below_set ?_ GE293.out) | exact HB.out)) hb); clear HO296; clear BK293; clear HB; have HO296 := n0_; have BK293 := n1_; have HB := n2_; clear n0_ n1_ n2_; (try clear hb); (try clear hb2); (try clear hk); (try clear hi)))
      go_ret
      exact ⟨by first | rfl | (simp [errW_none, errW_some] <;> rfl) | (simp [*, errW_none, errW_some] <;> rfl), by repeat (first | (with_reducible first | exact HB.out | apply below_alloc | apply pw_below_drewN | apply below_drew1 | refine below_set ?_ GE293.out) | exact HB.out)⟩
    · rw [if_neg c4] at H
      exact absurd H (by simp)
  · rw [if_neg c2] at H
    have c2b0 : (a0_0 == 1) = false := beq_eq_false_iff_ne.mpr c2
    have c2b1 : (a0_0 != 1) = true := bne_iff_ne.mpr c2
    by_cases c11 : a0_0 = 2
    · rw [if_pos c11] at H
      have c11b0 : (a0_0 == 2) = true := beq_iff_eq.mpr c11
      have c11b1 : (a0_0 != 2) = false := bne_eq_false_iff_eq.mpr c11
      clear c11
      replace H := Option.bind_eq_some_iff.mp H
      obtain ⟨t298, A120, H⟩ := H
      replace H : (if 6 + t298.size ≤ 9223372036854775807 then (some ((⟨#[98, 117, 105, 108, 100, 32]⟩ : ByteArray) ++ t298)) else (none)) = some r := H
      have A12 := Aside0.mk A120
      clear A120
      by_cases c13 : 6 + t298.size ≤ 9223372036854775807
      · rw [if_pos c13] at H
        have c13b0 := eq_true c13
        have c13b1 : decide (6 + t298.size ≤ 9223372036854775807) = true := decide_eq_true c13
        try have c13b2 : (9223372036854775807 < 6 + t298.size) = False := eq_false (Nat.not_lt.2 c13)
        obtain rfl := Option.some.inj H
        go_enter Tryd.func47, Tryd.ntmps47
        go_wp2_with (first | ((with_reducible refine gate_dst (N := 1) rfl ?_); refine box_event ?hg (N := 1) ?hd (cs := #[.int .i64 a0_0, .int .i64 a0_1, .int .i64 a0_2, .int .i64 a0_3, .int .i64 a0_4, .int .i64 a0_5, .int .i64 a0_6, .int .i64 a0_7, .int .i64 a0_8]) (t := 41) ?hr ?_; (case hd => rfl); (case hg => rfl); (case hr => first | (go_simp; done) | (go_simp; rfl)); intro gb293 hg w14 hbox hb; have n0_ := Aside0.mk (below_step (by repeat (first | (with_reducible first | exact HB.out | apply below_alloc | apply pw_below_drewN | apply below_drew1) | exact HB.out)) hb); have n1_ := Aside0.mk (hbox); have n2_ := Aside0.mk ((by rw [hg]; exact (below_size (by repeat (first | (with_reducible first | exact HB.out | apply below_alloc | apply pw_below_drewN | apply below_drew1) | exact HB.out))) : w.heap.size ≤ gb293)); have n3_ := Aside0.mk ((by rw [hg]; exact (below_size (by repeat (first | (with_reducible first | exact HB.out | apply below_alloc | apply pw_below_drewN | apply below_drew1) | exact HB.out))) : w.heap.size ≤ gb293)); clear HB; have HB := n0_; have BK293 := n1_; have GW293 := n2_; have GE293 := n3_; clear n0_ n1_ n2_ n3_; clear hb hbox hg; have hcz15_0 : w14.cell? ⟨gb293, 0, none⟩ = some (.int .i64 a0_0) := (blk_cell BK293.out 0).trans rfl; have hcz15_1 : w14.cell? ⟨gb293, 1, none⟩ = some (.int .i64 a0_1) := (blk_cell BK293.out 1).trans rfl; have hcz15_2 : w14.cell? ⟨gb293, 2, none⟩ = some (.int .i64 a0_2) := (blk_cell BK293.out 2).trans rfl; have hcz15_3 : w14.cell? ⟨gb293, 3, none⟩ = some (.int .i64 a0_3) := (blk_cell BK293.out 3).trans rfl; have hcz15_4 : w14.cell? ⟨gb293, 4, none⟩ = some (.int .i64 a0_4) := (blk_cell BK293.out 4).trans rfl; have hcz15_5 : w14.cell? ⟨gb293, 5, none⟩ = some (.int .i64 a0_5) := (blk_cell BK293.out 5).trans rfl; have hcz15_6 : w14.cell? ⟨gb293, 6, none⟩ = some (.int .i64 a0_6) := (blk_cell BK293.out 6).trans rfl; have hcz15_7 : w14.cell? ⟨gb293, 7, none⟩ = some (.int .i64 a0_7) := (blk_cell BK293.out 7).trans rfl; have hcz15_8 : w14.cell? ⟨gb293, 8, none⟩ = some (.int .i64 a0_8) := (blk_cell BK293.out 8).trans rfl; have hfz15_0 := blk_frozen BK293.out 0; have hfz15_1 := blk_frozen BK293.out 1; have hfz15_2 := blk_frozen BK293.out 2; have hfz15_3 := blk_frozen BK293.out 3; have hfz15_4 := blk_frozen BK293.out 4; have hfz15_5 := blk_frozen BK293.out 5; have hfz15_6 := blk_frozen BK293.out 6; have hfz15_7 := blk_frozen BK293.out 7; have hfz15_8 := blk_frozen BK293.out 8) | ((with_reducible refine gate_callee (f := 82) rfl ?_); refine goesL_ (some 20) rfl rfl Tryd.func82 (by kernel_rfl) rfl #[.agg #[.int .i64 a0_4, .int .i64 a0_5]] rfl (by (try simp only [List.map_toArray, List.map_cons, List.map_nil]); first | done | rfl | (simp only [List.length_drop, List.length_take]; rfl)) ?_; (with_reducible refine (impl_ringText.calls a0_4 a0_5 t298 _ ?side1 A12.out).mono ?_); (case side1 => first | exact HT.out | exact Tb.TB.below HT.out (by repeat (first | (with_reducible first | exact HB.out | apply below_alloc | apply pw_below_drewN | apply below_drew1 | refine below_set ?_ GE293.out) | exact HB.out))); rintro e w16 ⟨rfl, hb⟩; refine ⟨_, rfl, ?_⟩; have n0_ := Aside0.mk (blk_below (g := gb293) (o := .cells #[.int .i64 a0_0, .int .i64 a0_1, .int .i64 a0_2, .int .i64 a0_3, .int .i64 a0_4, .int .i64 a0_5, .int .i64 a0_6, .int .i64 a0_7, .int .i64 a0_8] 41 (0, 0)) (by (with_reducible repeat (first | refine blk_drewN ?_ _ | refine blk_drew ?_ | refine blk_alloc ?_ _)); exact BK293.out) hb); have n1_ := Aside0.mk (below_step (by repeat (first | (with_reducible first | exact HB.out | apply below_alloc | apply pw_below_drewN | apply below_drew1 | refine below_set ?_ GE293.out) | exact HB.out)) hb); clear BK293; clear HB; have BK293 := n0_; have HB := n1_; clear n0_ n1_; (try clear hb); (try clear hb2); (try clear hk); (try clear hi)))
        go_ret
        exact ⟨by first | rfl | (simp [errW_none, errW_some] <;> rfl) | (simp [*, errW_none, errW_some] <;> rfl), by repeat (first | (with_reducible first | exact HB.out | apply below_alloc | apply pw_below_drewN | apply below_drew1 | refine below_set ?_ GE293.out) | exact HB.out)⟩
      · rw [if_neg c13] at H
        exact absurd H (by simp)
    · rw [if_neg c11] at H
      have c11b0 : (a0_0 == 2) = false := beq_eq_false_iff_ne.mpr c11
      have c11b1 : (a0_0 != 2) = true := bne_iff_ne.mpr c11
      obtain ⟨y299, hy299⟩ : ∃ y_ : List Int, y_ = (([a0_6, a0_7, a0_8] : List Int)) := ⟨_, rfl⟩
      replace H : ((impl_decimals.f k y299 (⟨#[32]⟩ : ByteArray)).bind fun t302 => (if 6 + t302.size ≤ 9223372036854775807 then (some ((⟨#[103, 114, 111, 117, 116, 32]⟩ : ByteArray) ++ t302)) else (none))) = some r := by first | (rw [hy299]; with_reducible exact H) | (have H2_ := (Option.bind_some _ _).symm.trans H; rw [hy299]; with_reducible exact H2_) | (have H2_ := (Option.bind_some _ _).symm.trans H; with_reducible exact H2_) | with_reducible exact H | (rw [hy299]; exact H) | exact H
      have Ny299 := Aside0.mk hy299
      clear hy299
      replace H := Option.bind_eq_some_iff.mp H
      obtain ⟨t302, A170, H⟩ := H
      replace H : (if 6 + t302.size ≤ 9223372036854775807 then (some ((⟨#[103, 114, 111, 117, 116, 32]⟩ : ByteArray) ++ t302)) else (none)) = some r := H
      have A17 := Aside0.mk A170
      clear A170
      by_cases c18 : 6 + t302.size ≤ 9223372036854775807
      · rw [if_pos c18] at H
        have c18b0 := eq_true c18
        have c18b1 : decide (6 + t302.size ≤ 9223372036854775807) = true := decide_eq_true c18
        try have c18b2 : (9223372036854775807 < 6 + t302.size) = False := eq_false (Nat.not_lt.2 c18)
        obtain rfl := Option.some.inj H
        go_enter Tryd.func47, Tryd.ntmps47
        go_wp2_with (first | ((with_reducible refine gate_dst (N := 1) rfl ?_); refine box_event ?hg (N := 1) ?hd (cs := #[.int .i64 a0_0, .int .i64 a0_1, .int .i64 a0_2, .int .i64 a0_3, .int .i64 a0_4, .int .i64 a0_5, .int .i64 a0_6, .int .i64 a0_7, .int .i64 a0_8]) (t := 41) ?hr ?_; (case hd => rfl); (case hg => rfl); (case hr => first | (go_simp; done) | (go_simp; rfl)); intro gb293 hg w19 hbox hb; have n0_ := Aside0.mk (below_step (by repeat (first | (with_reducible first | exact HB.out | apply below_alloc | apply pw_below_drewN | apply below_drew1) | exact HB.out)) hb); have n1_ := Aside0.mk (hbox); have n2_ := Aside0.mk ((by rw [hg]; exact (below_size (by repeat (first | (with_reducible first | exact HB.out | apply below_alloc | apply pw_below_drewN | apply below_drew1) | exact HB.out))) : w.heap.size ≤ gb293)); have n3_ := Aside0.mk ((by rw [hg]; exact (below_size (by repeat (first | (with_reducible first | exact HB.out | apply below_alloc | apply pw_below_drewN | apply below_drew1) | exact HB.out))) : w.heap.size ≤ gb293)); clear HB; have HB := n0_; have BK293 := n1_; have GW293 := n2_; have GE293 := n3_; clear n0_ n1_ n2_ n3_; clear hb hbox hg; have hcz20_0 : w19.cell? ⟨gb293, 0, none⟩ = some (.int .i64 a0_0) := (blk_cell BK293.out 0).trans rfl; have hcz20_1 : w19.cell? ⟨gb293, 1, none⟩ = some (.int .i64 a0_1) := (blk_cell BK293.out 1).trans rfl; have hcz20_2 : w19.cell? ⟨gb293, 2, none⟩ = some (.int .i64 a0_2) := (blk_cell BK293.out 2).trans rfl; have hcz20_3 : w19.cell? ⟨gb293, 3, none⟩ = some (.int .i64 a0_3) := (blk_cell BK293.out 3).trans rfl; have hcz20_4 : w19.cell? ⟨gb293, 4, none⟩ = some (.int .i64 a0_4) := (blk_cell BK293.out 4).trans rfl; have hcz20_5 : w19.cell? ⟨gb293, 5, none⟩ = some (.int .i64 a0_5) := (blk_cell BK293.out 5).trans rfl; have hcz20_6 : w19.cell? ⟨gb293, 6, none⟩ = some (.int .i64 a0_6) := (blk_cell BK293.out 6).trans rfl; have hcz20_7 : w19.cell? ⟨gb293, 7, none⟩ = some (.int .i64 a0_7) := (blk_cell BK293.out 7).trans rfl; have hcz20_8 : w19.cell? ⟨gb293, 8, none⟩ = some (.int .i64 a0_8) := (blk_cell BK293.out 8).trans rfl; have hfz20_0 := blk_frozen BK293.out 0; have hfz20_1 := blk_frozen BK293.out 1; have hfz20_2 := blk_frozen BK293.out 2; have hfz20_3 := blk_frozen BK293.out 3; have hfz20_4 := blk_frozen BK293.out 4; have hfz20_5 := blk_frozen BK293.out 5; have hfz20_6 := blk_frozen BK293.out 6; have hfz20_7 := blk_frozen BK293.out 7; have hfz20_8 := blk_frozen BK293.out 8) | ((with_reducible refine gate_dst (N := 28) rfl ?_); refine Kd.R_lit (Kd.int .i64) _ 2 ?hg (N := 28) ?hd (xs := ([a0_6, a0_7, a0_8] : List Int)) (inner := [.int .i64 a0_6, .int .i64 a0_7, .int .i64 a0_8]) (ok := fun _ => True) (okp := fun _ => True) ?hr ?hp (fun _ hk => hk) trivial (Below.refl _ _) (Nat.le_refl _) (by simp) ?_; (case hd => rfl); (case hg => rfl); (case hr => first | (go_simp; done) | (go_simp; rfl)); (case hp => exact (Reps.one (show Kd.M (Kd.int .i64) _ _ _ a0_6 [.int .i64 a0_6] from rfl) (Reps.one (show Kd.M (Kd.int .i64) _ _ _ a0_7 [.int .i64 a0_7] from rfl) (Reps.one (show Kd.M (Kd.int .i64) _ _ _ a0_8 [.int .i64 a0_8] from rfl) (Reps.none _ _))))); intro v300 w21 ho22 hb hg_ hnew_; clear hg_ hnew_; (first | rw [← Ny299.out] at ho22 | (simp only [Int.reduceToNat] at ho22; rw [← Ny299.out] at ho22)); have n0_ := Aside0.mk (Kd.R_lower ho22 (below_size (by repeat (first | (with_reducible first | exact HB.out | apply below_alloc | apply pw_below_drewN | apply below_drew1 | refine below_set ?_ GE293.out) | exact HB.out)))); have n1_ := Aside0.mk (blk_below (g := gb293) (o := .cells #[.int .i64 a0_0, .int .i64 a0_1, .int .i64 a0_2, .int .i64 a0_3, .int .i64 a0_4, .int .i64 a0_5, .int .i64 a0_6, .int .i64 a0_7, .int .i64 a0_8] 41 (0, 0)) (by (with_reducible repeat (first | refine blk_drewN ?_ _ | refine blk_drew ?_ | refine blk_alloc ?_ _)); exact BK293.out) hb); have n2_ := Aside0.mk (below_step (by repeat (first | (with_reducible first | exact HB.out | apply below_alloc | apply pw_below_drewN | apply below_drew1 | refine below_set ?_ GE293.out) | exact HB.out)) hb); clear BK293; clear HB; have HO301 := n0_; have BK293 := n1_; have HB := n2_; clear n0_ n1_ n2_; clear hb ho22; obtain ⟨Ao23, co23, eo23⟩ := Kd.R_slice HO301.out; subst eo23) | ((with_reducible refine gate_callee (f := 81) rfl ?_); refine goesL_ (some 29) rfl rfl Tryd.func81 (by kernel_rfl) rfl #[.slice Ao23 y299.length co23, .string (⟨#[32]⟩ : ByteArray)] rfl (by (try simp only [List.map_toArray, List.map_cons, List.map_nil]); first | done | rfl | (simp only [List.length_drop, List.length_take]; rfl)) ?_; (with_reducible refine (impl_decimals.calls k _ _ y299 (⟨#[32]⟩ : ByteArray) t302 _ ?side1 ?side2 ?side3 A17.out).mono ?_); (case side1 => repeat (first | exact (Kd.R_reads' HO301.out).2.2 | (with_reducible refine Kd.C_alloc ?_ _) | (with_reducible refine Kd.C_drewN ?_ _) | (with_reducible refine Kd.C_drew ?_))); (case side2 => exact (Kd.R_reads' HO301.out).2.1); (case side3 => first | exact HT.out | exact Tb.TB.below HT.out (by repeat (first | (with_reducible first | exact HB.out | apply below_alloc | apply pw_below_drewN | apply below_drew1 | refine below_set ?_ GE293.out) | exact HB.out))); rintro e w24 ⟨rfl, hb⟩; refine ⟨_, rfl, ?_⟩; have n0_ := Aside0.mk (Kd.R_below (by (with_reducible repeat (first | apply Kd.R_alloc | apply Kd.R_drewN | apply Kd.R_drew)); exact HO301.out) hb); have n1_ := Aside0.mk (blk_below (g := gb293) (o := .cells #[.int .i64 a0_0, .int .i64 a0_1, .int .i64 a0_2, .int .i64 a0_3, .int .i64 a0_4, .int .i64 a0_5, .int .i64 a0_6, .int .i64 a0_7, .int .i64 a0_8] 41 (0, 0)) (by (with_reducible repeat (first | refine blk_drewN ?_ _ | refine blk_drew ?_ | refine blk_alloc ?_ _)); exact BK293.out) hb); have n2_ := Aside0.mk (below_step (by repeat (first | (with_reducible first | exact HB.out | apply below_alloc | apply pw_below_drewN | apply below_drew1 | refine below_set ?_ GE293.out) | exact HB.out)) hb); clear HO301; clear BK293; clear HB; have HO301 := n0_; have BK293 := n1_; have HB := n2_; clear n0_ n1_ n2_; (try clear hb); (try clear hb2); (try clear hk); (try clear hi)))
        go_ret
        exact ⟨by first | rfl | (simp [errW_none, errW_some] <;> rfl) | (simp [*, errW_none, errW_some] <;> rfl), by repeat (first | (with_reducible first | exact HB.out | apply below_alloc | apply pw_below_drewN | apply below_drew1 | refine below_set ?_ GE293.out) | exact HB.out)⟩
      · rw [if_neg c18] at H
        exact absurd H (by simp)

end Go.Proofs.YtkbklocfdoofeaaDoor.Q

-- made by a patched copy of print.sh: this session's own
namespace Go.Proofs.YtkbklocfdoofeaaDoor.Q
open Go.RowKit Go.Proofs.YtkbklocfdoofeaaDoorW.PrintWords Go.Proofs.YtkbklocfdoofeaaDoorW.PrintLast Go.Proofs.YtkbklocfdoofeaaDoorW.PrintMore
attribute [local go_sem] max2_int min2_int max_two min_two max_three min_three max_four min_four   -- for this text's walks alone
set_option linter.unusedVariables false
set_option linter.unusedSimpArgs false

theorem eqA41 (d : Nat) (w : World) (x0 y0 : Int) (x1 y1 : Int) (x2 y2 : Int) (x3 y3 : Int) (x4 y4 : Int) (x5 y5 : Int) (x6 y6 : Int) (x7 y7 : Int) (x8 y8 : Int) :
    (Op.equalIn (d + 3) 41 (.agg #[.int .i64 x0, .int .i64 x1, .int .i64 x2, .int .i64 x3, .int .i64 x4, .int .i64 x5, .int .i64 x6, .int .i64 x7, .int .i64 x8]) (.agg #[.int .i64 y0, .int .i64 y1, .int .i64 y2, .int .i64 y3, .int .i64 y4, .int .i64 y5, .int .i64 y6, .int .i64 y7, .int .i64 y8])).run Tryd.prog w = .ok (x0 == y0 && (x1 == y1 && (x2 == y2 && (x3 == y3 && ((x4 == y4 && (x5 == y5)) && (x6 == y6 && (x7 == y7 && (x8 == y8)))))))) w := by
  refine eqA_of Tryd.underlying41 (by kernel_rfl) ?_
  refine eqf_cons (by rfl) (by go_simp; rfl) (by go_simp; rfl) (by go_simp) ?_
  refine eqf_cons (by rfl) (by go_simp; rfl) (by go_simp; rfl) (by go_simp) ?_
  refine eqf_cons (by rfl) (by go_simp; rfl) (by go_simp; rfl) (by go_simp) ?_
  refine eqf_cons (by rfl) (by go_simp; rfl) (by go_simp; rfl) (by go_simp) ?_
  refine eqf_cons (by rfl) (by go_simp) (by go_simp) (eqA39 (d + 0) w _ _ _ _) ?_
  refine eqf_cons (by rfl) (by go_simp; rfl) (by go_simp; rfl) (by go_simp) ?_
  refine eqf_cons (by rfl) (by go_simp; rfl) (by go_simp; rfl) (by go_simp) ?_
  exact eqf_last (by rfl) (by go_simp; rfl) (by go_simp; rfl) (by go_simp)
end Go.Proofs.YtkbklocfdoofeaaDoor.Q

-- made by a patched copy of print.sh: this session's own
namespace Go.Proofs.YtkbklocfdoofeaaDoor.Q
open Go.RowKit Go.Proofs.YtkbklocfdoofeaaDoorW.PrintWords Go.Proofs.YtkbklocfdoofeaaDoorW.PrintLast Go.Proofs.YtkbklocfdoofeaaDoorW.PrintMore
attribute [local go_sem] max2_int min2_int max_two min_two max_three min_three max_four min_four   -- for this text's walks alone
set_option linter.unusedVariables false
set_option linter.unusedSimpArgs false

/-! ### impl_areWithin: function 69 -/
def impl_areWithin.f (l0 : List Int) (a1 : Int) (a2 : Int) : Option (Bool) := some (Ha.areIn l0 a1 a2)
theorem impl_areWithin.calls (A0 : Option Addr) (c0 : Nat) (l0 : List Int) (a1 : Int) (a2 : Int) (r : Bool) (w : World) (hr0 : Kd.C (Kd.int .i64) w A0 l0.length l0) (hc0 : l0.length ≤ c0) (h : impl_areWithin.f l0 a1 a2 = some r) :
    Calls Tryd.prog 69 #[.slice A0 l0.length c0, .int .i64 a1, .int .i64 a2] w fun e w' => e = .returned (.bool r) ∧ Below w.heap.size w w' := by
  obtain rfl := Option.some.inj h
  exact Ha.areWithin_any A0 c0 l0 a1 a2 w hr0

end Go.Proofs.YtkbklocfdoofeaaDoor.Q

-- made by a patched copy of print.sh: this session's own
namespace Go.Proofs.YtkbklocfdoofeaaDoor.Q
open Go.RowKit Go.Proofs.YtkbklocfdoofeaaDoorW.PrintWords Go.Proofs.YtkbklocfdoofeaaDoorW.PrintLast Go.Proofs.YtkbklocfdoofeaaDoorW.PrintMore
attribute [local go_sem] max2_int min2_int max_two min_two max_three min_three max_four min_four   -- for this text's walks alone
set_option linter.unusedVariables false
set_option linter.unusedSimpArgs false

/-! ### impl_within: function 70 -/
def impl_within.f (a0 : Int) (a1 : Int) (a2 : Int) : Option (Bool) := if a1 ≤ a0 then (some (decide (a0 ≤ a2))) else (some false)
set_option maxHeartbeats 8000000 in
set_option maxRecDepth 100000 in
theorem impl_within.calls (a0 : Int) (a1 : Int) (a2 : Int) (r : Bool) (w : World) (h : impl_within.f a0 a1 a2 = some r) :
    Calls Tryd.prog 70 #[.int .i64 a0, .int .i64 a1, .int .i64 a2] w fun e w' => e = .returned (.bool r) ∧ Drawn0 w w' := by
  have H : (if a1 ≤ a0 then (some (decide (a0 ≤ a2))) else (some false)) = some r := h
  clear h
  by_cases c4 : a1 ≤ a0
  · rw [if_pos c4] at H
    have c4b0 : decide (a1 ≤ a0) = true := decide_eq_true c4
    clear c4
    obtain rfl := Option.some.inj H
    go_enter Tryd.func70, Tryd.ntmps70
    go_wp2
    go_ret
    exact ⟨by first | rfl | (simp; done) | (simp [*]; done), by repeat (first | exact Drawn0.refl _ | apply Drawn0.step)⟩
  · rw [if_neg c4] at H
    have c4b0 : decide (a1 ≤ a0) = false := decide_eq_false c4
    clear c4
    obtain rfl := Option.some.inj H
    go_enter Tryd.func70, Tryd.ntmps70
    go_wp2
    go_ret
    exact ⟨by first | rfl | (simp; done) | (simp [*]; done), by repeat (first | exact Drawn0.refl _ | apply Drawn0.step)⟩

end Go.Proofs.YtkbklocfdoofeaaDoor.Q

-- made by a patched copy of print.sh: this session's own
namespace Go.Proofs.YtkbklocfdoofeaaDoor.Q
open Go.RowKit Go.Proofs.YtkbklocfdoofeaaDoorW.PrintWords Go.Proofs.YtkbklocfdoofeaaDoorW.PrintLast Go.Proofs.YtkbklocfdoofeaaDoorW.PrintMore
attribute [local go_sem] max2_int min2_int max_two min_two max_three min_three max_four min_four   -- for this text's walks alone
set_option linter.unusedVariables false
set_option linter.unusedSimpArgs false

/-! ### impl_isTurn: function 79 -/
def impl_isTurn.f (a0 : Int) (a1 : Int) : Option (Bool) := (impl_areWithin.f (([a0, a1] : List Int)) (-12) 12).bind fun t269 => (some t269)
set_option maxHeartbeats 8000000 in
set_option maxRecDepth 100000 in
theorem impl_isTurn.calls (a0 : Int) (a1 : Int) (r : Bool) (w : World) (h : impl_isTurn.f a0 a1 = some r) :
    Calls Tryd.prog 79 #[.int .i64 a0, .int .i64 a1] w fun e w' => e = .returned (.bool r) ∧ Below w.heap.size w w' := by
  have HB := Aside0.mk (Below.refl w.heap.size w)
  have H : ((impl_areWithin.f (([a0, a1] : List Int)) (-12) 12).bind fun t269 => (some t269)) = some r := h
  clear h
  obtain ⟨y266, hy266⟩ : ∃ y_ : List Int, y_ = (([a0, a1] : List Int)) := ⟨_, rfl⟩
  replace H : ((impl_areWithin.f y266 (-12) 12).bind fun t269 => (some t269)) = some r := by first | (rw [hy266]; with_reducible exact H) | (have H2_ := (Option.bind_some _ _).symm.trans H; rw [hy266]; with_reducible exact H2_) | (have H2_ := (Option.bind_some _ _).symm.trans H; with_reducible exact H2_) | with_reducible exact H | (rw [hy266]; exact H) | exact H
  have Ny266 := Aside0.mk hy266
  clear hy266
  replace H := Option.bind_eq_some_iff.mp H
  obtain ⟨t269, A30, H⟩ := H
  replace H : (some t269) = some r := H
  have A3 := Aside0.mk A30
  clear A30
  obtain rfl := Option.some.inj H
  go_enter Tryd.func79, Tryd.ntmps79
  go_wp2_with (first | ((with_reducible refine gate_dst (N := 7) rfl ?_); refine Kd.R_lit (Kd.int .i64) _ 2 ?hg (N := 7) ?hd (xs := ([a0, a1] : List Int)) (inner := [.int .i64 a0, .int .i64 a1]) (ok := fun _ => True) (okp := fun _ => True) ?hr ?hp (fun _ hk => hk) trivial (Below.refl _ _) (Nat.le_refl _) (by simp) ?_; (case hd => rfl); (case hg => rfl); (case hr => first | (go_simp; done) | (go_simp; rfl)); (case hp => exact (Reps.one (show Kd.M (Kd.int .i64) _ _ _ a0 [.int .i64 a0] from rfl) (Reps.one (show Kd.M (Kd.int .i64) _ _ _ a1 [.int .i64 a1] from rfl) (Reps.none _ _)))); intro v267 w4 ho5 hb hg_ hnew_; clear hg_ hnew_; (first | rw [← Ny266.out] at ho5 | (simp only [Int.reduceToNat] at ho5; rw [← Ny266.out] at ho5)); have n0_ := Aside0.mk (Kd.R_lower ho5 (below_size (by repeat (first | (with_reducible first | exact HB.out | apply below_alloc | apply pw_below_drewN | apply below_drew1) | exact HB.out)))); have n1_ := Aside0.mk (below_step (by repeat (first | (with_reducible first | exact HB.out | apply below_alloc | apply pw_below_drewN | apply below_drew1) | exact HB.out)) hb); clear HB; have HO268 := n0_; have HB := n1_; clear n0_ n1_; clear hb ho5; obtain ⟨Ao6, co6, eo6⟩ := Kd.R_slice HO268.out; subst eo6) | ((with_reducible refine gate_callee (f := 69) rfl ?_); refine goesL_ (some 8) rfl rfl Tryd.func69 (by kernel_rfl) rfl #[.slice Ao6 y266.length co6, .int .i64 (-12), .int .i64 12] rfl (by (try simp only [List.map_toArray, List.map_cons, List.map_nil]); first | done | rfl | (simp only [List.length_drop, List.length_take]; rfl)) ?_; (with_reducible refine (impl_areWithin.calls _ _ y266 (-12) 12 t269 _ ?side1 ?side2 A3.out).mono ?_); (case side1 => repeat (first | exact (Kd.R_reads' HO268.out).2.2 | (with_reducible refine Kd.C_alloc ?_ _) | (with_reducible refine Kd.C_drewN ?_ _) | (with_reducible refine Kd.C_drew ?_))); (case side2 => exact (Kd.R_reads' HO268.out).2.1); rintro e w7 ⟨rfl, hb⟩; refine ⟨_, rfl, ?_⟩; have n0_ := Aside0.mk (Kd.R_below (by (with_reducible repeat (first | apply Kd.R_alloc | apply Kd.R_drewN | apply Kd.R_drew)); exact HO268.out) hb); have n1_ := Aside0.mk (below_step (by repeat (first | (with_reducible first | exact HB.out | apply below_alloc | apply pw_below_drewN | apply below_drew1) | exact HB.out)) hb); clear HO268; clear HB; have HO268 := n0_; have HB := n1_; clear n0_ n1_; (try clear hb); (try clear hb2); (try clear hk); (try clear hi)))
  go_ret
  exact ⟨by first | rfl | (simp [errW_none, errW_some] <;> rfl) | (simp [*, errW_none, errW_some] <;> rfl), by repeat (first | (with_reducible first | exact HB.out | apply below_alloc | apply pw_below_drewN | apply below_drew1) | exact HB.out)⟩

end Go.Proofs.YtkbklocfdoofeaaDoor.Q

-- made by a patched copy of print.sh: this session's own
namespace Go.Proofs.YtkbklocfdoofeaaDoor.Q
open Go.RowKit Go.Proofs.YtkbklocfdoofeaaDoorW.PrintWords Go.Proofs.YtkbklocfdoofeaaDoorW.PrintLast Go.Proofs.YtkbklocfdoofeaaDoorW.PrintMore
attribute [local go_sem] max2_int min2_int max_two min_two max_three min_three max_four min_four   -- for this text's walks alone
set_option linter.unusedVariables false
set_option linter.unusedSimpArgs false

/-! ### impl_ValidRing: function 80 -/
def impl_ValidRing.f (a0_0 : Int) (a0_1 : Int) : Option (Bool) := (impl_within.f a0_0 0 1).bind fun t271 => (if t271 = true then ((impl_within.f a0_1 0 15).bind fun t272 => (some t272)) else (some false))
set_option maxHeartbeats 8000000 in
set_option maxRecDepth 100000 in
theorem impl_ValidRing.calls (a0_0 : Int) (a0_1 : Int) (r : Bool) (w : World) (h : impl_ValidRing.f a0_0 a0_1 = some r) :
    Calls Tryd.prog 80 #[.agg #[.int .i64 a0_0, .int .i64 a0_1]] w fun e w' => e = .returned (.bool r) ∧ Below w.heap.size w w' := by
  have hu39 := Tryd.underlying39
  have HB := Aside0.mk (Below.refl w.heap.size w)
  have H : ((impl_within.f a0_0 0 1).bind fun t271 => (if t271 = true then ((impl_within.f a0_1 0 15).bind fun t272 => (some t272)) else (some false))) = some r := h
  clear h
  replace H := Option.bind_eq_some_iff.mp H
  obtain ⟨t271, A20, H⟩ := H
  replace H : (if t271 = true then ((impl_within.f a0_1 0 15).bind fun t272 => (some t272)) else (some false)) = some r := H
  have A2 := Aside0.mk A20
  clear A20
  by_cases c3 : t271 = true
  · subst c3
    have H1 : ((impl_within.f a0_1 0 15).bind fun t272 => (some t272)) = some r := by rw [if_pos rfl] at H; exact H
    clear H
    have H := H1
    clear H1
    replace H := Option.bind_eq_some_iff.mp H
    obtain ⟨t272, A40, H⟩ := H
    replace H : (some t272) = some r := H
    have A4 := Aside0.mk A40
    clear A40
    obtain rfl := Option.some.inj H
    go_enter Tryd.func80, Tryd.ntmps80
    go_wp2_with (first | ((with_reducible refine gate_dst (N := 1) rfl ?_); refine box_event ?hg (N := 1) ?hd (cs := #[.int .i64 a0_0, .int .i64 a0_1]) (t := 39) ?hr ?_; (case hd => rfl); (case hg => rfl); (case hr => first | (go_simp; done) | (go_simp; rfl)); intro gb270 hg w5 hbox hb; have n0_ := Aside0.mk (below_step (by repeat (first | (with_reducible first | exact HB.out | apply below_alloc | apply pw_below_drewN | apply below_drew1) | exact HB.out)) hb); have n1_ := Aside0.mk (hbox); have n2_ := Aside0.mk ((by rw [hg]; exact (below_size (by repeat (first | (with_reducible first | exact HB.out | apply below_alloc | apply pw_below_drewN | apply below_drew1) | exact HB.out))) : w.heap.size ≤ gb270)); have n3_ := Aside0.mk ((by rw [hg]; exact (below_size (by repeat (first | (with_reducible first | exact HB.out | apply below_alloc | apply pw_below_drewN | apply below_drew1) | exact HB.out))) : w.heap.size ≤ gb270)); clear HB; have HB := n0_; have BK270 := n1_; have GW270 := n2_; have GE270 := n3_; clear n0_ n1_ n2_ n3_; clear hb hbox hg; have hcz6_0 : w5.cell? ⟨gb270, 0, none⟩ = some (.int .i64 a0_0) := (blk_cell BK270.out 0).trans rfl; have hcz6_1 : w5.cell? ⟨gb270, 1, none⟩ = some (.int .i64 a0_1) := (blk_cell BK270.out 1).trans rfl; have hfz6_0 := blk_frozen BK270.out 0; have hfz6_1 := blk_frozen BK270.out 1) | ((with_reducible refine gate_callee (f := 70) rfl ?_); refine goesL_ (some 5) rfl rfl Tryd.func70 (by kernel_rfl) rfl #[.int .i64 a0_0, .int .i64 0, .int .i64 1] rfl (by (try simp only [List.map_toArray, List.map_cons, List.map_nil]); first | done | rfl | (simp only [List.length_drop, List.length_take]; rfl)) ?_; (with_reducible refine (impl_within.calls a0_0 0 1 true _ A2.out).mono ?_); rintro e w' ⟨rfl, ⟨nd, rfl⟩⟩; refine ⟨_, rfl, ?_⟩) | (go_at_call 70; (with_reducible refine (impl_within.calls a0_1 0 15 t272 _ A4.out).mono ?_); rintro e w' ⟨rfl, ⟨nd, rfl⟩⟩))
    go_ret
    exact ⟨by first | rfl | (simp [errW_none, errW_some] <;> rfl) | (simp [*, errW_none, errW_some] <;> rfl), by repeat (first | (with_reducible first | exact HB.out | apply below_alloc | apply pw_below_drewN | apply below_drew1 | refine below_set ?_ GE270.out) | exact HB.out)⟩
  · replace c3 := Bool.eq_false_iff.mpr c3
    subst c3
    have H1 : (some false) = some r := by rw [if_neg (show ¬ (false = true) by decide)] at H; exact H
    clear H
    have H := H1
    clear H1
    obtain rfl := Option.some.inj H
    go_enter Tryd.func80, Tryd.ntmps80
    go_wp2_with (first | ((with_reducible refine gate_dst (N := 1) rfl ?_); refine box_event ?hg (N := 1) ?hd (cs := #[.int .i64 a0_0, .int .i64 a0_1]) (t := 39) ?hr ?_; (case hd => rfl); (case hg => rfl); (case hr => first | (go_simp; done) | (go_simp; rfl)); intro gb270 hg w7 hbox hb; have n0_ := Aside0.mk (below_step (by repeat (first | (with_reducible first | exact HB.out | apply below_alloc | apply pw_below_drewN | apply below_drew1) | exact HB.out)) hb); have n1_ := Aside0.mk (hbox); have n2_ := Aside0.mk ((by rw [hg]; exact (below_size (by repeat (first | (with_reducible first | exact HB.out | apply below_alloc | apply pw_below_drewN | apply below_drew1) | exact HB.out))) : w.heap.size ≤ gb270)); have n3_ := Aside0.mk ((by rw [hg]; exact (below_size (by repeat (first | (with_reducible first | exact HB.out | apply below_alloc | apply pw_below_drewN | apply below_drew1) | exact HB.out))) : w.heap.size ≤ gb270)); clear HB; have HB := n0_; have BK270 := n1_; have GW270 := n2_; have GE270 := n3_; clear n0_ n1_ n2_ n3_; clear hb hbox hg; have hcz8_0 : w7.cell? ⟨gb270, 0, none⟩ = some (.int .i64 a0_0) := (blk_cell BK270.out 0).trans rfl; have hcz8_1 : w7.cell? ⟨gb270, 1, none⟩ = some (.int .i64 a0_1) := (blk_cell BK270.out 1).trans rfl; have hfz8_0 := blk_frozen BK270.out 0; have hfz8_1 := blk_frozen BK270.out 1) | ((with_reducible refine gate_callee (f := 70) rfl ?_); refine goesL_ (some 5) rfl rfl Tryd.func70 (by kernel_rfl) rfl #[.int .i64 a0_0, .int .i64 0, .int .i64 1] rfl (by (try simp only [List.map_toArray, List.map_cons, List.map_nil]); first | done | rfl | (simp only [List.length_drop, List.length_take]; rfl)) ?_; (with_reducible refine (impl_within.calls a0_0 0 1 false _ A2.out).mono ?_); rintro e w' ⟨rfl, ⟨nd, rfl⟩⟩; refine ⟨_, rfl, ?_⟩))
    go_ret
    exact ⟨by first | rfl | (simp [errW_none, errW_some] <;> rfl) | (simp [*, errW_none, errW_some] <;> rfl), by repeat (first | (with_reducible first | exact HB.out | apply below_alloc | apply pw_below_drewN | apply below_drew1 | refine below_set ?_ GE270.out) | exact HB.out)⟩

end Go.Proofs.YtkbklocfdoofeaaDoor.Q

-- made by a patched copy of print.sh: this session's own
namespace Go.Proofs.YtkbklocfdoofeaaDoor.Q
open Go.RowKit Go.Proofs.YtkbklocfdoofeaaDoorW.PrintWords Go.Proofs.YtkbklocfdoofeaaDoorW.PrintLast Go.Proofs.YtkbklocfdoofeaaDoorW.PrintMore
attribute [local go_sem] max2_int min2_int max_two min_two max_three min_three max_four min_four   -- for this text's walks alone
set_option linter.unusedVariables false
set_option linter.unusedSimpArgs false

attribute [local go_sem high] eqA41
/-! ### impl_ValidDeed: function 46 -/
def impl_ValidDeed.f (a0_0 : Int) (a0_1 : Int) (a0_2 : Int) (a0_3 : Int) (a0_4 : Int) (a0_5 : Int) (a0_6 : Int) (a0_7 : Int) (a0_8 : Int) : Option (Bool) := if a0_0 = 1 then (if (a0_0 == 1 && ((a0_4 == 0 && (a0_5 == 0)) && (a0_6 == 0 && (a0_7 == 0 && (a0_8 == 0))))) = true then ((impl_isTurn.f a0_1 a0_2).bind fun t274 => (if t274 = true then ((impl_within.f a0_3 0 1000000).bind fun t275 => (some t275)) else (some false))) else (some false)) else (if a0_0 = 2 then (if (a0_0 == 2 && (a0_1 == 0 && (a0_2 == 0 && (a0_3 == 0 && (a0_6 == 0 && (a0_7 == 0 && (a0_8 == 0))))))) = true then ((impl_ValidRing.f a0_4 a0_5).bind fun t276 => (some t276)) else (some false)) else (if a0_0 = 3 then (if (a0_0 == 3 && (a0_1 == 0 && (a0_2 == 0 && (a0_3 == 0 && ((a0_4 == 0 && (a0_5 == 0))))))) = true then ((impl_areWithin.f (([a0_6, a0_7] : List Int)) 0 100000).bind fun t280 => (if t280 = true then ((impl_within.f a0_8 0 100).bind fun t281 => (some t281)) else (some false))) else (some false)) else (some false)))
set_option maxHeartbeats 8000000 in
set_option maxRecDepth 100000 in
theorem impl_ValidDeed.calls (a0_0 : Int) (a0_1 : Int) (a0_2 : Int) (a0_3 : Int) (a0_4 : Int) (a0_5 : Int) (a0_6 : Int) (a0_7 : Int) (a0_8 : Int) (r : Bool) (w : World) (h : impl_ValidDeed.f a0_0 a0_1 a0_2 a0_3 a0_4 a0_5 a0_6 a0_7 a0_8 = some r) :
    Calls Tryd.prog 46 #[.agg #[.int .i64 a0_0, .int .i64 a0_1, .int .i64 a0_2, .int .i64 a0_3, .int .i64 a0_4, .int .i64 a0_5, .int .i64 a0_6, .int .i64 a0_7, .int .i64 a0_8]] w fun e w' => e = .returned (.bool r) ∧ Below w.heap.size w w' := by
  have hu41 := Tryd.underlying41
  have hu39 := Tryd.underlying39
  have HB := Aside0.mk (Below.refl w.heap.size w)
  have H : (if a0_0 = 1 then (if (a0_0 == 1 && ((a0_4 == 0 && (a0_5 == 0)) && (a0_6 == 0 && (a0_7 == 0 && (a0_8 == 0))))) = true then ((impl_isTurn.f a0_1 a0_2).bind fun t274 => (if t274 = true then ((impl_within.f a0_3 0 1000000).bind fun t275 => (some t275)) else (some false))) else (some false)) else (if a0_0 = 2 then (if (a0_0 == 2 && (a0_1 == 0 && (a0_2 == 0 && (a0_3 == 0 && (a0_6 == 0 && (a0_7 == 0 && (a0_8 == 0))))))) = true then ((impl_ValidRing.f a0_4 a0_5).bind fun t276 => (some t276)) else (some false)) else (if a0_0 = 3 then (if (a0_0 == 3 && (a0_1 == 0 && (a0_2 == 0 && (a0_3 == 0 && ((a0_4 == 0 && (a0_5 == 0))))))) = true then ((impl_areWithin.f (([a0_6, a0_7] : List Int)) 0 100000).bind fun t280 => (if t280 = true then ((impl_within.f a0_8 0 100).bind fun t281 => (some t281)) else (some false))) else (some false)) else (some false)))) = some r := h
  clear h
  by_cases c2 : a0_0 = 1
  · rw [if_pos c2] at H
    have c2b0 : (a0_0 == 1) = true := beq_iff_eq.mpr c2
    have c2b1 : (a0_0 != 1) = false := bne_eq_false_iff_eq.mpr c2
    clear c2
    by_cases c3 : (a0_0 == 1 && ((a0_4 == 0 && (a0_5 == 0)) && (a0_6 == 0 && (a0_7 == 0 && (a0_8 == 0))))) = true
    · rw [if_pos c3] at H
      have c3b0 : (a0_0 == 1 && ((a0_4 == 0 && (a0_5 == 0)) && (a0_6 == 0 && (a0_7 == 0 && (a0_8 == 0))))) = true := c3
      have c3x : ((a0_4 == 0 && (a0_5 == 0)) && (a0_6 == 0 && (a0_7 == 0 && (a0_8 == 0)))) = true := by have h_ := c3b0; rw [c2b0, Bool.true_and] at h_; exact h_
      (try (have c3b1 : decide (a0_0 = 1 && ((a0_4 == 0 && (a0_5 == 0)) && (a0_6 == 0 && (a0_7 == 0 && (a0_8 == 0))))) = true := by simpa using c3))
      (try (have c3b2 : (a0_0 == 1 && ((a0_4 == 0 && (a0_5 == 0)) && (a0_6 == 0 && (a0_7 == 0 && (a0_8 == 0))))) = true := by simpa using c3))
      clear c3
      replace H := Option.bind_eq_some_iff.mp H
      obtain ⟨t274, A40, H⟩ := H
      replace H : (if t274 = true then ((impl_within.f a0_3 0 1000000).bind fun t275 => (some t275)) else (some false)) = some r := H
      have A4 := Aside0.mk A40
      clear A40
      by_cases c5 : t274 = true
      · subst c5
        have H1 : ((impl_within.f a0_3 0 1000000).bind fun t275 => (some t275)) = some r := by rw [if_pos rfl] at H; exact H
        clear H
        have H := H1
        clear H1
        replace H := Option.bind_eq_some_iff.mp H
        obtain ⟨t275, A60, H⟩ := H
        replace H : (some t275) = some r := H
        have A6 := Aside0.mk A60
        clear A60
        obtain rfl := Option.some.inj H
        go_enter Tryd.func46, Tryd.ntmps46
        go_wp2_with (first | ((with_reducible refine gate_dst (N := 1) rfl ?_); (try (refine gate_guard (by rfl) ?_; dsimp only)); refine box_event ?hg (N := 1) ?hd (cs := #[.int .i64 a0_0, .int .i64 a0_1, .int .i64 a0_2, .int .i64 a0_3, .int .i64 a0_4, .int .i64 a0_5, .int .i64 a0_6, .int .i64 a0_7, .int .i64 a0_8]) (t := 41) ?hr ?_; (case hd => rfl); (case hg => rfl); (case hr => first | (go_simp; done) | (go_simp; rfl)); intro gb273 hg w7 hbox hb; have n0_ := Aside0.mk (below_step (by repeat (first | (with_reducible first | exact HB.out | apply below_alloc | apply pw_below_drewN | apply below_drew1) | exact HB.out)) hb); have n1_ := Aside0.mk (hbox); have n2_ := Aside0.mk ((by rw [hg]; exact (below_size (by repeat (first | (with_reducible first | exact HB.out | apply below_alloc | apply pw_below_drewN | apply below_drew1) | exact HB.out))) : w.heap.size ≤ gb273)); have n3_ := Aside0.mk ((by rw [hg]; exact (below_size (by repeat (first | (with_reducible first | exact HB.out | apply below_alloc | apply pw_below_drewN | apply below_drew1) | exact HB.out))) : w.heap.size ≤ gb273)); clear HB; have HB := n0_; have BK273 := n1_; have GW273 := n2_; have GE273 := n3_; clear n0_ n1_ n2_ n3_; clear hb hbox hg; have hcz8_0 : w7.cell? ⟨gb273, 0, none⟩ = some (.int .i64 a0_0) := (blk_cell BK273.out 0).trans rfl; have hcz8_1 : w7.cell? ⟨gb273, 1, none⟩ = some (.int .i64 a0_1) := (blk_cell BK273.out 1).trans rfl; have hcz8_2 : w7.cell? ⟨gb273, 2, none⟩ = some (.int .i64 a0_2) := (blk_cell BK273.out 2).trans rfl; have hcz8_3 : w7.cell? ⟨gb273, 3, none⟩ = some (.int .i64 a0_3) := (blk_cell BK273.out 3).trans rfl; have hcz8_4 : w7.cell? ⟨gb273, 4, none⟩ = some (.int .i64 a0_4) := (blk_cell BK273.out 4).trans rfl; have hcz8_5 : w7.cell? ⟨gb273, 5, none⟩ = some (.int .i64 a0_5) := (blk_cell BK273.out 5).trans rfl; have hcz8_6 : w7.cell? ⟨gb273, 6, none⟩ = some (.int .i64 a0_6) := (blk_cell BK273.out 6).trans rfl; have hcz8_7 : w7.cell? ⟨gb273, 7, none⟩ = some (.int .i64 a0_7) := (blk_cell BK273.out 7).trans rfl; have hcz8_8 : w7.cell? ⟨gb273, 8, none⟩ = some (.int .i64 a0_8) := (blk_cell BK273.out 8).trans rfl; have hfz8_0 := blk_frozen BK273.out 0; have hfz8_1 := blk_frozen BK273.out 1; have hfz8_2 := blk_frozen BK273.out 2; have hfz8_3 := blk_frozen BK273.out 3; have hfz8_4 := blk_frozen BK273.out 4; have hfz8_5 := blk_frozen BK273.out 5; have hfz8_6 := blk_frozen BK273.out 6; have hfz8_7 := blk_frozen BK273.out 7; have hfz8_8 := blk_frozen BK273.out 8) | (go_at_call 79; (with_reducible refine (impl_isTurn.calls a0_1 a0_2 true _ A4.out).mono ?_); rintro e w9 ⟨rfl, hb⟩; have n0_ := Aside0.mk (blk_below (g := gb273) (o := .cells #[.int .i64 a0_0, .int .i64 a0_1, .int .i64 a0_2, .int .i64 a0_3, .int .i64 a0_4, .int .i64 a0_5, .int .i64 a0_6, .int .i64 a0_7, .int .i64 a0_8] 41 (0, 0)) (by (with_reducible repeat (first | refine blk_drewN ?_ _ | refine blk_drew ?_ | refine blk_alloc ?_ _)); exact BK273.out) hb); have n1_ := Aside0.mk (below_step (by repeat (first | (with_reducible first | exact HB.out | apply below_alloc | apply pw_below_drewN | apply below_drew1 | refine below_set ?_ GE273.out) | exact HB.out)) hb); clear BK273; clear HB; have BK273 := n0_; have HB := n1_; clear n0_ n1_; (try clear hb); (try clear hb2); (try clear hk); (try clear hi); have hcz10_0 : w9.cell? ⟨gb273, 0, none⟩ = some (.int .i64 a0_0) := (blk_cell BK273.out 0).trans rfl; have hcz10_1 : w9.cell? ⟨gb273, 1, none⟩ = some (.int .i64 a0_1) := (blk_cell BK273.out 1).trans rfl; have hcz10_2 : w9.cell? ⟨gb273, 2, none⟩ = some (.int .i64 a0_2) := (blk_cell BK273.out 2).trans rfl; have hcz10_3 : w9.cell? ⟨gb273, 3, none⟩ = some (.int .i64 a0_3) := (blk_cell BK273.out 3).trans rfl; have hcz10_4 : w9.cell? ⟨gb273, 4, none⟩ = some (.int .i64 a0_4) := (blk_cell BK273.out 4).trans rfl; have hcz10_5 : w9.cell? ⟨gb273, 5, none⟩ = some (.int .i64 a0_5) := (blk_cell BK273.out 5).trans rfl; have hcz10_6 : w9.cell? ⟨gb273, 6, none⟩ = some (.int .i64 a0_6) := (blk_cell BK273.out 6).trans rfl; have hcz10_7 : w9.cell? ⟨gb273, 7, none⟩ = some (.int .i64 a0_7) := (blk_cell BK273.out 7).trans rfl; have hcz10_8 : w9.cell? ⟨gb273, 8, none⟩ = some (.int .i64 a0_8) := (blk_cell BK273.out 8).trans rfl; have hfz10_0 := blk_frozen BK273.out 0; have hfz10_1 := blk_frozen BK273.out 1; have hfz10_2 := blk_frozen BK273.out 2; have hfz10_3 := blk_frozen BK273.out 3; have hfz10_4 := blk_frozen BK273.out 4; have hfz10_5 := blk_frozen BK273.out 5; have hfz10_6 := blk_frozen BK273.out 6; have hfz10_7 := blk_frozen BK273.out 7; have hfz10_8 := blk_frozen BK273.out 8) | (go_at_call 70; (with_reducible refine (impl_within.calls a0_3 0 1000000 t275 _ A6.out).mono ?_); rintro e w' ⟨rfl, ⟨nd, rfl⟩⟩))
        go_ret
        exact ⟨by first | rfl | (simp [errW_none, errW_some] <;> rfl) | (simp [*, errW_none, errW_some] <;> rfl), by repeat (first | (with_reducible first | exact HB.out | apply below_alloc | apply pw_below_drewN | apply below_drew1 | refine below_set ?_ GE273.out) | exact HB.out)⟩
      · replace c5 := Bool.eq_false_iff.mpr c5
        subst c5
        have H1 : (some false) = some r := by rw [if_neg (show ¬ (false = true) by decide)] at H; exact H
        clear H
        have H := H1
        clear H1
        obtain rfl := Option.some.inj H
        go_enter Tryd.func46, Tryd.ntmps46
        go_wp2_with (first | ((with_reducible refine gate_dst (N := 1) rfl ?_); (try (refine gate_guard (by rfl) ?_; dsimp only)); refine box_event ?hg (N := 1) ?hd (cs := #[.int .i64 a0_0, .int .i64 a0_1, .int .i64 a0_2, .int .i64 a0_3, .int .i64 a0_4, .int .i64 a0_5, .int .i64 a0_6, .int .i64 a0_7, .int .i64 a0_8]) (t := 41) ?hr ?_; (case hd => rfl); (case hg => rfl); (case hr => first | (go_simp; done) | (go_simp; rfl)); intro gb273 hg w11 hbox hb; have n0_ := Aside0.mk (below_step (by repeat (first | (with_reducible first | exact HB.out | apply below_alloc | apply pw_below_drewN | apply below_drew1) | exact HB.out)) hb); have n1_ := Aside0.mk (hbox); have n2_ := Aside0.mk ((by rw [hg]; exact (below_size (by repeat (first | (with_reducible first | exact HB.out | apply below_alloc | apply pw_below_drewN | apply below_drew1) | exact HB.out))) : w.heap.size ≤ gb273)); have n3_ := Aside0.mk ((by rw [hg]; exact (below_size (by repeat (first | (with_reducible first | exact HB.out | apply below_alloc | apply pw_below_drewN | apply below_drew1) | exact HB.out))) : w.heap.size ≤ gb273)); clear HB; have HB := n0_; have BK273 := n1_; have GW273 := n2_; have GE273 := n3_; clear n0_ n1_ n2_ n3_; clear hb hbox hg; have hcz12_0 : w11.cell? ⟨gb273, 0, none⟩ = some (.int .i64 a0_0) := (blk_cell BK273.out 0).trans rfl; have hcz12_1 : w11.cell? ⟨gb273, 1, none⟩ = some (.int .i64 a0_1) := (blk_cell BK273.out 1).trans rfl; have hcz12_2 : w11.cell? ⟨gb273, 2, none⟩ = some (.int .i64 a0_2) := (blk_cell BK273.out 2).trans rfl; have hcz12_3 : w11.cell? ⟨gb273, 3, none⟩ = some (.int .i64 a0_3) := (blk_cell BK273.out 3).trans rfl; have hcz12_4 : w11.cell? ⟨gb273, 4, none⟩ = some (.int .i64 a0_4) := (blk_cell BK273.out 4).trans rfl; have hcz12_5 : w11.cell? ⟨gb273, 5, none⟩ = some (.int .i64 a0_5) := (blk_cell BK273.out 5).trans rfl; have hcz12_6 : w11.cell? ⟨gb273, 6, none⟩ = some (.int .i64 a0_6) := (blk_cell BK273.out 6).trans rfl; have hcz12_7 : w11.cell? ⟨gb273, 7, none⟩ = some (.int .i64 a0_7) := (blk_cell BK273.out 7).trans rfl; have hcz12_8 : w11.cell? ⟨gb273, 8, none⟩ = some (.int .i64 a0_8) := (blk_cell BK273.out 8).trans rfl; have hfz12_0 := blk_frozen BK273.out 0; have hfz12_1 := blk_frozen BK273.out 1; have hfz12_2 := blk_frozen BK273.out 2; have hfz12_3 := blk_frozen BK273.out 3; have hfz12_4 := blk_frozen BK273.out 4; have hfz12_5 := blk_frozen BK273.out 5; have hfz12_6 := blk_frozen BK273.out 6; have hfz12_7 := blk_frozen BK273.out 7; have hfz12_8 := blk_frozen BK273.out 8) | (go_at_call 79; (with_reducible refine (impl_isTurn.calls a0_1 a0_2 false _ A4.out).mono ?_); rintro e w13 ⟨rfl, hb⟩; have n0_ := Aside0.mk (blk_below (g := gb273) (o := .cells #[.int .i64 a0_0, .int .i64 a0_1, .int .i64 a0_2, .int .i64 a0_3, .int .i64 a0_4, .int .i64 a0_5, .int .i64 a0_6, .int .i64 a0_7, .int .i64 a0_8] 41 (0, 0)) (by (with_reducible repeat (first | refine blk_drewN ?_ _ | refine blk_drew ?_ | refine blk_alloc ?_ _)); exact BK273.out) hb); have n1_ := Aside0.mk (below_step (by repeat (first | (with_reducible first | exact HB.out | apply below_alloc | apply pw_below_drewN | apply below_drew1 | refine below_set ?_ GE273.out) | exact HB.out)) hb); clear BK273; clear HB; have BK273 := n0_; have HB := n1_; clear n0_ n1_; (try clear hb); (try clear hb2); (try clear hk); (try clear hi)))
        go_ret
        exact ⟨by first | rfl | (simp [errW_none, errW_some] <;> rfl) | (simp [*, errW_none, errW_some] <;> rfl), by repeat (first | (with_reducible first | exact HB.out | apply below_alloc | apply pw_below_drewN | apply below_drew1 | refine below_set ?_ GE273.out) | exact HB.out)⟩
    · rw [if_neg c3] at H
      have c3b0 : (a0_0 == 1 && ((a0_4 == 0 && (a0_5 == 0)) && (a0_6 == 0 && (a0_7 == 0 && (a0_8 == 0))))) = false := by simpa using c3
      have c3x : ((a0_4 == 0 && (a0_5 == 0)) && (a0_6 == 0 && (a0_7 == 0 && (a0_8 == 0)))) = false := by have h_ := c3b0; rw [c2b0, Bool.true_and] at h_; exact h_
      (try (have c3b1 : decide (a0_0 = 1 && ((a0_4 == 0 && (a0_5 == 0)) && (a0_6 == 0 && (a0_7 == 0 && (a0_8 == 0))))) = false := by simpa using c3))
      (try (have c3b2 : (a0_0 == 1 && ((a0_4 == 0 && (a0_5 == 0)) && (a0_6 == 0 && (a0_7 == 0 && (a0_8 == 0))))) = false := by simpa using c3))
      (try (have c3b3 : ¬ (a0_0 = 1 && ((a0_4 == 0 && (a0_5 == 0)) && (a0_6 == 0 && (a0_7 == 0 && (a0_8 == 0))))) := by simpa using c3))
      clear c3
      obtain rfl := Option.some.inj H
      go_enter Tryd.func46, Tryd.ntmps46
      go_wp2_with (first | ((with_reducible refine gate_dst (N := 1) rfl ?_); (try (refine gate_guard (by rfl) ?_; dsimp only)); refine box_event ?hg (N := 1) ?hd (cs := #[.int .i64 a0_0, .int .i64 a0_1, .int .i64 a0_2, .int .i64 a0_3, .int .i64 a0_4, .int .i64 a0_5, .int .i64 a0_6, .int .i64 a0_7, .int .i64 a0_8]) (t := 41) ?hr ?_; (case hd => rfl); (case hg => rfl); (case hr => first | (go_simp; done) | (go_simp; rfl)); intro gb273 hg w14 hbox hb; have n0_ := Aside0.mk (below_step (by repeat (first | (with_reducible first | exact HB.out | apply below_alloc | apply pw_below_drewN | apply below_drew1) | exact HB.out)) hb); have n1_ := Aside0.mk (hbox); have n2_ := Aside0.mk ((by rw [hg]; exact (below_size (by repeat (first | (with_reducible first | exact HB.out | apply below_alloc | apply pw_below_drewN | apply below_drew1) | exact HB.out))) : w.heap.size ≤ gb273)); have n3_ := Aside0.mk ((by rw [hg]; exact (below_size (by repeat (first | (with_reducible first | exact HB.out | apply below_alloc | apply pw_below_drewN | apply below_drew1) | exact HB.out))) : w.heap.size ≤ gb273)); clear HB; have HB := n0_; have BK273 := n1_; have GW273 := n2_; have GE273 := n3_; clear n0_ n1_ n2_ n3_; clear hb hbox hg; have hcz15_0 : w14.cell? ⟨gb273, 0, none⟩ = some (.int .i64 a0_0) := (blk_cell BK273.out 0).trans rfl; have hcz15_1 : w14.cell? ⟨gb273, 1, none⟩ = some (.int .i64 a0_1) := (blk_cell BK273.out 1).trans rfl; have hcz15_2 : w14.cell? ⟨gb273, 2, none⟩ = some (.int .i64 a0_2) := (blk_cell BK273.out 2).trans rfl; have hcz15_3 : w14.cell? ⟨gb273, 3, none⟩ = some (.int .i64 a0_3) := (blk_cell BK273.out 3).trans rfl; have hcz15_4 : w14.cell? ⟨gb273, 4, none⟩ = some (.int .i64 a0_4) := (blk_cell BK273.out 4).trans rfl; have hcz15_5 : w14.cell? ⟨gb273, 5, none⟩ = some (.int .i64 a0_5) := (blk_cell BK273.out 5).trans rfl; have hcz15_6 : w14.cell? ⟨gb273, 6, none⟩ = some (.int .i64 a0_6) := (blk_cell BK273.out 6).trans rfl; have hcz15_7 : w14.cell? ⟨gb273, 7, none⟩ = some (.int .i64 a0_7) := (blk_cell BK273.out 7).trans rfl; have hcz15_8 : w14.cell? ⟨gb273, 8, none⟩ = some (.int .i64 a0_8) := (blk_cell BK273.out 8).trans rfl; have hfz15_0 := blk_frozen BK273.out 0; have hfz15_1 := blk_frozen BK273.out 1; have hfz15_2 := blk_frozen BK273.out 2; have hfz15_3 := blk_frozen BK273.out 3; have hfz15_4 := blk_frozen BK273.out 4; have hfz15_5 := blk_frozen BK273.out 5; have hfz15_6 := blk_frozen BK273.out 6; have hfz15_7 := blk_frozen BK273.out 7; have hfz15_8 := blk_frozen BK273.out 8))
      go_ret
      exact ⟨by first | rfl | (simp [errW_none, errW_some] <;> rfl) | (simp [*, errW_none, errW_some] <;> rfl), by repeat (first | (with_reducible first | exact HB.out | apply below_alloc | apply pw_below_drewN | apply below_drew1 | refine below_set ?_ GE273.out) | exact HB.out)⟩
  · rw [if_neg c2] at H
    have c2b0 : (a0_0 == 1) = false := beq_eq_false_iff_ne.mpr c2
    have c2b1 : (a0_0 != 1) = true := bne_iff_ne.mpr c2
    by_cases c16 : a0_0 = 2
    · rw [if_pos c16] at H
      have c16b0 : (a0_0 == 2) = true := beq_iff_eq.mpr c16
      have c16b1 : (a0_0 != 2) = false := bne_eq_false_iff_eq.mpr c16
      clear c16
      by_cases c17 : (a0_0 == 2 && (a0_1 == 0 && (a0_2 == 0 && (a0_3 == 0 && (a0_6 == 0 && (a0_7 == 0 && (a0_8 == 0))))))) = true
      · rw [if_pos c17] at H
        have c17b0 : (a0_0 == 2 && (a0_1 == 0 && (a0_2 == 0 && (a0_3 == 0 && (a0_6 == 0 && (a0_7 == 0 && (a0_8 == 0))))))) = true := c17
        have c17x : (a0_1 == 0 && (a0_2 == 0 && (a0_3 == 0 && (a0_6 == 0 && (a0_7 == 0 && (a0_8 == 0)))))) = true := by have h_ := c17b0; rw [c16b0, Bool.true_and] at h_; exact h_
        (try (have c17b1 : decide (a0_0 = 2 && (a0_1 == 0 && (a0_2 == 0 && (a0_3 == 0 && (a0_6 == 0 && (a0_7 == 0 && (a0_8 == 0))))))) = true := by simpa using c17))
        (try (have c17b2 : (a0_0 == 2 && (a0_1 == 0 && (a0_2 == 0 && (a0_3 == 0 && (a0_6 == 0 && (a0_7 == 0 && (a0_8 == 0))))))) = true := by simpa using c17))
        clear c17
        replace H := Option.bind_eq_some_iff.mp H
        obtain ⟨t276, A180, H⟩ := H
        replace H : (some t276) = some r := H
        have A18 := Aside0.mk A180
        clear A180
        obtain rfl := Option.some.inj H
        go_enter Tryd.func46, Tryd.ntmps46
        go_wp2_with (first | ((with_reducible refine gate_dst (N := 1) rfl ?_); (try (refine gate_guard (by rfl) ?_; dsimp only)); refine box_event ?hg (N := 1) ?hd (cs := #[.int .i64 a0_0, .int .i64 a0_1, .int .i64 a0_2, .int .i64 a0_3, .int .i64 a0_4, .int .i64 a0_5, .int .i64 a0_6, .int .i64 a0_7, .int .i64 a0_8]) (t := 41) ?hr ?_; (case hd => rfl); (case hg => rfl); (case hr => first | (go_simp; done) | (go_simp; rfl)); intro gb273 hg w19 hbox hb; have n0_ := Aside0.mk (below_step (by repeat (first | (with_reducible first | exact HB.out | apply below_alloc | apply pw_below_drewN | apply below_drew1) | exact HB.out)) hb); have n1_ := Aside0.mk (hbox); have n2_ := Aside0.mk ((by rw [hg]; exact (below_size (by repeat (first | (with_reducible first | exact HB.out | apply below_alloc | apply pw_below_drewN | apply below_drew1) | exact HB.out))) : w.heap.size ≤ gb273)); have n3_ := Aside0.mk ((by rw [hg]; exact (below_size (by repeat (first | (with_reducible first | exact HB.out | apply below_alloc | apply pw_below_drewN | apply below_drew1) | exact HB.out))) : w.heap.size ≤ gb273)); clear HB; have HB := n0_; have BK273 := n1_; have GW273 := n2_; have GE273 := n3_; clear n0_ n1_ n2_ n3_; clear hb hbox hg; have hcz20_0 : w19.cell? ⟨gb273, 0, none⟩ = some (.int .i64 a0_0) := (blk_cell BK273.out 0).trans rfl; have hcz20_1 : w19.cell? ⟨gb273, 1, none⟩ = some (.int .i64 a0_1) := (blk_cell BK273.out 1).trans rfl; have hcz20_2 : w19.cell? ⟨gb273, 2, none⟩ = some (.int .i64 a0_2) := (blk_cell BK273.out 2).trans rfl; have hcz20_3 : w19.cell? ⟨gb273, 3, none⟩ = some (.int .i64 a0_3) := (blk_cell BK273.out 3).trans rfl; have hcz20_4 : w19.cell? ⟨gb273, 4, none⟩ = some (.int .i64 a0_4) := (blk_cell BK273.out 4).trans rfl; have hcz20_5 : w19.cell? ⟨gb273, 5, none⟩ = some (.int .i64 a0_5) := (blk_cell BK273.out 5).trans rfl; have hcz20_6 : w19.cell? ⟨gb273, 6, none⟩ = some (.int .i64 a0_6) := (blk_cell BK273.out 6).trans rfl; have hcz20_7 : w19.cell? ⟨gb273, 7, none⟩ = some (.int .i64 a0_7) := (blk_cell BK273.out 7).trans rfl; have hcz20_8 : w19.cell? ⟨gb273, 8, none⟩ = some (.int .i64 a0_8) := (blk_cell BK273.out 8).trans rfl; have hfz20_0 := blk_frozen BK273.out 0; have hfz20_1 := blk_frozen BK273.out 1; have hfz20_2 := blk_frozen BK273.out 2; have hfz20_3 := blk_frozen BK273.out 3; have hfz20_4 := blk_frozen BK273.out 4; have hfz20_5 := blk_frozen BK273.out 5; have hfz20_6 := blk_frozen BK273.out 6; have hfz20_7 := blk_frozen BK273.out 7; have hfz20_8 := blk_frozen BK273.out 8) | (go_at_call 80; (with_reducible refine (impl_ValidRing.calls a0_4 a0_5 t276 _ A18.out).mono ?_); rintro e w21 ⟨rfl, hb⟩; have n0_ := Aside0.mk (blk_below (g := gb273) (o := .cells #[.int .i64 a0_0, .int .i64 a0_1, .int .i64 a0_2, .int .i64 a0_3, .int .i64 a0_4, .int .i64 a0_5, .int .i64 a0_6, .int .i64 a0_7, .int .i64 a0_8] 41 (0, 0)) (by (with_reducible repeat (first | refine blk_drewN ?_ _ | refine blk_drew ?_ | refine blk_alloc ?_ _)); exact BK273.out) hb); have n1_ := Aside0.mk (below_step (by repeat (first | (with_reducible first | exact HB.out | apply below_alloc | apply pw_below_drewN | apply below_drew1 | refine below_set ?_ GE273.out) | exact HB.out)) hb); clear BK273; clear HB; have BK273 := n0_; have HB := n1_; clear n0_ n1_; (try clear hb); (try clear hb2); (try clear hk); (try clear hi)))
        go_ret
        exact ⟨by first | rfl | (simp [errW_none, errW_some] <;> rfl) | (simp [*, errW_none, errW_some] <;> rfl), by repeat (first | (with_reducible first | exact HB.out | apply below_alloc | apply pw_below_drewN | apply below_drew1 | refine below_set ?_ GE273.out) | exact HB.out)⟩
      · rw [if_neg c17] at H
        have c17b0 : (a0_0 == 2 && (a0_1 == 0 && (a0_2 == 0 && (a0_3 == 0 && (a0_6 == 0 && (a0_7 == 0 && (a0_8 == 0))))))) = false := by simpa using c17
        have c17x : (a0_1 == 0 && (a0_2 == 0 && (a0_3 == 0 && (a0_6 == 0 && (a0_7 == 0 && (a0_8 == 0)))))) = false := by have h_ := c17b0; rw [c16b0, Bool.true_and] at h_; exact h_
        (try (have c17b1 : decide (a0_0 = 2 && (a0_1 == 0 && (a0_2 == 0 && (a0_3 == 0 && (a0_6 == 0 && (a0_7 == 0 && (a0_8 == 0))))))) = false := by simpa using c17))
        (try (have c17b2 : (a0_0 == 2 && (a0_1 == 0 && (a0_2 == 0 && (a0_3 == 0 && (a0_6 == 0 && (a0_7 == 0 && (a0_8 == 0))))))) = false := by simpa using c17))
        (try (have c17b3 : ¬ (a0_0 = 2 && (a0_1 == 0 && (a0_2 == 0 && (a0_3 == 0 && (a0_6 == 0 && (a0_7 == 0 && (a0_8 == 0))))))) := by simpa using c17))
        clear c17
        obtain rfl := Option.some.inj H
        go_enter Tryd.func46, Tryd.ntmps46
        go_wp2_with (first | ((with_reducible refine gate_dst (N := 1) rfl ?_); (try (refine gate_guard (by rfl) ?_; dsimp only)); refine box_event ?hg (N := 1) ?hd (cs := #[.int .i64 a0_0, .int .i64 a0_1, .int .i64 a0_2, .int .i64 a0_3, .int .i64 a0_4, .int .i64 a0_5, .int .i64 a0_6, .int .i64 a0_7, .int .i64 a0_8]) (t := 41) ?hr ?_; (case hd => rfl); (case hg => rfl); (case hr => first | (go_simp; done) | (go_simp; rfl)); intro gb273 hg w22 hbox hb; have n0_ := Aside0.mk (below_step (by repeat (first | (with_reducible first | exact HB.out | apply below_alloc | apply pw_below_drewN | apply below_drew1) | exact HB.out)) hb); have n1_ := Aside0.mk (hbox); have n2_ := Aside0.mk ((by rw [hg]; exact (below_size (by repeat (first | (with_reducible first | exact HB.out | apply below_alloc | apply pw_below_drewN | apply below_drew1) | exact HB.out))) : w.heap.size ≤ gb273)); have n3_ := Aside0.mk ((by rw [hg]; exact (below_size (by repeat (first | (with_reducible first | exact HB.out | apply below_alloc | apply pw_below_drewN | apply below_drew1) | exact HB.out))) : w.heap.size ≤ gb273)); clear HB; have HB := n0_; have BK273 := n1_; have GW273 := n2_; have GE273 := n3_; clear n0_ n1_ n2_ n3_; clear hb hbox hg; have hcz23_0 : w22.cell? ⟨gb273, 0, none⟩ = some (.int .i64 a0_0) := (blk_cell BK273.out 0).trans rfl; have hcz23_1 : w22.cell? ⟨gb273, 1, none⟩ = some (.int .i64 a0_1) := (blk_cell BK273.out 1).trans rfl; have hcz23_2 : w22.cell? ⟨gb273, 2, none⟩ = some (.int .i64 a0_2) := (blk_cell BK273.out 2).trans rfl; have hcz23_3 : w22.cell? ⟨gb273, 3, none⟩ = some (.int .i64 a0_3) := (blk_cell BK273.out 3).trans rfl; have hcz23_4 : w22.cell? ⟨gb273, 4, none⟩ = some (.int .i64 a0_4) := (blk_cell BK273.out 4).trans rfl; have hcz23_5 : w22.cell? ⟨gb273, 5, none⟩ = some (.int .i64 a0_5) := (blk_cell BK273.out 5).trans rfl; have hcz23_6 : w22.cell? ⟨gb273, 6, none⟩ = some (.int .i64 a0_6) := (blk_cell BK273.out 6).trans rfl; have hcz23_7 : w22.cell? ⟨gb273, 7, none⟩ = some (.int .i64 a0_7) := (blk_cell BK273.out 7).trans rfl; have hcz23_8 : w22.cell? ⟨gb273, 8, none⟩ = some (.int .i64 a0_8) := (blk_cell BK273.out 8).trans rfl; have hfz23_0 := blk_frozen BK273.out 0; have hfz23_1 := blk_frozen BK273.out 1; have hfz23_2 := blk_frozen BK273.out 2; have hfz23_3 := blk_frozen BK273.out 3; have hfz23_4 := blk_frozen BK273.out 4; have hfz23_5 := blk_frozen BK273.out 5; have hfz23_6 := blk_frozen BK273.out 6; have hfz23_7 := blk_frozen BK273.out 7; have hfz23_8 := blk_frozen BK273.out 8))
        go_ret
        exact ⟨by first | rfl | (simp [errW_none, errW_some] <;> rfl) | (simp [*, errW_none, errW_some] <;> rfl), by repeat (first | (with_reducible first | exact HB.out | apply below_alloc | apply pw_below_drewN | apply below_drew1 | refine below_set ?_ GE273.out) | exact HB.out)⟩
    · rw [if_neg c16] at H
      have c16b0 : (a0_0 == 2) = false := beq_eq_false_iff_ne.mpr c16
      have c16b1 : (a0_0 != 2) = true := bne_iff_ne.mpr c16
      by_cases c24 : a0_0 = 3
      · rw [if_pos c24] at H
        have c24b0 : (a0_0 == 3) = true := beq_iff_eq.mpr c24
        have c24b1 : (a0_0 != 3) = false := bne_eq_false_iff_eq.mpr c24
        clear c24
        by_cases c25 : (a0_0 == 3 && (a0_1 == 0 && (a0_2 == 0 && (a0_3 == 0 && ((a0_4 == 0 && (a0_5 == 0))))))) = true
        · rw [if_pos c25] at H
          have c25b0 : (a0_0 == 3 && (a0_1 == 0 && (a0_2 == 0 && (a0_3 == 0 && ((a0_4 == 0 && (a0_5 == 0))))))) = true := c25
          have c25x : (a0_1 == 0 && (a0_2 == 0 && (a0_3 == 0 && ((a0_4 == 0 && (a0_5 == 0)))))) = true := by have h_ := c25b0; rw [c24b0, Bool.true_and] at h_; exact h_
          (try (have c25b1 : decide (a0_0 = 3 && (a0_1 == 0 && (a0_2 == 0 && (a0_3 == 0 && ((a0_4 == 0 && (a0_5 == 0))))))) = true := by simpa using c25))
          (try (have c25b2 : (a0_0 == 3 && (a0_1 == 0 && (a0_2 == 0 && (a0_3 == 0 && ((a0_4 == 0 && (a0_5 == 0))))))) = true := by simpa using c25))
          clear c25
          obtain ⟨y277, hy277⟩ : ∃ y_ : List Int, y_ = (([a0_6, a0_7] : List Int)) := ⟨_, rfl⟩
          replace H : ((impl_areWithin.f y277 0 100000).bind fun t280 => (if t280 = true then ((impl_within.f a0_8 0 100).bind fun t281 => (some t281)) else (some false))) = some r := by first | (rw [hy277]; with_reducible exact H) | (have H2_ := (Option.bind_some _ _).symm.trans H; rw [hy277]; with_reducible exact H2_) | (have H2_ := (Option.bind_some _ _).symm.trans H; with_reducible exact H2_) | with_reducible exact H | (rw [hy277]; exact H) | exact H
          have Ny277 := Aside0.mk hy277
          clear hy277
          replace H := Option.bind_eq_some_iff.mp H
          obtain ⟨t280, A260, H⟩ := H
          replace H : (if t280 = true then ((impl_within.f a0_8 0 100).bind fun t281 => (some t281)) else (some false)) = some r := H
          have A26 := Aside0.mk A260
          clear A260
          by_cases c27 : t280 = true
          · subst c27
            have H1 : ((impl_within.f a0_8 0 100).bind fun t281 => (some t281)) = some r := by rw [if_pos rfl] at H; exact H
            clear H
            have H := H1
            clear H1
            replace H := Option.bind_eq_some_iff.mp H
            obtain ⟨t281, A280, H⟩ := H
            replace H : (some t281) = some r := H
            have A28 := Aside0.mk A280
            clear A280
            obtain rfl := Option.some.inj H
            go_enter Tryd.func46, Tryd.ntmps46
            go_wp2_with (first | ((with_reducible refine gate_dst (N := 1) rfl ?_); (try (refine gate_guard (by rfl) ?_; dsimp only)); refine box_event ?hg (N := 1) ?hd (cs := #[.int .i64 a0_0, .int .i64 a0_1, .int .i64 a0_2, .int .i64 a0_3, .int .i64 a0_4, .int .i64 a0_5, .int .i64 a0_6, .int .i64 a0_7, .int .i64 a0_8]) (t := 41) ?hr ?_; (case hd => rfl); (case hg => rfl); (case hr => first | (go_simp; done) | (go_simp; rfl)); intro gb273 hg w29 hbox hb; have n0_ := Aside0.mk (below_step (by repeat (first | (with_reducible first | exact HB.out | apply below_alloc | apply pw_below_drewN | apply below_drew1) | exact HB.out)) hb); have n1_ := Aside0.mk (hbox); have n2_ := Aside0.mk ((by rw [hg]; exact (below_size (by repeat (first | (with_reducible first | exact HB.out | apply below_alloc | apply pw_below_drewN | apply below_drew1) | exact HB.out))) : w.heap.size ≤ gb273)); have n3_ := Aside0.mk ((by rw [hg]; exact (below_size (by repeat (first | (with_reducible first | exact HB.out | apply below_alloc | apply pw_below_drewN | apply below_drew1) | exact HB.out))) : w.heap.size ≤ gb273)); clear HB; have HB := n0_; have BK273 := n1_; have GW273 := n2_; have GE273 := n3_; clear n0_ n1_ n2_ n3_; clear hb hbox hg; have hcz30_0 : w29.cell? ⟨gb273, 0, none⟩ = some (.int .i64 a0_0) := (blk_cell BK273.out 0).trans rfl; have hcz30_1 : w29.cell? ⟨gb273, 1, none⟩ = some (.int .i64 a0_1) := (blk_cell BK273.out 1).trans rfl; have hcz30_2 : w29.cell? ⟨gb273, 2, none⟩ = some (.int .i64 a0_2) := (blk_cell BK273.out 2).trans rfl; have hcz30_3 : w29.cell? ⟨gb273, 3, none⟩ = some (.int .i64 a0_3) := (blk_cell BK273.out 3).trans rfl; have hcz30_4 : w29.cell? ⟨gb273, 4, none⟩ = some (.int .i64 a0_4) := (blk_cell BK273.out 4).trans rfl; have hcz30_5 : w29.cell? ⟨gb273, 5, none⟩ = some (.int .i64 a0_5) := (blk_cell BK273.out 5).trans rfl; have hcz30_6 : w29.cell? ⟨gb273, 6, none⟩ = some (.int .i64 a0_6) := (blk_cell BK273.out 6).trans rfl; have hcz30_7 : w29.cell? ⟨gb273, 7, none⟩ = some (.int .i64 a0_7) := (blk_cell BK273.out 7).trans rfl; have hcz30_8 : w29.cell? ⟨gb273, 8, none⟩ = some (.int .i64 a0_8) := (blk_cell BK273.out 8).trans rfl; have hfz30_0 := blk_frozen BK273.out 0; have hfz30_1 := blk_frozen BK273.out 1; have hfz30_2 := blk_frozen BK273.out 2; have hfz30_3 := blk_frozen BK273.out 3; have hfz30_4 := blk_frozen BK273.out 4; have hfz30_5 := blk_frozen BK273.out 5; have hfz30_6 := blk_frozen BK273.out 6; have hfz30_7 := blk_frozen BK273.out 7; have hfz30_8 := blk_frozen BK273.out 8) | ((with_reducible refine gate_dst (N := 56) rfl ?_); (try (refine gate_guard (by rfl) ?_; dsimp only)); refine Kd.R_lit (Kd.int .i64) _ 2 ?hg (N := 56) ?hd (xs := ([a0_6, a0_7] : List Int)) (inner := [.int .i64 a0_6, .int .i64 a0_7]) (ok := fun _ => True) (okp := fun _ => True) ?hr ?hp (fun _ hk => hk) trivial (Below.refl _ _) (Nat.le_refl _) (by simp) ?_; (case hd => rfl); (case hg => rfl); (case hr => first | (go_simp; done) | (go_simp; rfl)); (case hp => exact (Reps.one (show Kd.M (Kd.int .i64) _ _ _ a0_6 [.int .i64 a0_6] from rfl) (Reps.one (show Kd.M (Kd.int .i64) _ _ _ a0_7 [.int .i64 a0_7] from rfl) (Reps.none _ _)))); intro v278 w31 ho32 hb hg_ hnew_; clear hg_ hnew_; (first | rw [← Ny277.out] at ho32 | (simp only [Int.reduceToNat] at ho32; rw [← Ny277.out] at ho32)); have n0_ := Aside0.mk (Kd.R_lower ho32 (below_size (by repeat (first | (with_reducible first | exact HB.out | apply below_alloc | apply pw_below_drewN | apply below_drew1 | refine below_set ?_ GE273.out) | exact HB.out)))); have n1_ := Aside0.mk (blk_below (g := gb273) (o := .cells #[.int .i64 a0_0, .int .i64 a0_1, .int .i64 a0_2, .int .i64 a0_3, .int .i64 a0_4, .int .i64 a0_5, .int .i64 a0_6, .int .i64 a0_7, .int .i64 a0_8] 41 (0, 0)) (by (with_reducible repeat (first | refine blk_drewN ?_ _ | refine blk_drew ?_ | refine blk_alloc ?_ _)); exact BK273.out) hb); have n2_ := Aside0.mk (below_step (by repeat (first | (with_reducible first | exact HB.out | apply below_alloc | apply pw_below_drewN | apply below_drew1 | refine below_set ?_ GE273.out) | exact HB.out)) hb); clear BK273; clear HB; have HO279 := n0_; have BK273 := n1_; have HB := n2_; clear n0_ n1_ n2_; clear hb ho32; obtain ⟨Ao33, co33, eo33⟩ := Kd.R_slice HO279.out; subst eo33) | (go_at_call 69; (with_reducible refine (impl_areWithin.calls _ _ y277 0 100000 true _ ?side1 ?side2 A26.out).mono ?_); (case side1 => repeat (first | exact (Kd.R_reads' HO279.out).2.2 | (with_reducible refine Kd.C_alloc ?_ _) | (with_reducible refine Kd.C_drewN ?_ _) | (with_reducible refine Kd.C_drew ?_))); (case side2 => exact (Kd.R_reads' HO279.out).2.1); rintro e w34 ⟨rfl, hb⟩; have n0_ := Aside0.mk (Kd.R_below (by (with_reducible repeat (first | apply Kd.R_alloc | apply Kd.R_drewN | apply Kd.R_drew)); exact HO279.out) hb); have n1_ := Aside0.mk (blk_below (g := gb273) (o := .cells #[.int .i64 a0_0, .int .i64 a0_1, .int .i64 a0_2, .int .i64 a0_3, .int .i64 a0_4, .int .i64 a0_5, .int .i64 a0_6, .int .i64 a0_7, .int .i64 a0_8] 41 (0, 0)) (by (with_reducible repeat (first | refine blk_drewN ?_ _ | refine blk_drew ?_ | refine blk_alloc ?_ _)); exact BK273.out) hb); have n2_ := Aside0.mk (below_step (by repeat (first | (with_reducible first | exact HB.out | apply below_alloc | apply pw_below_drewN | apply below_drew1 | refine below_set ?_ GE273.out) | exact HB.out)) hb); clear HO279; clear BK273; clear HB; have HO279 := n0_; have BK273 := n1_; have HB := n2_; clear n0_ n1_ n2_; (try clear hb); (try clear hb2); (try clear hk); (try clear hi); have hcz35_0 : w34.cell? ⟨gb273, 0, none⟩ = some (.int .i64 a0_0) := (blk_cell BK273.out 0).trans rfl; have hcz35_1 : w34.cell? ⟨gb273, 1, none⟩ = some (.int .i64 a0_1) := (blk_cell BK273.out 1).trans rfl; have hcz35_2 : w34.cell? ⟨gb273, 2, none⟩ = some (.int .i64 a0_2) := (blk_cell BK273.out 2).trans rfl; have hcz35_3 : w34.cell? ⟨gb273, 3, none⟩ = some (.int .i64 a0_3) := (blk_cell BK273.out 3).trans rfl; have hcz35_4 : w34.cell? ⟨gb273, 4, none⟩ = some (.int .i64 a0_4) := (blk_cell BK273.out 4).trans rfl; have hcz35_5 : w34.cell? ⟨gb273, 5, none⟩ = some (.int .i64 a0_5) := (blk_cell BK273.out 5).trans rfl; have hcz35_6 : w34.cell? ⟨gb273, 6, none⟩ = some (.int .i64 a0_6) := (blk_cell BK273.out 6).trans rfl; have hcz35_7 : w34.cell? ⟨gb273, 7, none⟩ = some (.int .i64 a0_7) := (blk_cell BK273.out 7).trans rfl; have hcz35_8 : w34.cell? ⟨gb273, 8, none⟩ = some (.int .i64 a0_8) := (blk_cell BK273.out 8).trans rfl; have hfz35_0 := blk_frozen BK273.out 0; have hfz35_1 := blk_frozen BK273.out 1; have hfz35_2 := blk_frozen BK273.out 2; have hfz35_3 := blk_frozen BK273.out 3; have hfz35_4 := blk_frozen BK273.out 4; have hfz35_5 := blk_frozen BK273.out 5; have hfz35_6 := blk_frozen BK273.out 6; have hfz35_7 := blk_frozen BK273.out 7; have hfz35_8 := blk_frozen BK273.out 8) | (go_at_call 70; (with_reducible refine (impl_within.calls a0_8 0 100 t281 _ A28.out).mono ?_); rintro e w' ⟨rfl, ⟨nd, rfl⟩⟩))
            go_ret
            exact ⟨by first | rfl | (simp [errW_none, errW_some] <;> rfl) | (simp [*, errW_none, errW_some] <;> rfl), by repeat (first | (with_reducible first | exact HB.out | apply below_alloc | apply pw_below_drewN | apply below_drew1 | refine below_set ?_ GE273.out) | exact HB.out)⟩
          · replace c27 := Bool.eq_false_iff.mpr c27
            subst c27
            have H1 : (some false) = some r := by rw [if_neg (show ¬ (false = true) by decide)] at H; exact H
            clear H
            have H := H1
            clear H1
            obtain rfl := Option.some.inj H
            go_enter Tryd.func46, Tryd.ntmps46
            go_wp2_with (first | ((with_reducible refine gate_dst (N := 1) rfl ?_); (try (refine gate_guard (by rfl) ?_; dsimp only)); refine box_event ?hg (N := 1) ?hd (cs := #[.int .i64 a0_0, .int .i64 a0_1, .int .i64 a0_2, .int .i64 a0_3, .int .i64 a0_4, .int .i64 a0_5, .int .i64 a0_6, .int .i64 a0_7, .int .i64 a0_8]) (t := 41) ?hr ?_; (case hd => rfl); (case hg => rfl); (case hr => first | (go_simp; done) | (go_simp; rfl)); intro gb273 hg w36 hbox hb; have n0_ := Aside0.mk (below_step (by repeat (first | (with_reducible first | exact HB.out | apply below_alloc | apply pw_below_drewN | apply below_drew1) | exact HB.out)) hb); have n1_ := Aside0.mk (hbox); have n2_ := Aside0.mk ((by rw [hg]; exact (below_size (by repeat (first | (with_reducible first | exact HB.out | apply below_alloc | apply pw_below_drewN | apply below_drew1) | exact HB.out))) : w.heap.size ≤ gb273)); have n3_ := Aside0.mk ((by rw [hg]; exact (below_size (by repeat (first | (with_reducible first | exact HB.out | apply below_alloc | apply pw_below_drewN | apply below_drew1) | exact HB.out))) : w.heap.size ≤ gb273)); clear HB; have HB := n0_; have BK273 := n1_; have GW273 := n2_; have GE273 := n3_; clear n0_ n1_ n2_ n3_; clear hb hbox hg; have hcz37_0 : w36.cell? ⟨gb273, 0, none⟩ = some (.int .i64 a0_0) := (blk_cell BK273.out 0).trans rfl; have hcz37_1 : w36.cell? ⟨gb273, 1, none⟩ = some (.int .i64 a0_1) := (blk_cell BK273.out 1).trans rfl; have hcz37_2 : w36.cell? ⟨gb273, 2, none⟩ = some (.int .i64 a0_2) := (blk_cell BK273.out 2).trans rfl; have hcz37_3 : w36.cell? ⟨gb273, 3, none⟩ = some (.int .i64 a0_3) := (blk_cell BK273.out 3).trans rfl; have hcz37_4 : w36.cell? ⟨gb273, 4, none⟩ = some (.int .i64 a0_4) := (blk_cell BK273.out 4).trans rfl; have hcz37_5 : w36.cell? ⟨gb273, 5, none⟩ = some (.int .i64 a0_5) := (blk_cell BK273.out 5).trans rfl; have hcz37_6 : w36.cell? ⟨gb273, 6, none⟩ = some (.int .i64 a0_6) := (blk_cell BK273.out 6).trans rfl; have hcz37_7 : w36.cell? ⟨gb273, 7, none⟩ = some (.int .i64 a0_7) := (blk_cell BK273.out 7).trans rfl; have hcz37_8 : w36.cell? ⟨gb273, 8, none⟩ = some (.int .i64 a0_8) := (blk_cell BK273.out 8).trans rfl; have hfz37_0 := blk_frozen BK273.out 0; have hfz37_1 := blk_frozen BK273.out 1; have hfz37_2 := blk_frozen BK273.out 2; have hfz37_3 := blk_frozen BK273.out 3; have hfz37_4 := blk_frozen BK273.out 4; have hfz37_5 := blk_frozen BK273.out 5; have hfz37_6 := blk_frozen BK273.out 6; have hfz37_7 := blk_frozen BK273.out 7; have hfz37_8 := blk_frozen BK273.out 8) | ((with_reducible refine gate_dst (N := 56) rfl ?_); (try (refine gate_guard (by rfl) ?_; dsimp only)); refine Kd.R_lit (Kd.int .i64) _ 2 ?hg (N := 56) ?hd (xs := ([a0_6, a0_7] : List Int)) (inner := [.int .i64 a0_6, .int .i64 a0_7]) (ok := fun _ => True) (okp := fun _ => True) ?hr ?hp (fun _ hk => hk) trivial (Below.refl _ _) (Nat.le_refl _) (by simp) ?_; (case hd => rfl); (case hg => rfl); (case hr => first | (go_simp; done) | (go_simp; rfl)); (case hp => exact (Reps.one (show Kd.M (Kd.int .i64) _ _ _ a0_6 [.int .i64 a0_6] from rfl) (Reps.one (show Kd.M (Kd.int .i64) _ _ _ a0_7 [.int .i64 a0_7] from rfl) (Reps.none _ _)))); intro v278 w38 ho39 hb hg_ hnew_; clear hg_ hnew_; (first | rw [← Ny277.out] at ho39 | (simp only [Int.reduceToNat] at ho39; rw [← Ny277.out] at ho39)); have n0_ := Aside0.mk (Kd.R_lower ho39 (below_size (by repeat (first | (with_reducible first | exact HB.out | apply below_alloc | apply pw_below_drewN | apply below_drew1 | refine below_set ?_ GE273.out) | exact HB.out)))); have n1_ := Aside0.mk (blk_below (g := gb273) (o := .cells #[.int .i64 a0_0, .int .i64 a0_1, .int .i64 a0_2, .int .i64 a0_3, .int .i64 a0_4, .int .i64 a0_5, .int .i64 a0_6, .int .i64 a0_7, .int .i64 a0_8] 41 (0, 0)) (by (with_reducible repeat (first | refine blk_drewN ?_ _ | refine blk_drew ?_ | refine blk_alloc ?_ _)); exact BK273.out) hb); have n2_ := Aside0.mk (below_step (by repeat (first | (with_reducible first | exact HB.out | apply below_alloc | apply pw_below_drewN | apply below_drew1 | refine below_set ?_ GE273.out) | exact HB.out)) hb); clear BK273; clear HB; have HO279 := n0_; have BK273 := n1_; have HB := n2_; clear n0_ n1_ n2_; clear hb ho39; obtain ⟨Ao40, co40, eo40⟩ := Kd.R_slice HO279.out; subst eo40) | (go_at_call 69; (with_reducible refine (impl_areWithin.calls _ _ y277 0 100000 false _ ?side1 ?side2 A26.out).mono ?_); (case side1 => repeat (first | exact (Kd.R_reads' HO279.out).2.2 | (with_reducible refine Kd.C_alloc ?_ _) | (with_reducible refine Kd.C_drewN ?_ _) | (with_reducible refine Kd.C_drew ?_))); (case side2 => exact (Kd.R_reads' HO279.out).2.1); rintro e w41 ⟨rfl, hb⟩; have n0_ := Aside0.mk (Kd.R_below (by (with_reducible repeat (first | apply Kd.R_alloc | apply Kd.R_drewN | apply Kd.R_drew)); exact HO279.out) hb); have n1_ := Aside0.mk (blk_below (g := gb273) (o := .cells #[.int .i64 a0_0, .int .i64 a0_1, .int .i64 a0_2, .int .i64 a0_3, .int .i64 a0_4, .int .i64 a0_5, .int .i64 a0_6, .int .i64 a0_7, .int .i64 a0_8] 41 (0, 0)) (by (with_reducible repeat (first | refine blk_drewN ?_ _ | refine blk_drew ?_ | refine blk_alloc ?_ _)); exact BK273.out) hb); have n2_ := Aside0.mk (below_step (by repeat (first | (with_reducible first | exact HB.out | apply below_alloc | apply pw_below_drewN | apply below_drew1 | refine below_set ?_ GE273.out) | exact HB.out)) hb); clear HO279; clear BK273; clear HB; have HO279 := n0_; have BK273 := n1_; have HB := n2_; clear n0_ n1_ n2_; (try clear hb); (try clear hb2); (try clear hk); (try clear hi)))
            go_ret
            exact ⟨by first | rfl | (simp [errW_none, errW_some] <;> rfl) | (simp [*, errW_none, errW_some] <;> rfl), by repeat (first | (with_reducible first | exact HB.out | apply below_alloc | apply pw_below_drewN | apply below_drew1 | refine below_set ?_ GE273.out) | exact HB.out)⟩
        · rw [if_neg c25] at H
          have c25b0 : (a0_0 == 3 && (a0_1 == 0 && (a0_2 == 0 && (a0_3 == 0 && ((a0_4 == 0 && (a0_5 == 0))))))) = false := by simpa using c25
          have c25x : (a0_1 == 0 && (a0_2 == 0 && (a0_3 == 0 && ((a0_4 == 0 && (a0_5 == 0)))))) = false := by have h_ := c25b0; rw [c24b0, Bool.true_and] at h_; exact h_
          (try (have c25b1 : decide (a0_0 = 3 && (a0_1 == 0 && (a0_2 == 0 && (a0_3 == 0 && ((a0_4 == 0 && (a0_5 == 0))))))) = false := by simpa using c25))
          (try (have c25b2 : (a0_0 == 3 && (a0_1 == 0 && (a0_2 == 0 && (a0_3 == 0 && ((a0_4 == 0 && (a0_5 == 0))))))) = false := by simpa using c25))
          (try (have c25b3 : ¬ (a0_0 = 3 && (a0_1 == 0 && (a0_2 == 0 && (a0_3 == 0 && ((a0_4 == 0 && (a0_5 == 0))))))) := by simpa using c25))
          clear c25
          obtain rfl := Option.some.inj H
          go_enter Tryd.func46, Tryd.ntmps46
          go_wp2_with (first | ((with_reducible refine gate_dst (N := 1) rfl ?_); (try (refine gate_guard (by rfl) ?_; dsimp only)); refine box_event ?hg (N := 1) ?hd (cs := #[.int .i64 a0_0, .int .i64 a0_1, .int .i64 a0_2, .int .i64 a0_3, .int .i64 a0_4, .int .i64 a0_5, .int .i64 a0_6, .int .i64 a0_7, .int .i64 a0_8]) (t := 41) ?hr ?_; (case hd => rfl); (case hg => rfl); (case hr => first | (go_simp; done) | (go_simp; rfl)); intro gb273 hg w42 hbox hb; have n0_ := Aside0.mk (below_step (by repeat (first | (with_reducible first | exact HB.out | apply below_alloc | apply pw_below_drewN | apply below_drew1) | exact HB.out)) hb); have n1_ := Aside0.mk (hbox); have n2_ := Aside0.mk ((by rw [hg]; exact (below_size (by repeat (first | (with_reducible first | exact HB.out | apply below_alloc | apply pw_below_drewN | apply below_drew1) | exact HB.out))) : w.heap.size ≤ gb273)); have n3_ := Aside0.mk ((by rw [hg]; exact (below_size (by repeat (first | (with_reducible first | exact HB.out | apply below_alloc | apply pw_below_drewN | apply below_drew1) | exact HB.out))) : w.heap.size ≤ gb273)); clear HB; have HB := n0_; have BK273 := n1_; have GW273 := n2_; have GE273 := n3_; clear n0_ n1_ n2_ n3_; clear hb hbox hg; have hcz43_0 : w42.cell? ⟨gb273, 0, none⟩ = some (.int .i64 a0_0) := (blk_cell BK273.out 0).trans rfl; have hcz43_1 : w42.cell? ⟨gb273, 1, none⟩ = some (.int .i64 a0_1) := (blk_cell BK273.out 1).trans rfl; have hcz43_2 : w42.cell? ⟨gb273, 2, none⟩ = some (.int .i64 a0_2) := (blk_cell BK273.out 2).trans rfl; have hcz43_3 : w42.cell? ⟨gb273, 3, none⟩ = some (.int .i64 a0_3) := (blk_cell BK273.out 3).trans rfl; have hcz43_4 : w42.cell? ⟨gb273, 4, none⟩ = some (.int .i64 a0_4) := (blk_cell BK273.out 4).trans rfl; have hcz43_5 : w42.cell? ⟨gb273, 5, none⟩ = some (.int .i64 a0_5) := (blk_cell BK273.out 5).trans rfl; have hcz43_6 : w42.cell? ⟨gb273, 6, none⟩ = some (.int .i64 a0_6) := (blk_cell BK273.out 6).trans rfl; have hcz43_7 : w42.cell? ⟨gb273, 7, none⟩ = some (.int .i64 a0_7) := (blk_cell BK273.out 7).trans rfl; have hcz43_8 : w42.cell? ⟨gb273, 8, none⟩ = some (.int .i64 a0_8) := (blk_cell BK273.out 8).trans rfl; have hfz43_0 := blk_frozen BK273.out 0; have hfz43_1 := blk_frozen BK273.out 1; have hfz43_2 := blk_frozen BK273.out 2; have hfz43_3 := blk_frozen BK273.out 3; have hfz43_4 := blk_frozen BK273.out 4; have hfz43_5 := blk_frozen BK273.out 5; have hfz43_6 := blk_frozen BK273.out 6; have hfz43_7 := blk_frozen BK273.out 7; have hfz43_8 := blk_frozen BK273.out 8))
          go_ret
          exact ⟨by first | rfl | (simp [errW_none, errW_some] <;> rfl) | (simp [*, errW_none, errW_some] <;> rfl), by repeat (first | (with_reducible first | exact HB.out | apply below_alloc | apply pw_below_drewN | apply below_drew1 | refine below_set ?_ GE273.out) | exact HB.out)⟩
      · rw [if_neg c24] at H
        have c24b0 : (a0_0 == 3) = false := beq_eq_false_iff_ne.mpr c24
        have c24b1 : (a0_0 != 3) = true := bne_iff_ne.mpr c24
        obtain rfl := Option.some.inj H
        go_enter Tryd.func46, Tryd.ntmps46
        go_wp2_with (first | ((with_reducible refine gate_dst (N := 1) rfl ?_); (try (refine gate_guard (by rfl) ?_; dsimp only)); refine box_event ?hg (N := 1) ?hd (cs := #[.int .i64 a0_0, .int .i64 a0_1, .int .i64 a0_2, .int .i64 a0_3, .int .i64 a0_4, .int .i64 a0_5, .int .i64 a0_6, .int .i64 a0_7, .int .i64 a0_8]) (t := 41) ?hr ?_; (case hd => rfl); (case hg => rfl); (case hr => first | (go_simp; done) | (go_simp; rfl)); intro gb273 hg w44 hbox hb; have n0_ := Aside0.mk (below_step (by repeat (first | (with_reducible first | exact HB.out | apply below_alloc | apply pw_below_drewN | apply below_drew1) | exact HB.out)) hb); have n1_ := Aside0.mk (hbox); have n2_ := Aside0.mk ((by rw [hg]; exact (below_size (by repeat (first | (with_reducible first | exact HB.out | apply below_alloc | apply pw_below_drewN | apply below_drew1) | exact HB.out))) : w.heap.size ≤ gb273)); have n3_ := Aside0.mk ((by rw [hg]; exact (below_size (by repeat (first | (with_reducible first | exact HB.out | apply below_alloc | apply pw_below_drewN | apply below_drew1) | exact HB.out))) : w.heap.size ≤ gb273)); clear HB; have HB := n0_; have BK273 := n1_; have GW273 := n2_; have GE273 := n3_; clear n0_ n1_ n2_ n3_; clear hb hbox hg; have hcz45_0 : w44.cell? ⟨gb273, 0, none⟩ = some (.int .i64 a0_0) := (blk_cell BK273.out 0).trans rfl; have hcz45_1 : w44.cell? ⟨gb273, 1, none⟩ = some (.int .i64 a0_1) := (blk_cell BK273.out 1).trans rfl; have hcz45_2 : w44.cell? ⟨gb273, 2, none⟩ = some (.int .i64 a0_2) := (blk_cell BK273.out 2).trans rfl; have hcz45_3 : w44.cell? ⟨gb273, 3, none⟩ = some (.int .i64 a0_3) := (blk_cell BK273.out 3).trans rfl; have hcz45_4 : w44.cell? ⟨gb273, 4, none⟩ = some (.int .i64 a0_4) := (blk_cell BK273.out 4).trans rfl; have hcz45_5 : w44.cell? ⟨gb273, 5, none⟩ = some (.int .i64 a0_5) := (blk_cell BK273.out 5).trans rfl; have hcz45_6 : w44.cell? ⟨gb273, 6, none⟩ = some (.int .i64 a0_6) := (blk_cell BK273.out 6).trans rfl; have hcz45_7 : w44.cell? ⟨gb273, 7, none⟩ = some (.int .i64 a0_7) := (blk_cell BK273.out 7).trans rfl; have hcz45_8 : w44.cell? ⟨gb273, 8, none⟩ = some (.int .i64 a0_8) := (blk_cell BK273.out 8).trans rfl; have hfz45_0 := blk_frozen BK273.out 0; have hfz45_1 := blk_frozen BK273.out 1; have hfz45_2 := blk_frozen BK273.out 2; have hfz45_3 := blk_frozen BK273.out 3; have hfz45_4 := blk_frozen BK273.out 4; have hfz45_5 := blk_frozen BK273.out 5; have hfz45_6 := blk_frozen BK273.out 6; have hfz45_7 := blk_frozen BK273.out 7; have hfz45_8 := blk_frozen BK273.out 8))
        go_ret
        exact ⟨by first | rfl | (simp [errW_none, errW_some] <;> rfl) | (simp [*, errW_none, errW_some] <;> rfl), by repeat (first | (with_reducible first | exact HB.out | apply below_alloc | apply pw_below_drewN | apply below_drew1 | refine below_set ?_ GE273.out) | exact HB.out)⟩

end Go.Proofs.YtkbklocfdoofeaaDoor.Q

/- What a deed must be, as both programs ask it. -/
namespace Go.Proofs.YtkbklocfdoofeaaDoor.PuVD
open Go.RowKit Go.Proofs.YtkbklocfdoofeaaDoorW.PrintWords Go.Proofs.YtkbklocfdoofeaaDoor.Q

theorem l00In_eq (a b c : Int) : spec_l00In.f a b c = some (decide (b ≤ a) && decide (a ≤ c)) := by
  unfold spec_l00In.f; split <;> simp_all <;> (intros; omega)
theorem within_eq (a b c : Int) : impl_within.f a b c = some (decide (b ≤ a) && decide (a ≤ c)) := by
  unfold impl_within.f; split <;> simp_all <;> (intros; omega)
theorem ite_and (a b : Bool) : (if a = true then some b else some false) = some (a && b) := by cases a <;> simp
theorem turn_eq (a b : Int) : spec_l02Turn.f a b = some (decide (-12 ≤ a) && decide (a ≤ 12) && (decide (-12 ≤ b) && decide (b ≤ 12))) := by
  simp only [spec_l02Turn.f, l00In_eq, Option.bind_some, ite_and]
theorem turn2_eq (a b : Int) : impl_isTurn.f a b = some (decide (-12 ≤ a) && decide (a ≤ 12) && (decide (-12 ≤ b) && decide (b ≤ 12))) := by
  simp [impl_isTurn.f, impl_areWithin.f, Ha.areIn, Ha.inB]
theorem bound_eq (a : Int) : spec_l06Bound.f a = some (decide (0 ≤ a) && decide (a ≤ 1000000)) := by
  simp only [spec_l06Bound.f, l00In_eq, Option.bind_some]
theorem litres_eq (a : Int) : spec_l07Litres.f a = some (decide (0 ≤ a) && decide (a ≤ 100000)) := by
  simp only [spec_l07Litres.f, l00In_eq, Option.bind_some]
theorem ring_eq (a b : Int) : spec_l03Is.f a b = some (decide (0 ≤ a) && decide (a ≤ 1) && (decide (0 ≤ b) && decide (b ≤ 15))) := by
  simp only [spec_l03Is.f, l00In_eq, Option.bind_some, ite_and]
theorem ring2_eq (a b : Int) : impl_ValidRing.f a b = some (decide (0 ≤ a) && decide (a ≤ 1) && (decide (0 ≤ b) && decide (b ≤ 15))) := by
  simp only [impl_ValidRing.f, within_eq, Option.bind_some, ite_and]
theorem are_eq (a b : Int) : impl_areWithin.f [a, b] 0 100000 = some (decide (0 ≤ a) && decide (a ≤ 100000) && (decide (0 ≤ b) && decide (b ≤ 100000))) := by
  simp [impl_areWithin.f, Ha.areIn, Ha.inB]

/-- a deed is as its kind asks. -/
def deedB (x0 x1 x2 x3 x4 x5 x6 x7 x8 : Int) : Bool :=
  if x0 = 1 then (decide (-12 ≤ x1) && decide (x1 ≤ 12) && (decide (-12 ≤ x2) && decide (x2 ≤ 12))) && (decide (0 ≤ x3) && decide (x3 ≤ 1000000)) && (x4 == 0 && x5 == 0) && (x6 == 0 && x7 == 0 && x8 == 0)
  else if x0 = 2 then (x1 == 0 && x2 == 0 && x3 == 0) && (decide (0 ≤ x4) && decide (x4 ≤ 1) && (decide (0 ≤ x5) && decide (x5 ≤ 15))) && (x6 == 0 && x7 == 0 && x8 == 0)
  else if x0 = 3 then (x1 == 0 && x2 == 0 && x3 == 0) && (x4 == 0 && x5 == 0) && (decide (0 ≤ x6) && decide (x6 ≤ 100000)) && (decide (0 ≤ x7) && decide (x7 ≤ 100000)) && (decide (0 ≤ x8) && decide (x8 ≤ 100))
  else false

theorem j1_eq (k : Nat) (a b : Bool) (x0 x1 x2 x3 x4 x5 x6 x7 x8 : Int) (ha : a = !(x1 == 0 && x2 == 0 && x3 == 0)) (hb : b = !(x6 == 0 && x7 == 0 && x8 == 0)) :
    spec_l11Deed.j1 (k + 1) a b x0 x1 x2 x3 x4 x5 x6 x7 x8 = some (deedB x0 x1 x2 x3 x4 x5 x6 x7 x8, x0, x1, x2, x3, x4, x5, x6, x7, x8) := by
  simp only [spec_l11Deed.j1, turn_eq, bound_eq, litres_eq, ring_eq, l00In_eq, Option.bind_some, deedB]
  by_cases h1 : x0 = 1
  · simp only [h1, if_true, if_false]
    cases hA : (decide (-12 ≤ x1) && decide (x1 ≤ 12) && (decide (-12 ≤ x2) && decide (x2 ≤ 12))) <;> cases hB : (decide (0 ≤ x3) && decide (x3 ≤ 1000000)) <;> cases hC : (x4 == 0 && x5 == 0) <;> simp [hb]
  · by_cases h2 : x0 = 2
    · subst h2
      simp only [h1, if_true, if_false]
      cases hA : (x1 == 0 && x2 == 0 && x3 == 0) <;> simp [ha, hA, hb] <;> (cases hB : (decide (0 ≤ x4) && decide (x4 ≤ 1) && (decide (0 ≤ x5) && decide (x5 ≤ 15))) <;> simp_all <;> (intros; omega))
    · by_cases h3 : x0 = 3
      · subst h3
        simp only [h1, h2, if_true, if_false]
        cases hA : (x1 == 0 && x2 == 0 && x3 == 0) <;> simp [ha, hA]
        cases hB : (x4 == 0 && x5 == 0) <;> cases hC : (decide (0 ≤ x6) && decide (x6 ≤ 100000)) <;> cases hD : (decide (0 ≤ x7) && decide (x7 ≤ 100000)) <;> simp_all <;> (intros; omega)
      · simp [h1, h2, h3]

theorem deed_two (x0 x1 x2 x3 x4 x5 x6 x7 x8 : Int) : spec_l11Deed.f 2 x0 x1 x2 x3 x4 x5 x6 x7 x8 = some (deedB x0 x1 x2 x3 x4 x5 x6 x7 x8, x0, x1, x2, x3, x4, x5, x6, x7, x8) := by
  have h0 : ∀ a : Bool, a = !(x1 == 0 && x2 == 0 && x3 == 0) → spec_l11Deed.j0 2 a x0 x1 x2 x3 x4 x5 x6 x7 x8 = some (deedB x0 x1 x2 x3 x4 x5 x6 x7 x8, x0, x1, x2, x3, x4, x5, x6, x7, x8) := by
    intro a ha
    simp only [spec_l11Deed.j0]
    by_cases h6 : x6 = 0
    · by_cases h7 : x7 = 0
      · rw [if_pos h6, if_pos h7]; exact j1_eq 0 _ _ _ _ _ _ _ _ _ _ _ ha (by simp [h6, h7]; rfl)
      · rw [if_pos h6, if_neg h7]; exact j1_eq 0 _ _ _ _ _ _ _ _ _ _ _ ha (by simp [h7])
    · rw [if_neg h6]; exact j1_eq 0 _ _ _ _ _ _ _ _ _ _ _ ha (by simp [h6])
  have : spec_l11Deed.f 2 x0 x1 x2 x3 x4 x5 x6 x7 x8 = some (deedB x0 x1 x2 x3 x4 x5 x6 x7 x8, x0, x1, x2, x3, x4, x5, x6, x7, x8) := by
    simp only [spec_l11Deed.f]
    by_cases h6 : x1 = 0
    · by_cases h7 : x2 = 0
      · rw [if_pos h6, if_pos h7]; exact h0 _ (by simp [h6, h7]; rfl)
      · rw [if_pos h6, if_neg h7]; exact h0 _ (by simp [h7])
    · rw [if_neg h6]; exact h0 _ (by simp [h6])
  exact this
theorem deed_any (x0 x1 x2 x3 x4 x5 x6 x7 x8 : Int) (k : Nat) (hk : 2 ≤ k) : spec_l11Deed.f k x0 x1 x2 x3 x4 x5 x6 x7 x8 = some (deedB x0 x1 x2 x3 x4 x5 x6 x7 x8, x0, x1, x2, x3, x4, x5, x6, x7, x8) := by
  obtain ⟨d, rfl⟩ := Nat.exists_eq_add_of_le hk
  clear hk
  induction d with
  | zero => exact deed_two _ _ _ _ _ _ _ _ _
  | succ d ih => exact spec_l11Deed.mono _ _ _ _ _ _ _ _ _ _ _ ih

theorem impl_eq (x0 x1 x2 x3 x4 x5 x6 x7 x8 : Int) : impl_ValidDeed.f x0 x1 x2 x3 x4 x5 x6 x7 x8 = some (deedB x0 x1 x2 x3 x4 x5 x6 x7 x8) := by
  simp only [impl_ValidDeed.f, turn2_eq, within_eq, ring2_eq, are_eq, Option.bind_some, ite_and, deedB]
  by_cases h1 : x0 = 1
  · simp [h1, Bool.and_comm, Bool.and_left_comm, Bool.and_assoc]
  · by_cases h2 : x0 = 2
    · simp [h2, Bool.and_comm, Bool.and_left_comm, Bool.and_assoc]
    · by_cases h3 : x0 = 3
      · simp [h3, Bool.and_comm, Bool.and_left_comm, Bool.and_assoc]
      · simp [h1, h2, h3]

end Go.Proofs.YtkbklocfdoofeaaDoor.PuVD

/- The text of a deed: what both programs put together. -/
namespace Go.Proofs.YtkbklocfdoofeaaDoor.PuDT
open Go.RowKit Go.Proofs.YtkbklocfdoofeaaDoorW.PrintWords Go.Proofs.YtkbklocfdoofeaaDoor.Q Go.Proofs.YtkbklocfdoofeaaDoor.PuD Go.Proofs.YtkbklocfdoofeaaDoor.PuVD

def ok64 (n : Int) : Prop := -9223372036854775808 ≤ n ∧ n ≤ 9223372036854775807
theorem wrap_id {x : Int} (h1 : -9223372036854775808 ≤ x) (h2 : x ≤ 9223372036854775807) : wrap64 x = x := by unfold wrap64; omega
theorem decimal_eq (n : Int) (h : ok64 n) : impl_Decimal.f n = some (txt (Lib.itoa n)) := by unfold impl_Decimal.f; rw [if_pos (show _ ∧ _ from h)]; rfl

def threeT (a b c : Int) : List UInt8 := Lib.itoa a ++ [32] ++ Lib.itoa b ++ [32] ++ Lib.itoa c
def ringT (kind key : Int) : List UInt8 := (if kind = 0 then [115] else [116]) ++ Lib.itoa key
def deedT (x0 x1 x2 x3 x4 x5 x6 x7 x8 : Int) : List UInt8 :=
  if x0 = 1 then [112, 117, 115, 104, 32] ++ threeT x1 x2 x3 else if x0 = 2 then [98, 117, 105, 108, 100, 32] ++ ringT x4 x5 else [103, 114, 111, 117, 116, 32] ++ threeT x6 x7 x8

theorem three_len (a b c : Int) (ha : ok64 a) (hb : ok64 b) (hc : ok64 c) : (threeT a b c).length ≤ 62 := by
  have := itoa_len a ha.1 ha.2; have := itoa_len b hb.1 hb.2; have := itoa_len c hc.1 hc.2
  simp only [threeT, List.length_append, List.length_singleton]; omega

theorem implThree_eq (a b c : Int) (ha : ok64 a) (hb : ok64 b) (hc : ok64 c) (k : Nat) (hk : 4 ≤ k) : impl_decimals.f k [a, b, c] (⟨#[32]⟩ : ByteArray) = some (txt (threeT a b c)) := by
  have h1 := itoa_len a ha.1 ha.2; have h2 := itoa_len b hb.1 hb.2; have h3 := itoa_len c hc.1 hc.2
  obtain ⟨k, rfl⟩ : ∃ m, k = m + 1 + 1 + 1 + 1 := ⟨k - 4, by omega⟩
  have w0 : wrap64 ((0 : Int) + 1) = 1 := by unfold wrap64; omega
  have w1 : wrap64 ((1 : Int) + 1) = 2 := by unfold wrap64; omega
  have w2 : wrap64 ((2 : Int) + 1) = 3 := by unfold wrap64; omega
  have hj : Lib.join ([txt (Lib.itoa a), txt (Lib.itoa b), txt (Lib.itoa c)].map (·.data.toList)) [32] = threeT a b c := by
    simp [Lib.join, List.intercalate, List.intersperse, threeT, txt]
  have hl : (threeT a b c).length ≤ 62 := three_len a b c ha hb hc
  simp only [impl_decimals.f, impl_decimals.l0, List.length_cons, List.length_nil, w0, w1, w2]
  simp only [rd, show ((0 : Int)).toNat = 0 from rfl, show ((1 : Int)).toNat = 1 from rfl, show ((2 : Int)).toNat = 2 from rfl, List.getD_cons_zero, List.getD_cons_succ, decimal_eq _ ha, decimal_eq _ hb, decimal_eq _ hc, Option.bind_some, List.nil_append, List.cons_append, List.length_append, List.length_cons, List.length_nil]
  repeat rw [if_pos (by decide)]
  rw [if_neg (by decide), strings_Join.f]
  rw [show (⟨#[32]⟩ : ByteArray).data.toList = [32] from rfl, hj, if_pos ⟨by omega, by simp⟩]
  rfl

theorem implRing_eq (kind key : Int) (hk : kind = 0 ∨ kind = 1) (hk2 : ok64 key) : impl_ringText.f kind key = some (txt (ringT kind key)) := by
  have := itoa_len key hk2.1 hk2.2
  rcases hk with rfl | rfl
  · simp only [impl_ringText.f, decimal_eq _ hk2, Option.bind_some, show wrap64 ((0 : Int) + 1) = 1 by unfold wrap64; omega]
    rw [if_pos (by decide), if_pos (by decide), if_pos (by decide)]
    rw [show (⟨#[115, 116]⟩ : ByteArray).extract (0 : Int).toNat (1 : Int).toNat = txt [115] from rfl, txt_size, txt_size, txt_append, if_pos (by simp; omega)]
    rfl
  · simp only [impl_ringText.f, decimal_eq _ hk2, Option.bind_some, show wrap64 ((1 : Int) + 1) = 2 by unfold wrap64; omega]
    rw [if_pos (by decide), if_pos (by decide), if_pos (by decide)]
    rw [show (⟨#[115, 116]⟩ : ByteArray).extract (1 : Int).toNat (2 : Int).toNat = txt [116] from rfl, txt_size, txt_size, txt_append, if_pos (by simp; omega)]
    rfl

theorem deed_facts {x0 x1 x2 x3 x4 x5 x6 x7 x8 : Int} (h : deedB x0 x1 x2 x3 x4 x5 x6 x7 x8 = true) : ok64 x1 ∧ ok64 x2 ∧ ok64 x3 ∧ ok64 x5 ∧ ok64 x6 ∧ ok64 x7 ∧ ok64 x8 ∧ (x0 = 2 → x4 = 0 ∨ x4 = 1) := by
  unfold deedB at h
  split at h
  · simp only [Bool.and_eq_true, decide_eq_true_eq, beq_iff_eq] at h
    refine ⟨⟨?_, ?_⟩, ⟨?_, ?_⟩, ⟨?_, ?_⟩, ⟨?_, ?_⟩, ⟨?_, ?_⟩, ⟨?_, ?_⟩, ⟨?_, ?_⟩, ?_⟩ <;> omega
  · split at h
    · simp only [Bool.and_eq_true, decide_eq_true_eq, beq_iff_eq] at h
      refine ⟨⟨?_, ?_⟩, ⟨?_, ?_⟩, ⟨?_, ?_⟩, ⟨?_, ?_⟩, ⟨?_, ?_⟩, ⟨?_, ?_⟩, ⟨?_, ?_⟩, ?_⟩ <;> omega
    · split at h
      · simp only [Bool.and_eq_true, decide_eq_true_eq, beq_iff_eq] at h
        refine ⟨⟨?_, ?_⟩, ⟨?_, ?_⟩, ⟨?_, ?_⟩, ⟨?_, ?_⟩, ⟨?_, ?_⟩, ⟨?_, ?_⟩, ⟨?_, ?_⟩, ?_⟩ <;> omega
      · cases h

theorem ring_len (a b : Int) (hb : ok64 b) : (ringT a b).length ≤ 21 := by
  have := itoa_len b hb.1 hb.2
  unfold ringT; split <;> simp <;> omega

theorem deedT_len {x0 x1 x2 x3 x4 x5 x6 x7 x8 : Int} (h : deedB x0 x1 x2 x3 x4 x5 x6 x7 x8 = true) : (deedT x0 x1 x2 x3 x4 x5 x6 x7 x8).length ≤ 70 := by
  obtain ⟨h1, h2, h3, h5, h6, h7, h8, h4⟩ := deed_facts h
  have := three_len x1 x2 x3 h1 h2 h3; have := three_len x6 x7 x8 h6 h7 h8; have := ring_len x4 x5 h5
  unfold deedT
  split
  · simp only [List.length_append, List.length_cons, List.length_nil]; omega
  · split <;> simp only [List.length_append, List.length_cons, List.length_nil] <;> omega

theorem implDeedT {x0 x1 x2 x3 x4 x5 x6 x7 x8 : Int} (h : deedB x0 x1 x2 x3 x4 x5 x6 x7 x8 = true) (k : Nat) (hk : 4 ≤ k) : impl_deedText.f k x0 x1 x2 x3 x4 x5 x6 x7 x8 = some (txt (deedT x0 x1 x2 x3 x4 x5 x6 x7 x8)) := by
  obtain ⟨h1, h2, h3, h5, h6, h7, h8, h4⟩ := deed_facts h
  have hr := ring_len x4 x5 h5; have ht := three_len x1 x2 x3 h1 h2 h3; have ht2 := three_len x6 x7 x8 h6 h7 h8
  unfold impl_deedText.f deedT
  by_cases e1 : x0 = 1
  · rw [if_pos e1, if_pos e1, implThree_eq _ _ _ h1 h2 h3 k hk, Option.bind_some, txt_size, if_pos (by omega), show (⟨#[112, 117, 115, 104, 32]⟩ : ByteArray) = txt [112, 117, 115, 104, 32] from rfl, txt_append]
  · rw [if_neg e1, if_neg e1]
    by_cases e2 : x0 = 2
    · rw [if_pos e2, if_pos e2, implRing_eq _ _ (h4 e2) h5, Option.bind_some, txt_size, if_pos (by omega), show (⟨#[98, 117, 105, 108, 100, 32]⟩ : ByteArray) = txt [98, 117, 105, 108, 100, 32] from rfl, txt_append]
    · rw [if_neg e2, if_neg e2, implThree_eq _ _ _ h6 h7 h8 k hk, Option.bind_some, txt_size, if_pos (by omega), show (⟨#[103, 114, 111, 117, 116, 32]⟩ : ByteArray) = txt [103, 114, 111, 117, 116, 32] from rfl, txt_append]
end Go.Proofs.YtkbklocfdoofeaaDoor.PuDT

/- A deed that is put together in a variable of its own, beside the variable of the result. -/
namespace Go.Proofs.YtkbklocfdoofeaaDoor.Ni
open Go.RowKit Go.Proofs.YtkbklocfdoofeaaDoorW.PrintWords Go.Proofs.YtkbklocfdoofeaaDoorW.PrintLast Go.Proofs.YtkbklocfdoofeaaDoorW.PrintMore Go.Proofs.YtkbklocfdoofeaaDoor.Q Go.Proofs.YtkbklocfdoofeaaDoor.Ha Go.Proofs.YtkbklocfdoofeaaDoor.PuVD

abbrev Nine := Int × Int × Int × Int × Int × Int × Int × Int × Int
abbrev n0 : Nine := (0, 0, 0, 0, 0, 0, 0, 0, 0)
abbrev cellsN (x : Nine) : Array Value := #[.int .i64 x.1, .int .i64 x.2.1, .int .i64 x.2.2.1, .int .i64 x.2.2.2.1, .int .i64 x.2.2.2.2.1, .int .i64 x.2.2.2.2.2.1, .int .i64 x.2.2.2.2.2.2.1, .int .i64 x.2.2.2.2.2.2.2.1, .int .i64 x.2.2.2.2.2.2.2.2]
def deedN (x : Nine) : Bool := deedB x.1 x.2.1 x.2.2.1 x.2.2.2.1 x.2.2.2.2.1 x.2.2.2.2.2.1 x.2.2.2.2.2.2.1 x.2.2.2.2.2.2.2.1 x.2.2.2.2.2.2.2.2
abbrev blkN (x : Nine) : Obj := .cells (cellsN x) 41 (0, 0)
abbrev set9 (W : World) (g : Nat) (y : Nine) : World := ((((((((W.setCell ⟨g, 0, none⟩ (.int .i64 y.1)).setCell ⟨g, 1, none⟩ (.int .i64 y.2.1)).setCell ⟨g, 2, none⟩ (.int .i64 y.2.2.1)).setCell ⟨g, 3, none⟩ (.int .i64 y.2.2.2.1)).setCell ⟨g, 4, none⟩ (.int .i64 y.2.2.2.2.1)).setCell ⟨g, 5, none⟩ (.int .i64 y.2.2.2.2.2.1)).setCell ⟨g, 6, none⟩ (.int .i64 y.2.2.2.2.2.2.1)).setCell ⟨g, 7, none⟩ (.int .i64 y.2.2.2.2.2.2.2.1)).setCell ⟨g, 8, none⟩ (.int .i64 y.2.2.2.2.2.2.2.2)
theorem put9 {W : World} {g : Nat} {x : Nine} (y : Nine) (h : W.heap[g]? = some (blkN x)) : (set9 W g y).heap[g]? = some (blkN y) := by
  have h0 := blk_put (cs' := #[.int .i64 y.1, .int .i64 x.2.1, .int .i64 x.2.2.1, .int .i64 x.2.2.2.1, .int .i64 x.2.2.2.2.1, .int .i64 x.2.2.2.2.2.1, .int .i64 x.2.2.2.2.2.2.1, .int .i64 x.2.2.2.2.2.2.2.1, .int .i64 x.2.2.2.2.2.2.2.2]) h 0 (.int .i64 y.1) rfl
  have h1 := blk_put (cs' := #[.int .i64 y.1, .int .i64 y.2.1, .int .i64 x.2.2.1, .int .i64 x.2.2.2.1, .int .i64 x.2.2.2.2.1, .int .i64 x.2.2.2.2.2.1, .int .i64 x.2.2.2.2.2.2.1, .int .i64 x.2.2.2.2.2.2.2.1, .int .i64 x.2.2.2.2.2.2.2.2]) h0 1 (.int .i64 y.2.1) rfl
  have h2 := blk_put (cs' := #[.int .i64 y.1, .int .i64 y.2.1, .int .i64 y.2.2.1, .int .i64 x.2.2.2.1, .int .i64 x.2.2.2.2.1, .int .i64 x.2.2.2.2.2.1, .int .i64 x.2.2.2.2.2.2.1, .int .i64 x.2.2.2.2.2.2.2.1, .int .i64 x.2.2.2.2.2.2.2.2]) h1 2 (.int .i64 y.2.2.1) rfl
  have h3 := blk_put (cs' := #[.int .i64 y.1, .int .i64 y.2.1, .int .i64 y.2.2.1, .int .i64 y.2.2.2.1, .int .i64 x.2.2.2.2.1, .int .i64 x.2.2.2.2.2.1, .int .i64 x.2.2.2.2.2.2.1, .int .i64 x.2.2.2.2.2.2.2.1, .int .i64 x.2.2.2.2.2.2.2.2]) h2 3 (.int .i64 y.2.2.2.1) rfl
  have h4 := blk_put (cs' := #[.int .i64 y.1, .int .i64 y.2.1, .int .i64 y.2.2.1, .int .i64 y.2.2.2.1, .int .i64 y.2.2.2.2.1, .int .i64 x.2.2.2.2.2.1, .int .i64 x.2.2.2.2.2.2.1, .int .i64 x.2.2.2.2.2.2.2.1, .int .i64 x.2.2.2.2.2.2.2.2]) h3 4 (.int .i64 y.2.2.2.2.1) rfl
  have h5 := blk_put (cs' := #[.int .i64 y.1, .int .i64 y.2.1, .int .i64 y.2.2.1, .int .i64 y.2.2.2.1, .int .i64 y.2.2.2.2.1, .int .i64 y.2.2.2.2.2.1, .int .i64 x.2.2.2.2.2.2.1, .int .i64 x.2.2.2.2.2.2.2.1, .int .i64 x.2.2.2.2.2.2.2.2]) h4 5 (.int .i64 y.2.2.2.2.2.1) rfl
  have h6 := blk_put (cs' := #[.int .i64 y.1, .int .i64 y.2.1, .int .i64 y.2.2.1, .int .i64 y.2.2.2.1, .int .i64 y.2.2.2.2.1, .int .i64 y.2.2.2.2.2.1, .int .i64 y.2.2.2.2.2.2.1, .int .i64 x.2.2.2.2.2.2.2.1, .int .i64 x.2.2.2.2.2.2.2.2]) h5 6 (.int .i64 y.2.2.2.2.2.2.1) rfl
  have h7 := blk_put (cs' := #[.int .i64 y.1, .int .i64 y.2.1, .int .i64 y.2.2.1, .int .i64 y.2.2.2.1, .int .i64 y.2.2.2.2.1, .int .i64 y.2.2.2.2.2.1, .int .i64 y.2.2.2.2.2.2.1, .int .i64 y.2.2.2.2.2.2.2.1, .int .i64 x.2.2.2.2.2.2.2.2]) h6 7 (.int .i64 y.2.2.2.2.2.2.2.1) rfl
  have h8 := blk_put (cs' := #[.int .i64 y.1, .int .i64 y.2.1, .int .i64 y.2.2.1, .int .i64 y.2.2.2.1, .int .i64 y.2.2.2.2.1, .int .i64 y.2.2.2.2.2.1, .int .i64 y.2.2.2.2.2.2.1, .int .i64 y.2.2.2.2.2.2.2.1, .int .i64 y.2.2.2.2.2.2.2.2]) h7 8 (.int .i64 y.2.2.2.2.2.2.2.2) rfl
  exact h8
theorem far9 {W : World} {g g0 : Nat} {x : Nine} (y : Nine) (hne : g0 ≠ g) (h : W.heap[g0]? = some (blkN x)) : (set9 W g y).heap[g0]? = some (blkN x) :=
  blk_far (blk_far (blk_far (blk_far (blk_far (blk_far (blk_far (blk_far (blk_far h hne _) hne _) hne _) hne _) hne _) hne _) hne _) hne _) hne _
theorem below9 {w W : World} {g : Nat} (y : Nine) (h : Below w.heap.size w W) (hg : w.heap.size ≤ g) : Below w.heap.size w (set9 W g y) :=
  below_set (below_set (below_set (below_set (below_set (below_set (below_set (below_set (below_set h hg) hg) hg) hg) hg) hg) hg) hg) hg

theorem set9_cell {W : World} {g : Nat} {a : Addr} {v : Value} (y : Nine) (hne : (a.block = g) = False) (h : W.cell? a = some v) : (set9 W g y).cell? a = some v := by
  have hn : a.block ≠ g := of_eq_false hne
  have e : (set9 W g y).heap[a.block]? = W.heap[a.block]? :=
    (Below.heap_setCell _ _ _ _ hn).trans ((Below.heap_setCell _ _ _ _ hn).trans ((Below.heap_setCell _ _ _ _ hn).trans ((Below.heap_setCell _ _ _ _ hn).trans ((Below.heap_setCell _ _ _ _ hn).trans ((Below.heap_setCell _ _ _ _ hn).trans ((Below.heap_setCell _ _ _ _ hn).trans ((Below.heap_setCell _ _ _ _ hn).trans (Below.heap_setCell _ _ _ _ hn))))))))
  exact (World.cell?_of_block (w := W) e).trans h
/-- The result's variable (block g0) holds z, the deed's own (block g) holds x. -/
structure St (w : World) (g0 g : Nat) (z x : Nine) (W : World) : Prop where
  bel : Below w.heap.size w W
  l0 : w.heap.size ≤ g0
  lt : g0 < g
  r : W.heap[g0]? = some (blkN z)
  d : W.heap[g]? = some (blkN x)
theorem St.step {w : World} {g0 g : Nat} {z x : Nine} {W W1 : World} (h : St w g0 g z x W) (hb : Below W.heap.size W W1) : St w g0 g z x W1 :=
  ⟨below_step h.bel hb, h.l0, h.lt, blk_below h.r hb, blk_below h.d hb⟩
theorem St.alloc {w : World} {g0 g : Nat} {z x : Nine} {W : World} (h : St w g0 g z x W) (o : Obj) : St w g0 g z x (W.alloc o) := h.step (below_alloc (Below.refl _ _) o)
theorem St.drewN {w : World} {g0 g : Nat} {z x : Nine} {W : World} (h : St w g0 g z x W) (n : Nat) : St w g0 g z x (W.drewN n) := h.step (pw_below_drewN (Below.refl _ _) n)
theorem St.drew {w : World} {g0 g : Nat} {z x : Nine} {W : World} (h : St w g0 g z x W) : St w g0 g z x W.drew := h.step (below_drew1 (Below.refl _ _))
theorem St.put {w : World} {g0 g : Nat} {z x : Nine} {W : World} (h : St w g0 g z x W) (y : Nine) : St w g0 g z y (set9 W g y) :=
  ⟨below9 y h.bel (Nat.le_trans h.l0 (Nat.le_of_lt h.lt)), h.l0, h.lt, far9 y (Nat.ne_of_lt h.lt) h.r, put9 y h.d⟩
theorem St.putR {w : World} {g0 g : Nat} {z x : Nine} {W : World} (h : St w g0 g z x W) (y : Nine) : St w g0 g y x (set9 W g0 y) :=
  ⟨below9 y h.bel h.l0, h.l0, h.lt, put9 y h.r, far9 y (Nat.ne_of_gt h.lt) h.d⟩
theorem cells9 {g : Nat} {x : Nine} {W : World} (h : W.heap[g]? = some (blkN x)) : W.cell? ⟨g, 0, none⟩ = some (.int .i64 x.1) ∧ W.cell? ⟨g, 1, none⟩ = some (.int .i64 x.2.1) ∧ W.cell? ⟨g, 2, none⟩ = some (.int .i64 x.2.2.1) ∧ W.cell? ⟨g, 3, none⟩ = some (.int .i64 x.2.2.2.1) ∧ W.cell? ⟨g, 4, none⟩ = some (.int .i64 x.2.2.2.2.1) ∧ W.cell? ⟨g, 5, none⟩ = some (.int .i64 x.2.2.2.2.2.1) ∧ W.cell? ⟨g, 6, none⟩ = some (.int .i64 x.2.2.2.2.2.2.1) ∧ W.cell? ⟨g, 7, none⟩ = some (.int .i64 x.2.2.2.2.2.2.2.1) ∧ W.cell? ⟨g, 8, none⟩ = some (.int .i64 x.2.2.2.2.2.2.2.2) :=
  ⟨(blk_cell h 0).trans rfl, (blk_cell h 1).trans rfl, (blk_cell h 2).trans rfl, (blk_cell h 3).trans rfl, (blk_cell h 4).trans rfl, (blk_cell h 5).trans rfl, (blk_cell h 6).trans rfl, (blk_cell h 7).trans rfl, (blk_cell h 8).trans rfl⟩
theorem frozen9 {g : Nat} {x : Nine} {W : World} (h : W.heap[g]? = some (blkN x)) : W.frozen? ⟨g, 0, none⟩ = false ∧ W.frozen? ⟨g, 1, none⟩ = false ∧ W.frozen? ⟨g, 2, none⟩ = false ∧ W.frozen? ⟨g, 3, none⟩ = false ∧ W.frozen? ⟨g, 4, none⟩ = false ∧ W.frozen? ⟨g, 5, none⟩ = false ∧ W.frozen? ⟨g, 6, none⟩ = false ∧ W.frozen? ⟨g, 7, none⟩ = false ∧ W.frozen? ⟨g, 8, none⟩ = false :=
  ⟨blk_frozen h 0, blk_frozen h 1, blk_frozen h 2, blk_frozen h 3, blk_frozen h 4, blk_frozen h 5, blk_frozen h 6, blk_frozen h 7, blk_frozen h 8⟩
/-- The reference's look at it. -/
theorem St.look {w : World} {g0 g : Nat} {z x : Nine} {W : World} (h : St w g0 g z x W) :
    Calls Tryd.prog 43 #[.pointer (some ⟨g, 0, none⟩)] W fun e W' => e = .returned (.bool (deedN x)) ∧ St w g0 g z x W' := by
  refine (spec_l11Deed.calls 2 g x.1 x.2.1 x.2.2.1 x.2.2.2.1 x.2.2.2.2.1 x.2.2.2.2.2.1 x.2.2.2.2.2.2.1 x.2.2.2.2.2.2.2.1 x.2.2.2.2.2.2.2.2 (deedN x) x.1 x.2.1 x.2.2.1 x.2.2.2.1 x.2.2.2.2.1 x.2.2.2.2.2.1 x.2.2.2.2.2.2.1 x.2.2.2.2.2.2.2.1 x.2.2.2.2.2.2.2.2 w W ⟨h.d, Nat.le_trans h.l0 (Nat.le_of_lt h.lt)⟩ h.bel (deed_any _ _ _ _ _ _ _ _ _ 2 (by omega))).mono ?_
  rintro e W' ⟨he, hI, hb, hk⟩
  exact ⟨he, hb, h.l0, h.lt, KeepBut.blk hk h.r (Nat.ne_of_lt h.lt) (by simp), hI.1⟩
/-- What is handed back of a deed that was put together: it, if it is valid. -/
def okN (x : Nine) : Nine × Bool := if deedN x = true then (x, true) else (n0, false)
def endN (x : Nine × Bool) : Ending := .returned (.tuple #[.agg (cellsN x.1), .bool x.2])
theorem endN_yes {x : Nine} (h : deedN x = true) : Ending.returned (.tuple #[.agg (cellsN x), .bool true]) = endN (okN x) := by simp [endN, okN, h]
theorem endN_no {x : Nine} (h : deedN x = false) : Ending.returned (.tuple #[.agg (cellsN n0), .bool false]) = endN (okN x) := by simp [endN, okN, h]
end Go.Proofs.YtkbklocfdoofeaaDoor.Ni

/- The reference's l11Read: the deed with a text. -/
namespace Go.Proofs.YtkbklocfdoofeaaDoor.Hr
open Go.RowKit Go.Proofs.YtkbklocfdoofeaaDoorW.PrintWords Go.Proofs.YtkbklocfdoofeaaDoorW.PrintLast Go.Proofs.YtkbklocfdoofeaaDoorW.PrintMore Go.Proofs.YtkbklocfdoofeaaDoor.Q Go.Proofs.YtkbklocfdoofeaaDoor.Ha Go.Proofs.YtkbklocfdoofeaaDoor.Sp Go.Proofs.YtkbklocfdoofeaaDoor.PuD Go.Proofs.YtkbklocfdoofeaaDoor.PuV Go.Proofs.YtkbklocfdoofeaaDoor.PuW Go.Proofs.YtkbklocfdoofeaaDoor.PuVD Go.Proofs.YtkbklocfdoofeaaDoor.PuDT Go.Proofs.YtkbklocfdoofeaaDoor.Ni

theorem cell_below {w w' : World} (hb : Below w.heap.size w w') {a : Addr} {v : Value} (hc : w.cell? a = some v) : w'.cell? a = some v := (hb.cell (World.block_lt_of_cell? w a hc)).trans hc
theorem two_cells {w : World} {A : Option Addr} {a b : List UInt8} (h : Kd.string.C w A [txt a, txt b].length [txt a, txt b]) : ∃ ad, A = some ad ∧ w.cell? ad = some (.string (txt a)) ∧ w.cell? ⟨ad.block, ad.off + 1, none⟩ = some (.string (txt b)) := by
  obtain ⟨ad, rfl, h0⟩ := Kd.at_string h 0 (by decide) (by simp)
  obtain ⟨ad', e, h1⟩ := Kd.at_string h 1 (by decide) (by simp)
  cases e
  refine ⟨ad, rfl, ?_, ?_⟩
  · simpa [rdOf, Addr.add] using h0
  · simpa [rdOf, Addr.add] using h1
theorem four_cells {w : World} {A : Option Addr} {a b c d : List UInt8} (h : Kd.string.C w A [txt a, txt b, txt c, txt d].length [txt a, txt b, txt c, txt d]) : ∃ ad, A = some ad ∧ w.cell? ad = some (.string (txt a)) ∧ w.cell? ⟨ad.block, ad.off + 1, none⟩ = some (.string (txt b)) ∧ w.cell? ⟨ad.block, ad.off + 2, none⟩ = some (.string (txt c)) ∧ w.cell? ⟨ad.block, ad.off + 3, none⟩ = some (.string (txt d)) := by
  obtain ⟨ad, rfl, h0⟩ := Kd.at_string h 0 (by decide) (by simp)
  obtain ⟨ad', e, h1⟩ := Kd.at_string h 1 (by decide) (by simp)
  cases e
  obtain ⟨ad', e, h2⟩ := Kd.at_string h 2 (by decide) (by simp)
  cases e
  obtain ⟨ad', e, h3⟩ := Kd.at_string h 3 (by decide) (by simp)
  cases e
  refine ⟨ad, rfl, ?_, ?_, ?_, ?_⟩
  · simpa [rdOf, Addr.add] using h0
  · simpa [rdOf, Addr.add] using h1
  · simpa [rdOf, Addr.add] using h2
  · simpa [rdOf, Addr.add] using h3

set_option maxRecDepth 100000 in
set_option maxHeartbeats 2000000 in
theorem read_other (l : List UInt8) (hl : l.length ≤ 4294967296) (h2 : (split1 32 l).length ≠ 2) (h4 : (split1 32 l).length ≠ 4) (w : World) :
    Calls Tryd.prog 60 #[.string (txt l)] w fun e w' => e = endN (okN n0) ∧ Below w.heap.size w w' := by
  have HW := Aside0.mk (words_eq l hl (l.length + 2) (by omega))
  have q2 : (((split1 32 l).length : Int) == 2) = false := by simpa using (show ¬ ((split1 32 l).length : Int) = 2 by omega)
  have q2' : decide (((split1 32 l).length : Int) = 2) = false := by simpa using (show ¬ ((split1 32 l).length : Int) = 2 by omega)
  have q4 : (((split1 32 l).length : Int) == 4) = false := by simpa using (show ¬ ((split1 32 l).length : Int) = 4 by omega)
  clear h2 h4
  have hu := Tryd.underlying41
  have hu2 := Tryd.underlying39
  cases hk : deedN n0
  · have HK := Aside0.mk hk
    clear hk
    go_enter Tryd.func60, Tryd.ntmps60
    go_wp2_with (first
      | (go_at_call 90; refine (spec_l11Words.calls _ _ _ _ HW.out).mono ?_; rintro e w1 ⟨v, rfl, hR, hb1⟩; obtain ⟨A, cA, rfl, hc, hC⟩ := Kd.R_reads hR; have HS := Aside0.mk (St.mk (g := w1.heap.size) (below_alloc (below_step (below_alloc (Below.refl _ _) _) hb1) _) (Nat.le_refl _) (Nat.lt_of_lt_of_le (by simp) hb1.size) (blk_alloc (blk_below (blk_new w (blkN n0)) hb1) _) (blk_new w1 (blkN n0))); clear hR hb1 hC)
      | (go_at_call 43; refine (HS.out.look).mono ?_; rintro e w9 ⟨rfl, hS2⟩; have HS2 := Aside0.mk hS2; obtain ⟨c0, c1, c2, c3, c4, c5, c6, c7, c8⟩ := cells9 hS2.r; obtain ⟨f0, f1, f2, f3, f4, f5, f6, f7, f8⟩ := frozen9 hS2.r; obtain ⟨d0, d1, d2, d3, d4, d5, d6, d7, d8⟩ := cells9 hS2.d; clear hS2; (try rw [HK.out])))
    refine bodyPost_ret (results_ct rfl _ _ w.heap.size 41 (cellsN n0) (0, 0) _ rfl (HS2.out.putR n0).r Tryd.underlying41 rfl (by kernel_rfl)) rfl ?_
    exact ⟨endN_no HK.out, (HS2.out.putR n0).bel⟩
  · have HK := Aside0.mk hk
    clear hk
    go_enter Tryd.func60, Tryd.ntmps60
    go_wp2_with (first
      | (go_at_call 90; refine (spec_l11Words.calls _ _ _ _ HW.out).mono ?_; rintro e w1 ⟨v, rfl, hR, hb1⟩; obtain ⟨A, cA, rfl, hc, hC⟩ := Kd.R_reads hR; have HS := Aside0.mk (St.mk (g := w1.heap.size) (below_alloc (below_step (below_alloc (Below.refl _ _) _) hb1) _) (Nat.le_refl _) (Nat.lt_of_lt_of_le (by simp) hb1.size) (blk_alloc (blk_below (blk_new w (blkN n0)) hb1) _) (blk_new w1 (blkN n0))); clear hR hb1 hC)
      | (go_at_call 43; refine (HS.out.look).mono ?_; rintro e w9 ⟨rfl, hS2⟩; have HS2 := Aside0.mk hS2; obtain ⟨c0, c1, c2, c3, c4, c5, c6, c7, c8⟩ := cells9 hS2.r; obtain ⟨f0, f1, f2, f3, f4, f5, f6, f7, f8⟩ := frozen9 hS2.r; obtain ⟨d0, d1, d2, d3, d4, d5, d6, d7, d8⟩ := cells9 hS2.d; clear hS2; (try rw [HK.out])))
    refine bodyPost_ret (results_ct rfl _ _ w.heap.size 41 (cellsN n0) (0, 0) _ rfl (HS2.out.putR n0).r Tryd.underlying41 rfl (by kernel_rfl)) rfl ?_
    exact ⟨endN_yes HK.out, (HS2.out.putR n0).bel⟩

set_option maxRecDepth 100000 in
set_option maxHeartbeats 2000000 in
theorem read_two_no (l : List UInt8) (hl : l.length ≤ 4294967296) (a b : List UInt8) (h2 : split1 32 l = [a, b]) (ha : a ≠ [98, 117, 105, 108, 100]) (w : World) :
    Calls Tryd.prog 60 #[.string (txt l)] w fun e w' => e = endN (okN n0) ∧ Below w.heap.size w w' := by
  have HW := Aside0.mk (show spec_l11Words.f (l.length + 2) (txt l) = some [txt a, txt b] by rw [words_eq l hl (l.length + 2) (by omega), h2]; rfl)
  have q0 : ((txt a).toList == [98, 117, 105, 108, 100]) = false := by rw [ByteArray.toList_eq]; exact beq_eq_false_iff_ne.2 ha
  clear h2 ha
  have hu := Tryd.underlying41
  have hu2 := Tryd.underlying39
  cases hk : deedN n0
  · have HK := Aside0.mk hk
    clear hk
    go_enter Tryd.func60, Tryd.ntmps60
    go_wp2_with (first
      | (go_at_call 90; refine (spec_l11Words.calls _ _ _ _ HW.out).mono ?_; rintro e w1 ⟨v, rfl, hR, hb1⟩; obtain ⟨A, cA, rfl, hc, hC⟩ := Kd.R_reads hR; obtain ⟨ad, rfl, hx0, hx1⟩ := two_cells hC; have hy0 := fun o => cell_below (below_alloc (Below.refl w1.heap.size w1) o) hx0; have hy1 := fun o => cell_below (below_alloc (Below.refl w1.heap.size w1) o) hx1; have HS := Aside0.mk (St.mk (g := w1.heap.size) (below_alloc (below_step (below_alloc (Below.refl _ _) _) hb1) _) (Nat.le_refl _) (Nat.lt_of_lt_of_le (by simp) hb1.size) (blk_alloc (blk_below (blk_new w (blkN n0)) hb1) _) (blk_new w1 (blkN n0))); clear hR hb1 hC)
      | (go_at_call 43; refine (HS.out.look).mono ?_; rintro e w9 ⟨rfl, hS2⟩; have HS2 := Aside0.mk hS2; obtain ⟨c0, c1, c2, c3, c4, c5, c6, c7, c8⟩ := cells9 hS2.r; obtain ⟨f0, f1, f2, f3, f4, f5, f6, f7, f8⟩ := frozen9 hS2.r; obtain ⟨d0, d1, d2, d3, d4, d5, d6, d7, d8⟩ := cells9 hS2.d; clear hS2; (try rw [HK.out])))
    refine bodyPost_ret (results_ct rfl _ _ w.heap.size 41 (cellsN n0) (0, 0) _ rfl (HS2.out.putR n0).r Tryd.underlying41 rfl (by kernel_rfl)) rfl ?_
    exact ⟨endN_no HK.out, (HS2.out.putR n0).bel⟩
  · have HK := Aside0.mk hk
    clear hk
    go_enter Tryd.func60, Tryd.ntmps60
    go_wp2_with (first
      | (go_at_call 90; refine (spec_l11Words.calls _ _ _ _ HW.out).mono ?_; rintro e w1 ⟨v, rfl, hR, hb1⟩; obtain ⟨A, cA, rfl, hc, hC⟩ := Kd.R_reads hR; obtain ⟨ad, rfl, hx0, hx1⟩ := two_cells hC; have hy0 := fun o => cell_below (below_alloc (Below.refl w1.heap.size w1) o) hx0; have hy1 := fun o => cell_below (below_alloc (Below.refl w1.heap.size w1) o) hx1; have HS := Aside0.mk (St.mk (g := w1.heap.size) (below_alloc (below_step (below_alloc (Below.refl _ _) _) hb1) _) (Nat.le_refl _) (Nat.lt_of_lt_of_le (by simp) hb1.size) (blk_alloc (blk_below (blk_new w (blkN n0)) hb1) _) (blk_new w1 (blkN n0))); clear hR hb1 hC)
      | (go_at_call 43; refine (HS.out.look).mono ?_; rintro e w9 ⟨rfl, hS2⟩; have HS2 := Aside0.mk hS2; obtain ⟨c0, c1, c2, c3, c4, c5, c6, c7, c8⟩ := cells9 hS2.r; obtain ⟨f0, f1, f2, f3, f4, f5, f6, f7, f8⟩ := frozen9 hS2.r; obtain ⟨d0, d1, d2, d3, d4, d5, d6, d7, d8⟩ := cells9 hS2.d; clear hS2; (try rw [HK.out])))
    refine bodyPost_ret (results_ct rfl _ _ w.heap.size 41 (cellsN n0) (0, 0) _ rfl (HS2.out.putR n0).r Tryd.underlying41 rfl (by kernel_rfl)) rfl ?_
    exact ⟨endN_yes HK.out, (HS2.out.putR n0).bel⟩

set_option maxRecDepth 100000 in
set_option maxHeartbeats 2000000 in
theorem read_two_yes (l : List UInt8) (hl : l.length ≤ 4294967296) (a b : List UInt8) (h2 : split1 32 l = [a, b]) (ha : a = [98, 117, 105, 108, 100]) (hlb : b.length ≤ 4294967296) (w : World) :
    Calls Tryd.prog 60 #[.string (txt l)] w fun e w' => e = endN (okN (2, 0, 0, 0, (wordR b).1, (wordR b).2, 0, 0, 0)) ∧ Below w.heap.size w w' := by
  have HW := Aside0.mk (show spec_l11Words.f (l.length + 2) (txt l) = some [txt a, txt b] by rw [words_eq l hl (l.length + 2) (by omega), h2]; rfl)
  have q0 : ((txt a).toList == [98, 117, 105, 108, 100]) = true := by rw [ByteArray.toList_eq]; exact beq_iff_eq.2 ha
  have HG := Aside0.mk (show spec_l03Word.f 60 (txt b) = some ((wordR b).1, (wordR b).2) from ringWord_eq b hlb 60 (Nat.le_refl _))
  clear h2 ha
  have hu := Tryd.underlying41
  have hu2 := Tryd.underlying39
  cases hk : deedN (2, 0, 0, 0, (wordR b).1, (wordR b).2, 0, 0, 0)
  · have HK := Aside0.mk hk
    clear hk
    go_enter Tryd.func60, Tryd.ntmps60
    go_wp2_with (first
      | (go_at_call 90; refine (spec_l11Words.calls _ _ _ _ HW.out).mono ?_; rintro e w1 ⟨v, rfl, hR, hb1⟩; obtain ⟨A, cA, rfl, hc, hC⟩ := Kd.R_reads hR; obtain ⟨ad, rfl, hx0, hx1⟩ := two_cells hC; have hy0 := fun o => cell_below (below_alloc (Below.refl w1.heap.size w1) o) hx0; have hy1 := fun o => cell_below (below_alloc (Below.refl w1.heap.size w1) o) hx1; have HS := Aside0.mk (St.mk (g := w1.heap.size) (below_alloc (below_step (below_alloc (Below.refl _ _) _) hb1) _) (Nat.le_refl _) (Nat.lt_of_lt_of_le (by simp) hb1.size) (blk_alloc (blk_below (blk_new w (blkN n0)) hb1) _) (blk_new w1 (blkN n0))); clear hR hb1 hC)
      | (go_at_call 91; refine (spec_l03Word.calls 60 _ _ _ _ HG.out).mono ?_; rintro e w3 ⟨rfl, hb3⟩; have hS := HS.out.step hb3; obtain ⟨d0, d1, d2, d3, d4, d5, d6, d7, d8⟩ := cells9 hS.d; obtain ⟨k0, k1, k2, k3, k4, k5, k6, k7, k8⟩ := frozen9 hS.d; have HS := Aside0.mk hS; clear hS)
      | (go_at_call 43; refine ((HS.out.put (2, 0, 0, 0, (wordR b).1, (wordR b).2, 0, 0, 0)).look).mono ?_; rintro e w9 ⟨rfl, hS2⟩; have HS2 := Aside0.mk hS2; obtain ⟨c0, c1, c2, c3, c4, c5, c6, c7, c8⟩ := cells9 hS2.r; obtain ⟨f0, f1, f2, f3, f4, f5, f6, f7, f8⟩ := frozen9 hS2.r; obtain ⟨d0, d1, d2, d3, d4, d5, d6, d7, d8⟩ := cells9 hS2.d; clear hS2; (try rw [HK.out])))
    refine bodyPost_ret (results_ct rfl _ _ w.heap.size 41 (cellsN n0) (0, 0) _ rfl (HS2.out.putR n0).r Tryd.underlying41 rfl (by kernel_rfl)) rfl ?_
    exact ⟨endN_no HK.out, (HS2.out.putR n0).bel⟩
  · have HK := Aside0.mk hk
    clear hk
    go_enter Tryd.func60, Tryd.ntmps60
    go_wp2_with (first
      | (go_at_call 90; refine (spec_l11Words.calls _ _ _ _ HW.out).mono ?_; rintro e w1 ⟨v, rfl, hR, hb1⟩; obtain ⟨A, cA, rfl, hc, hC⟩ := Kd.R_reads hR; obtain ⟨ad, rfl, hx0, hx1⟩ := two_cells hC; have hy0 := fun o => cell_below (below_alloc (Below.refl w1.heap.size w1) o) hx0; have hy1 := fun o => cell_below (below_alloc (Below.refl w1.heap.size w1) o) hx1; have HS := Aside0.mk (St.mk (g := w1.heap.size) (below_alloc (below_step (below_alloc (Below.refl _ _) _) hb1) _) (Nat.le_refl _) (Nat.lt_of_lt_of_le (by simp) hb1.size) (blk_alloc (blk_below (blk_new w (blkN n0)) hb1) _) (blk_new w1 (blkN n0))); clear hR hb1 hC)
      | (go_at_call 91; refine (spec_l03Word.calls 60 _ _ _ _ HG.out).mono ?_; rintro e w3 ⟨rfl, hb3⟩; have hS := HS.out.step hb3; obtain ⟨d0, d1, d2, d3, d4, d5, d6, d7, d8⟩ := cells9 hS.d; obtain ⟨k0, k1, k2, k3, k4, k5, k6, k7, k8⟩ := frozen9 hS.d; have HS := Aside0.mk hS; clear hS)
      | (go_at_call 43; refine ((HS.out.put (2, 0, 0, 0, (wordR b).1, (wordR b).2, 0, 0, 0)).look).mono ?_; rintro e w9 ⟨rfl, hS2⟩; have HS2 := Aside0.mk hS2; obtain ⟨c0, c1, c2, c3, c4, c5, c6, c7, c8⟩ := cells9 hS2.r; obtain ⟨f0, f1, f2, f3, f4, f5, f6, f7, f8⟩ := frozen9 hS2.r; obtain ⟨d0, d1, d2, d3, d4, d5, d6, d7, d8⟩ := cells9 hS2.d; clear hS2; (try rw [HK.out])))
    refine bodyPost_ret (results_ct rfl _ _ w.heap.size 41 (cellsN (2, 0, 0, 0, (wordR b).1, (wordR b).2, 0, 0, 0)) (0, 0) _ rfl (HS2.out.putR (2, 0, 0, 0, (wordR b).1, (wordR b).2, 0, 0, 0)).r Tryd.underlying41 rfl (by kernel_rfl)) rfl ?_
    exact ⟨endN_yes HK.out, (HS2.out.putR (2, 0, 0, 0, (wordR b).1, (wordR b).2, 0, 0, 0)).bel⟩

set_option maxRecDepth 100000 in
set_option maxHeartbeats 2000000 in
theorem read_four_bad (l : List UInt8) (hl : l.length ≤ 4294967296) (a b c d : List UInt8) (h4 : split1 32 l = [a, b, c, d]) (m1 m2 m3 : Int) (t1 t2 t3 : Bool) (hl1 : b.length ≤ 4294967296) (hl2 : c.length ≤ 4294967296) (hl3 : d.length ≤ 4294967296) (hr1 : readL b (-1000000000) 1000000000 = (m1, t1)) (hr2 : readL c (-1000000000) 1000000000 = (m2, t2)) (hr3 : readL d (-1000000000) 1000000000 = (m3, t3)) (hb : (t1 && t2 && t3) = false) (w : World) :
    Calls Tryd.prog 60 #[.string (txt l)] w fun e w' => e = endN (okN n0) ∧ Below w.heap.size w w' := by
  have HW := Aside0.mk (show spec_l11Words.f (l.length + 2) (txt l) = some [txt a, txt b, txt c, txt d] by rw [words_eq l hl (l.length + 2) (by omega), h4]; rfl)
  have HV1 := Aside0.mk (show spec_l01Value.f 60 (txt b) = some (m1, t1) by rw [value_eq b hl1 60 (Nat.le_refl _), hr1])
  have HV2 := Aside0.mk (show spec_l01Value.f 60 (txt c) = some (m2, t2) by rw [value_eq c hl2 60 (Nat.le_refl _), hr2])
  have HV3 := Aside0.mk (show spec_l01Value.f 60 (txt d) = some (m3, t3) by rw [value_eq d hl3 60 (Nat.le_refl _), hr3])
  clear h4 hr1 hr2 hr3
  have hb2 : t1 = false ∨ (t1 = true ∧ t2 = false) ∨ (t1 = true ∧ t2 = true ∧ t3 = false) := by revert hb; cases t1 <;> cases t2 <;> cases t3 <;> simp
  clear hb
  rcases hb2 with rfl | ⟨rfl, rfl⟩ | ⟨rfl, rfl, rfl⟩
  all_goals
    have hu := Tryd.underlying41
    have hu2 := Tryd.underlying39
    cases hk : deedN n0
    · have HK := Aside0.mk hk
      clear hk
      go_enter Tryd.func60, Tryd.ntmps60
      go_wp2_with (first
        | (go_at_call 90; refine (spec_l11Words.calls _ _ _ _ HW.out).mono ?_; rintro e w1 ⟨v, rfl, hR, hb1⟩; obtain ⟨A, cA, rfl, hc, hC⟩ := Kd.R_reads hR; obtain ⟨ad, rfl, hx0, hx1, hx2, hx3⟩ := four_cells hC; have hy0 := fun o => cell_below (below_alloc (Below.refl w1.heap.size w1) o) hx0; have hy1 := fun o => cell_below (below_alloc (Below.refl w1.heap.size w1) o) hx1; have hy2 := fun o => cell_below (below_alloc (Below.refl w1.heap.size w1) o) hx2; have hy3 := fun o => cell_below (below_alloc (Below.refl w1.heap.size w1) o) hx3; have HS := Aside0.mk (St.mk (g := w1.heap.size) (below_alloc (below_step (below_alloc (Below.refl _ _) _) hb1) _) (Nat.le_refl _) (Nat.lt_of_lt_of_le (by simp) hb1.size) (blk_alloc (blk_below (blk_new w (blkN n0)) hb1) _) (blk_new w1 (blkN n0))); clear hR hb1 hC)
        | (go_at_call 92; (with_reducible refine (spec_l01Value.calls 60 (txt b) _ _ _ HV1.out).mono ?_); rintro e w3 ⟨rfl, hb3⟩; have hz0 := cell_below hb3 (hy0 _); have hz2 := cell_below hb3 (hy2 _); have hz3 := cell_below hb3 (hy3 _); have hS := HS.out.step hb3; skip; have HS := Aside0.mk hS; clear hS hb3)
        | (go_at_call 92; (with_reducible refine (spec_l01Value.calls 60 (txt c) _ _ _ HV2.out).mono ?_); rintro e w4 ⟨rfl, hb4⟩; have hz0 := cell_below hb4 hz0; have hz3 := cell_below hb4 hz3; have hS := HS.out.step hb4; skip; have HS := Aside0.mk hS; clear hS hb4)
        | (go_at_call 92; (with_reducible refine (spec_l01Value.calls 60 (txt d) _ _ _ HV3.out).mono ?_); rintro e w5 ⟨rfl, hb5⟩; have hz0 := cell_below hb5 hz0; have hS := HS.out.step hb5; obtain ⟨d0, d1, d2, d3, d4, d5, d6, d7, d8⟩ := cells9 hS.d; obtain ⟨k0, k1, k2, k3, k4, k5, k6, k7, k8⟩ := frozen9 hS.d; have HS := Aside0.mk hS; clear hS hb5)
        | (go_at_call 43; refine (HS.out.look).mono ?_; rintro e w9 ⟨rfl, hS2⟩; have HS2 := Aside0.mk hS2; obtain ⟨c0, c1, c2, c3, c4, c5, c6, c7, c8⟩ := cells9 hS2.r; obtain ⟨f0, f1, f2, f3, f4, f5, f6, f7, f8⟩ := frozen9 hS2.r; obtain ⟨d0, d1, d2, d3, d4, d5, d6, d7, d8⟩ := cells9 hS2.d; clear hS2; (try rw [HK.out])))
      refine bodyPost_ret (results_ct rfl _ _ w.heap.size 41 (cellsN n0) (0, 0) _ rfl (HS2.out.putR n0).r Tryd.underlying41 rfl (by kernel_rfl)) rfl ?_
      exact ⟨endN_no HK.out, (HS2.out.putR n0).bel⟩
    · have HK := Aside0.mk hk
      clear hk
      go_enter Tryd.func60, Tryd.ntmps60
      go_wp2_with (first
        | (go_at_call 90; refine (spec_l11Words.calls _ _ _ _ HW.out).mono ?_; rintro e w1 ⟨v, rfl, hR, hb1⟩; obtain ⟨A, cA, rfl, hc, hC⟩ := Kd.R_reads hR; obtain ⟨ad, rfl, hx0, hx1, hx2, hx3⟩ := four_cells hC; have hy0 := fun o => cell_below (below_alloc (Below.refl w1.heap.size w1) o) hx0; have hy1 := fun o => cell_below (below_alloc (Below.refl w1.heap.size w1) o) hx1; have hy2 := fun o => cell_below (below_alloc (Below.refl w1.heap.size w1) o) hx2; have hy3 := fun o => cell_below (below_alloc (Below.refl w1.heap.size w1) o) hx3; have HS := Aside0.mk (St.mk (g := w1.heap.size) (below_alloc (below_step (below_alloc (Below.refl _ _) _) hb1) _) (Nat.le_refl _) (Nat.lt_of_lt_of_le (by simp) hb1.size) (blk_alloc (blk_below (blk_new w (blkN n0)) hb1) _) (blk_new w1 (blkN n0))); clear hR hb1 hC)
        | (go_at_call 92; (with_reducible refine (spec_l01Value.calls 60 (txt b) _ _ _ HV1.out).mono ?_); rintro e w3 ⟨rfl, hb3⟩; have hz0 := cell_below hb3 (hy0 _); have hz2 := cell_below hb3 (hy2 _); have hz3 := cell_below hb3 (hy3 _); have hS := HS.out.step hb3; skip; have HS := Aside0.mk hS; clear hS hb3)
        | (go_at_call 92; (with_reducible refine (spec_l01Value.calls 60 (txt c) _ _ _ HV2.out).mono ?_); rintro e w4 ⟨rfl, hb4⟩; have hz0 := cell_below hb4 hz0; have hz3 := cell_below hb4 hz3; have hS := HS.out.step hb4; skip; have HS := Aside0.mk hS; clear hS hb4)
        | (go_at_call 92; (with_reducible refine (spec_l01Value.calls 60 (txt d) _ _ _ HV3.out).mono ?_); rintro e w5 ⟨rfl, hb5⟩; have hz0 := cell_below hb5 hz0; have hS := HS.out.step hb5; obtain ⟨d0, d1, d2, d3, d4, d5, d6, d7, d8⟩ := cells9 hS.d; obtain ⟨k0, k1, k2, k3, k4, k5, k6, k7, k8⟩ := frozen9 hS.d; have HS := Aside0.mk hS; clear hS hb5)
        | (go_at_call 43; refine (HS.out.look).mono ?_; rintro e w9 ⟨rfl, hS2⟩; have HS2 := Aside0.mk hS2; obtain ⟨c0, c1, c2, c3, c4, c5, c6, c7, c8⟩ := cells9 hS2.r; obtain ⟨f0, f1, f2, f3, f4, f5, f6, f7, f8⟩ := frozen9 hS2.r; obtain ⟨d0, d1, d2, d3, d4, d5, d6, d7, d8⟩ := cells9 hS2.d; clear hS2; (try rw [HK.out])))
      refine bodyPost_ret (results_ct rfl _ _ w.heap.size 41 (cellsN n0) (0, 0) _ rfl (HS2.out.putR n0).r Tryd.underlying41 rfl (by kernel_rfl)) rfl ?_
      exact ⟨endN_yes HK.out, (HS2.out.putR n0).bel⟩

end Go.Proofs.YtkbklocfdoofeaaDoor.Hr

/- The reference's l11Read, where four words stand. -/
namespace Go.Proofs.YtkbklocfdoofeaaDoor.Hs
open Go.RowKit Go.Proofs.YtkbklocfdoofeaaDoorW.PrintWords Go.Proofs.YtkbklocfdoofeaaDoorW.PrintLast Go.Proofs.YtkbklocfdoofeaaDoorW.PrintMore Go.Proofs.YtkbklocfdoofeaaDoor.Q Go.Proofs.YtkbklocfdoofeaaDoor.Ha Go.Proofs.YtkbklocfdoofeaaDoor.Sp Go.Proofs.YtkbklocfdoofeaaDoor.PuD Go.Proofs.YtkbklocfdoofeaaDoor.PuV Go.Proofs.YtkbklocfdoofeaaDoor.PuW Go.Proofs.YtkbklocfdoofeaaDoor.PuVD Go.Proofs.YtkbklocfdoofeaaDoor.PuDT Go.Proofs.YtkbklocfdoofeaaDoor.Ni Go.Proofs.YtkbklocfdoofeaaDoor.Hr

set_option maxRecDepth 100000 in
set_option maxHeartbeats 2000000 in
theorem read_four_push (l : List UInt8) (hl : l.length ≤ 4294967296) (a b c d : List UInt8) (h4 : split1 32 l = [a, b, c, d]) (m1 m2 m3 : Int) (t1 t2 t3 : Bool) (hl1 : b.length ≤ 4294967296) (hl2 : c.length ≤ 4294967296) (hl3 : d.length ≤ 4294967296) (hr1 : readL b (-1000000000) 1000000000 = (m1, t1)) (hr2 : readL c (-1000000000) 1000000000 = (m2, t2)) (hr3 : readL d (-1000000000) 1000000000 = (m3, t3)) (ha : a = [112, 117, 115, 104]) (ht : t1 = true ∧ t2 = true ∧ t3 = true) (w : World) :
    Calls Tryd.prog 60 #[.string (txt l)] w fun e w' => e = endN (okN (1, m1, m2, m3, 0, 0, 0, 0, 0)) ∧ Below w.heap.size w w' := by
  obtain ⟨rfl, rfl, rfl⟩ := ht
  have ha2 : a ≠ [103, 114, 111, 117, 116] := by rw [ha]; decide
  have HW := Aside0.mk (show spec_l11Words.f (l.length + 2) (txt l) = some [txt a, txt b, txt c, txt d] by rw [words_eq l hl (l.length + 2) (by omega), h4]; rfl)
  have HV1 := Aside0.mk (show spec_l01Value.f 60 (txt b) = some (m1, true) by rw [value_eq b hl1 60 (Nat.le_refl _), hr1])
  have HV2 := Aside0.mk (show spec_l01Value.f 60 (txt c) = some (m2, true) by rw [value_eq c hl2 60 (Nat.le_refl _), hr2])
  have HV3 := Aside0.mk (show spec_l01Value.f 60 (txt d) = some (m3, true) by rw [value_eq d hl3 60 (Nat.le_refl _), hr3])
  have q0 : ((txt a).toList == [112, 117, 115, 104]) = true := by rw [ByteArray.toList_eq]; exact beq_iff_eq.2 ha
  have q1 : ((txt a).toList == [103, 114, 111, 117, 116]) = false := by rw [ByteArray.toList_eq]; exact beq_eq_false_iff_ne.2 ha2
  clear h4 hr1 hr2 hr3 ha ha2
  have hu := Tryd.underlying41
  have hu2 := Tryd.underlying39
  cases hk : deedN (1, m1, m2, m3, 0, 0, 0, 0, 0)
  · have HK := Aside0.mk hk
    clear hk
    go_enter Tryd.func60, Tryd.ntmps60
    go_wp2_with (first
      | (go_at_call 90; refine (spec_l11Words.calls _ _ _ _ HW.out).mono ?_; rintro e w1 ⟨v, rfl, hR, hb1⟩; obtain ⟨A, cA, rfl, hc, hC⟩ := Kd.R_reads hR; obtain ⟨ad, rfl, hx0, hx1, hx2, hx3⟩ := four_cells hC; have hy0 := fun o => cell_below (below_alloc (Below.refl w1.heap.size w1) o) hx0; have hy1 := fun o => cell_below (below_alloc (Below.refl w1.heap.size w1) o) hx1; have hy2 := fun o => cell_below (below_alloc (Below.refl w1.heap.size w1) o) hx2; have hy3 := fun o => cell_below (below_alloc (Below.refl w1.heap.size w1) o) hx3; have hneq : (ad.block = w1.heap.size) = False := eq_false (Nat.ne_of_lt (World.block_lt_of_cell? w1 ad hx0)); have HS := Aside0.mk (St.mk (g := w1.heap.size) (below_alloc (below_step (below_alloc (Below.refl _ _) _) hb1) _) (Nat.le_refl _) (Nat.lt_of_lt_of_le (by simp) hb1.size) (blk_alloc (blk_below (blk_new w (blkN n0)) hb1) _) (blk_new w1 (blkN n0))); clear hR hb1 hC)
      | (go_at_call 92; (with_reducible refine (spec_l01Value.calls 60 (txt b) _ _ _ HV1.out).mono ?_); rintro e w3 ⟨rfl, hb3⟩; have hz0 := cell_below hb3 (hy0 _); have hz2 := cell_below hb3 (hy2 _); have hz3 := cell_below hb3 (hy3 _); have hS := HS.out.step hb3; skip; have HS := Aside0.mk hS; clear hS hb3)
      | (go_at_call 92; (with_reducible refine (spec_l01Value.calls 60 (txt c) _ _ _ HV2.out).mono ?_); rintro e w4 ⟨rfl, hb4⟩; have hz0 := cell_below hb4 hz0; have hz3 := cell_below hb4 hz3; have hS := HS.out.step hb4; skip; have HS := Aside0.mk hS; clear hS hb4)
      | (go_at_call 92; (with_reducible refine (spec_l01Value.calls 60 (txt d) _ _ _ HV3.out).mono ?_); rintro e w5 ⟨rfl, hb5⟩; have hz0 := cell_below hb5 hz0; have hS := HS.out.step hb5; obtain ⟨d0, d1, d2, d3, d4, d5, d6, d7, d8⟩ := cells9 hS.d; obtain ⟨k0, k1, k2, k3, k4, k5, k6, k7, k8⟩ := frozen9 hS.d; have HS := Aside0.mk hS; clear hS hb5; have hq0 := set9_cell (1, m1, m2, m3, 0, 0, 0, 0, 0) hneq hz0)
      | (go_at_call 43; refine ((HS.out.put (1, m1, m2, m3, 0, 0, 0, 0, 0)).look).mono ?_; rintro e w9 ⟨rfl, hS2⟩; have HS2 := Aside0.mk hS2; obtain ⟨c0, c1, c2, c3, c4, c5, c6, c7, c8⟩ := cells9 hS2.r; obtain ⟨f0, f1, f2, f3, f4, f5, f6, f7, f8⟩ := frozen9 hS2.r; obtain ⟨d0, d1, d2, d3, d4, d5, d6, d7, d8⟩ := cells9 hS2.d; clear hS2; (try rw [HK.out])))
    refine bodyPost_ret (results_ct rfl _ _ w.heap.size 41 (cellsN n0) (0, 0) _ rfl (HS2.out.putR n0).r Tryd.underlying41 rfl (by kernel_rfl)) rfl ?_
    exact ⟨endN_no HK.out, (HS2.out.putR n0).bel⟩
  · have HK := Aside0.mk hk
    clear hk
    go_enter Tryd.func60, Tryd.ntmps60
    go_wp2_with (first
      | (go_at_call 90; refine (spec_l11Words.calls _ _ _ _ HW.out).mono ?_; rintro e w1 ⟨v, rfl, hR, hb1⟩; obtain ⟨A, cA, rfl, hc, hC⟩ := Kd.R_reads hR; obtain ⟨ad, rfl, hx0, hx1, hx2, hx3⟩ := four_cells hC; have hy0 := fun o => cell_below (below_alloc (Below.refl w1.heap.size w1) o) hx0; have hy1 := fun o => cell_below (below_alloc (Below.refl w1.heap.size w1) o) hx1; have hy2 := fun o => cell_below (below_alloc (Below.refl w1.heap.size w1) o) hx2; have hy3 := fun o => cell_below (below_alloc (Below.refl w1.heap.size w1) o) hx3; have hneq : (ad.block = w1.heap.size) = False := eq_false (Nat.ne_of_lt (World.block_lt_of_cell? w1 ad hx0)); have HS := Aside0.mk (St.mk (g := w1.heap.size) (below_alloc (below_step (below_alloc (Below.refl _ _) _) hb1) _) (Nat.le_refl _) (Nat.lt_of_lt_of_le (by simp) hb1.size) (blk_alloc (blk_below (blk_new w (blkN n0)) hb1) _) (blk_new w1 (blkN n0))); clear hR hb1 hC)
      | (go_at_call 92; (with_reducible refine (spec_l01Value.calls 60 (txt b) _ _ _ HV1.out).mono ?_); rintro e w3 ⟨rfl, hb3⟩; have hz0 := cell_below hb3 (hy0 _); have hz2 := cell_below hb3 (hy2 _); have hz3 := cell_below hb3 (hy3 _); have hS := HS.out.step hb3; skip; have HS := Aside0.mk hS; clear hS hb3)
      | (go_at_call 92; (with_reducible refine (spec_l01Value.calls 60 (txt c) _ _ _ HV2.out).mono ?_); rintro e w4 ⟨rfl, hb4⟩; have hz0 := cell_below hb4 hz0; have hz3 := cell_below hb4 hz3; have hS := HS.out.step hb4; skip; have HS := Aside0.mk hS; clear hS hb4)
      | (go_at_call 92; (with_reducible refine (spec_l01Value.calls 60 (txt d) _ _ _ HV3.out).mono ?_); rintro e w5 ⟨rfl, hb5⟩; have hz0 := cell_below hb5 hz0; have hS := HS.out.step hb5; obtain ⟨d0, d1, d2, d3, d4, d5, d6, d7, d8⟩ := cells9 hS.d; obtain ⟨k0, k1, k2, k3, k4, k5, k6, k7, k8⟩ := frozen9 hS.d; have HS := Aside0.mk hS; clear hS hb5; have hq0 := set9_cell (1, m1, m2, m3, 0, 0, 0, 0, 0) hneq hz0)
      | (go_at_call 43; refine ((HS.out.put (1, m1, m2, m3, 0, 0, 0, 0, 0)).look).mono ?_; rintro e w9 ⟨rfl, hS2⟩; have HS2 := Aside0.mk hS2; obtain ⟨c0, c1, c2, c3, c4, c5, c6, c7, c8⟩ := cells9 hS2.r; obtain ⟨f0, f1, f2, f3, f4, f5, f6, f7, f8⟩ := frozen9 hS2.r; obtain ⟨d0, d1, d2, d3, d4, d5, d6, d7, d8⟩ := cells9 hS2.d; clear hS2; (try rw [HK.out])))
    refine bodyPost_ret (results_ct rfl _ _ w.heap.size 41 (cellsN (1, m1, m2, m3, 0, 0, 0, 0, 0)) (0, 0) _ rfl (HS2.out.putR (1, m1, m2, m3, 0, 0, 0, 0, 0)).r Tryd.underlying41 rfl (by kernel_rfl)) rfl ?_
    exact ⟨endN_yes HK.out, (HS2.out.putR (1, m1, m2, m3, 0, 0, 0, 0, 0)).bel⟩

set_option maxRecDepth 100000 in
set_option maxHeartbeats 2000000 in
theorem read_four_grout (l : List UInt8) (hl : l.length ≤ 4294967296) (a b c d : List UInt8) (h4 : split1 32 l = [a, b, c, d]) (m1 m2 m3 : Int) (t1 t2 t3 : Bool) (hl1 : b.length ≤ 4294967296) (hl2 : c.length ≤ 4294967296) (hl3 : d.length ≤ 4294967296) (hr1 : readL b (-1000000000) 1000000000 = (m1, t1)) (hr2 : readL c (-1000000000) 1000000000 = (m2, t2)) (hr3 : readL d (-1000000000) 1000000000 = (m3, t3)) (ha : a = [103, 114, 111, 117, 116]) (ht : t1 = true ∧ t2 = true ∧ t3 = true) (w : World) :
    Calls Tryd.prog 60 #[.string (txt l)] w fun e w' => e = endN (okN (3, 0, 0, 0, 0, 0, m1, m2, m3)) ∧ Below w.heap.size w w' := by
  obtain ⟨rfl, rfl, rfl⟩ := ht
  have ha1 : a ≠ [112, 117, 115, 104] := by rw [ha]; decide
  have HW := Aside0.mk (show spec_l11Words.f (l.length + 2) (txt l) = some [txt a, txt b, txt c, txt d] by rw [words_eq l hl (l.length + 2) (by omega), h4]; rfl)
  have HV1 := Aside0.mk (show spec_l01Value.f 60 (txt b) = some (m1, true) by rw [value_eq b hl1 60 (Nat.le_refl _), hr1])
  have HV2 := Aside0.mk (show spec_l01Value.f 60 (txt c) = some (m2, true) by rw [value_eq c hl2 60 (Nat.le_refl _), hr2])
  have HV3 := Aside0.mk (show spec_l01Value.f 60 (txt d) = some (m3, true) by rw [value_eq d hl3 60 (Nat.le_refl _), hr3])
  have q0 : ((txt a).toList == [112, 117, 115, 104]) = false := by rw [ByteArray.toList_eq]; exact beq_eq_false_iff_ne.2 ha1
  have q1 : ((txt a).toList == [103, 114, 111, 117, 116]) = true := by rw [ByteArray.toList_eq]; exact beq_iff_eq.2 ha
  clear h4 hr1 hr2 hr3 ha ha1
  have hu := Tryd.underlying41
  have hu2 := Tryd.underlying39
  cases hk : deedN (3, 0, 0, 0, 0, 0, m1, m2, m3)
  · have HK := Aside0.mk hk
    clear hk
    go_enter Tryd.func60, Tryd.ntmps60
    go_wp2_with (first
      | (go_at_call 90; refine (spec_l11Words.calls _ _ _ _ HW.out).mono ?_; rintro e w1 ⟨v, rfl, hR, hb1⟩; obtain ⟨A, cA, rfl, hc, hC⟩ := Kd.R_reads hR; obtain ⟨ad, rfl, hx0, hx1, hx2, hx3⟩ := four_cells hC; have hy0 := fun o => cell_below (below_alloc (Below.refl w1.heap.size w1) o) hx0; have hy1 := fun o => cell_below (below_alloc (Below.refl w1.heap.size w1) o) hx1; have hy2 := fun o => cell_below (below_alloc (Below.refl w1.heap.size w1) o) hx2; have hy3 := fun o => cell_below (below_alloc (Below.refl w1.heap.size w1) o) hx3; have HS := Aside0.mk (St.mk (g := w1.heap.size) (below_alloc (below_step (below_alloc (Below.refl _ _) _) hb1) _) (Nat.le_refl _) (Nat.lt_of_lt_of_le (by simp) hb1.size) (blk_alloc (blk_below (blk_new w (blkN n0)) hb1) _) (blk_new w1 (blkN n0))); clear hR hb1 hC)
      | (go_at_call 92; (with_reducible refine (spec_l01Value.calls 60 (txt b) _ _ _ HV1.out).mono ?_); rintro e w3 ⟨rfl, hb3⟩; have hz0 := cell_below hb3 (hy0 _); have hz2 := cell_below hb3 (hy2 _); have hz3 := cell_below hb3 (hy3 _); have hS := HS.out.step hb3; skip; have HS := Aside0.mk hS; clear hS hb3)
      | (go_at_call 92; (with_reducible refine (spec_l01Value.calls 60 (txt c) _ _ _ HV2.out).mono ?_); rintro e w4 ⟨rfl, hb4⟩; have hz0 := cell_below hb4 hz0; have hz3 := cell_below hb4 hz3; have hS := HS.out.step hb4; skip; have HS := Aside0.mk hS; clear hS hb4)
      | (go_at_call 92; (with_reducible refine (spec_l01Value.calls 60 (txt d) _ _ _ HV3.out).mono ?_); rintro e w5 ⟨rfl, hb5⟩; have hz0 := cell_below hb5 hz0; have hS := HS.out.step hb5; obtain ⟨d0, d1, d2, d3, d4, d5, d6, d7, d8⟩ := cells9 hS.d; obtain ⟨k0, k1, k2, k3, k4, k5, k6, k7, k8⟩ := frozen9 hS.d; have HS := Aside0.mk hS; clear hS hb5)
      | (go_at_call 43; refine ((HS.out.put (3, 0, 0, 0, 0, 0, m1, m2, m3)).look).mono ?_; rintro e w9 ⟨rfl, hS2⟩; have HS2 := Aside0.mk hS2; obtain ⟨c0, c1, c2, c3, c4, c5, c6, c7, c8⟩ := cells9 hS2.r; obtain ⟨f0, f1, f2, f3, f4, f5, f6, f7, f8⟩ := frozen9 hS2.r; obtain ⟨d0, d1, d2, d3, d4, d5, d6, d7, d8⟩ := cells9 hS2.d; clear hS2; (try rw [HK.out])))
    refine bodyPost_ret (results_ct rfl _ _ w.heap.size 41 (cellsN n0) (0, 0) _ rfl (HS2.out.putR n0).r Tryd.underlying41 rfl (by kernel_rfl)) rfl ?_
    exact ⟨endN_no HK.out, (HS2.out.putR n0).bel⟩
  · have HK := Aside0.mk hk
    clear hk
    go_enter Tryd.func60, Tryd.ntmps60
    go_wp2_with (first
      | (go_at_call 90; refine (spec_l11Words.calls _ _ _ _ HW.out).mono ?_; rintro e w1 ⟨v, rfl, hR, hb1⟩; obtain ⟨A, cA, rfl, hc, hC⟩ := Kd.R_reads hR; obtain ⟨ad, rfl, hx0, hx1, hx2, hx3⟩ := four_cells hC; have hy0 := fun o => cell_below (below_alloc (Below.refl w1.heap.size w1) o) hx0; have hy1 := fun o => cell_below (below_alloc (Below.refl w1.heap.size w1) o) hx1; have hy2 := fun o => cell_below (below_alloc (Below.refl w1.heap.size w1) o) hx2; have hy3 := fun o => cell_below (below_alloc (Below.refl w1.heap.size w1) o) hx3; have HS := Aside0.mk (St.mk (g := w1.heap.size) (below_alloc (below_step (below_alloc (Below.refl _ _) _) hb1) _) (Nat.le_refl _) (Nat.lt_of_lt_of_le (by simp) hb1.size) (blk_alloc (blk_below (blk_new w (blkN n0)) hb1) _) (blk_new w1 (blkN n0))); clear hR hb1 hC)
      | (go_at_call 92; (with_reducible refine (spec_l01Value.calls 60 (txt b) _ _ _ HV1.out).mono ?_); rintro e w3 ⟨rfl, hb3⟩; have hz0 := cell_below hb3 (hy0 _); have hz2 := cell_below hb3 (hy2 _); have hz3 := cell_below hb3 (hy3 _); have hS := HS.out.step hb3; skip; have HS := Aside0.mk hS; clear hS hb3)
      | (go_at_call 92; (with_reducible refine (spec_l01Value.calls 60 (txt c) _ _ _ HV2.out).mono ?_); rintro e w4 ⟨rfl, hb4⟩; have hz0 := cell_below hb4 hz0; have hz3 := cell_below hb4 hz3; have hS := HS.out.step hb4; skip; have HS := Aside0.mk hS; clear hS hb4)
      | (go_at_call 92; (with_reducible refine (spec_l01Value.calls 60 (txt d) _ _ _ HV3.out).mono ?_); rintro e w5 ⟨rfl, hb5⟩; have hz0 := cell_below hb5 hz0; have hS := HS.out.step hb5; obtain ⟨d0, d1, d2, d3, d4, d5, d6, d7, d8⟩ := cells9 hS.d; obtain ⟨k0, k1, k2, k3, k4, k5, k6, k7, k8⟩ := frozen9 hS.d; have HS := Aside0.mk hS; clear hS hb5)
      | (go_at_call 43; refine ((HS.out.put (3, 0, 0, 0, 0, 0, m1, m2, m3)).look).mono ?_; rintro e w9 ⟨rfl, hS2⟩; have HS2 := Aside0.mk hS2; obtain ⟨c0, c1, c2, c3, c4, c5, c6, c7, c8⟩ := cells9 hS2.r; obtain ⟨f0, f1, f2, f3, f4, f5, f6, f7, f8⟩ := frozen9 hS2.r; obtain ⟨d0, d1, d2, d3, d4, d5, d6, d7, d8⟩ := cells9 hS2.d; clear hS2; (try rw [HK.out])))
    refine bodyPost_ret (results_ct rfl _ _ w.heap.size 41 (cellsN (3, 0, 0, 0, 0, 0, m1, m2, m3)) (0, 0) _ rfl (HS2.out.putR (3, 0, 0, 0, 0, 0, m1, m2, m3)).r Tryd.underlying41 rfl (by kernel_rfl)) rfl ?_
    exact ⟨endN_yes HK.out, (HS2.out.putR (3, 0, 0, 0, 0, 0, m1, m2, m3)).bel⟩

set_option maxRecDepth 100000 in
set_option maxHeartbeats 2000000 in
theorem read_four_none (l : List UInt8) (hl : l.length ≤ 4294967296) (a b c d : List UInt8) (h4 : split1 32 l = [a, b, c, d]) (m1 m2 m3 : Int) (t1 t2 t3 : Bool) (hl1 : b.length ≤ 4294967296) (hl2 : c.length ≤ 4294967296) (hl3 : d.length ≤ 4294967296) (hr1 : readL b (-1000000000) 1000000000 = (m1, t1)) (hr2 : readL c (-1000000000) 1000000000 = (m2, t2)) (hr3 : readL d (-1000000000) 1000000000 = (m3, t3)) (ha1 : a ≠ [112, 117, 115, 104]) (ha2 : a ≠ [103, 114, 111, 117, 116]) (ht : t1 = true ∧ t2 = true ∧ t3 = true) (w : World) :
    Calls Tryd.prog 60 #[.string (txt l)] w fun e w' => e = endN (okN n0) ∧ Below w.heap.size w w' := by
  obtain ⟨rfl, rfl, rfl⟩ := ht
  have HW := Aside0.mk (show spec_l11Words.f (l.length + 2) (txt l) = some [txt a, txt b, txt c, txt d] by rw [words_eq l hl (l.length + 2) (by omega), h4]; rfl)
  have HV1 := Aside0.mk (show spec_l01Value.f 60 (txt b) = some (m1, true) by rw [value_eq b hl1 60 (Nat.le_refl _), hr1])
  have HV2 := Aside0.mk (show spec_l01Value.f 60 (txt c) = some (m2, true) by rw [value_eq c hl2 60 (Nat.le_refl _), hr2])
  have HV3 := Aside0.mk (show spec_l01Value.f 60 (txt d) = some (m3, true) by rw [value_eq d hl3 60 (Nat.le_refl _), hr3])
  have q0 : ((txt a).toList == [112, 117, 115, 104]) = false := by rw [ByteArray.toList_eq]; exact beq_eq_false_iff_ne.2 ha1
  have q1 : ((txt a).toList == [103, 114, 111, 117, 116]) = false := by rw [ByteArray.toList_eq]; exact beq_eq_false_iff_ne.2 ha2
  clear h4 hr1 hr2 hr3 ha1 ha2
  have hu := Tryd.underlying41
  have hu2 := Tryd.underlying39
  cases hk : deedN n0
  · have HK := Aside0.mk hk
    clear hk
    go_enter Tryd.func60, Tryd.ntmps60
    go_wp2_with (first
      | (go_at_call 90; refine (spec_l11Words.calls _ _ _ _ HW.out).mono ?_; rintro e w1 ⟨v, rfl, hR, hb1⟩; obtain ⟨A, cA, rfl, hc, hC⟩ := Kd.R_reads hR; obtain ⟨ad, rfl, hx0, hx1, hx2, hx3⟩ := four_cells hC; have hy0 := fun o => cell_below (below_alloc (Below.refl w1.heap.size w1) o) hx0; have hy1 := fun o => cell_below (below_alloc (Below.refl w1.heap.size w1) o) hx1; have hy2 := fun o => cell_below (below_alloc (Below.refl w1.heap.size w1) o) hx2; have hy3 := fun o => cell_below (below_alloc (Below.refl w1.heap.size w1) o) hx3; have HS := Aside0.mk (St.mk (g := w1.heap.size) (below_alloc (below_step (below_alloc (Below.refl _ _) _) hb1) _) (Nat.le_refl _) (Nat.lt_of_lt_of_le (by simp) hb1.size) (blk_alloc (blk_below (blk_new w (blkN n0)) hb1) _) (blk_new w1 (blkN n0))); clear hR hb1 hC)
      | (go_at_call 92; (with_reducible refine (spec_l01Value.calls 60 (txt b) _ _ _ HV1.out).mono ?_); rintro e w3 ⟨rfl, hb3⟩; have hz0 := cell_below hb3 (hy0 _); have hz2 := cell_below hb3 (hy2 _); have hz3 := cell_below hb3 (hy3 _); have hS := HS.out.step hb3; skip; have HS := Aside0.mk hS; clear hS hb3)
      | (go_at_call 92; (with_reducible refine (spec_l01Value.calls 60 (txt c) _ _ _ HV2.out).mono ?_); rintro e w4 ⟨rfl, hb4⟩; have hz0 := cell_below hb4 hz0; have hz3 := cell_below hb4 hz3; have hS := HS.out.step hb4; skip; have HS := Aside0.mk hS; clear hS hb4)
      | (go_at_call 92; (with_reducible refine (spec_l01Value.calls 60 (txt d) _ _ _ HV3.out).mono ?_); rintro e w5 ⟨rfl, hb5⟩; have hz0 := cell_below hb5 hz0; have hS := HS.out.step hb5; obtain ⟨d0, d1, d2, d3, d4, d5, d6, d7, d8⟩ := cells9 hS.d; obtain ⟨k0, k1, k2, k3, k4, k5, k6, k7, k8⟩ := frozen9 hS.d; have HS := Aside0.mk hS; clear hS hb5)
      | (go_at_call 43; refine (HS.out.look).mono ?_; rintro e w9 ⟨rfl, hS2⟩; have HS2 := Aside0.mk hS2; obtain ⟨c0, c1, c2, c3, c4, c5, c6, c7, c8⟩ := cells9 hS2.r; obtain ⟨f0, f1, f2, f3, f4, f5, f6, f7, f8⟩ := frozen9 hS2.r; obtain ⟨d0, d1, d2, d3, d4, d5, d6, d7, d8⟩ := cells9 hS2.d; clear hS2; (try rw [HK.out])))
    refine bodyPost_ret (results_ct rfl _ _ w.heap.size 41 (cellsN n0) (0, 0) _ rfl (HS2.out.putR n0).r Tryd.underlying41 rfl (by kernel_rfl)) rfl ?_
    exact ⟨endN_no HK.out, (HS2.out.putR n0).bel⟩
  · have HK := Aside0.mk hk
    clear hk
    go_enter Tryd.func60, Tryd.ntmps60
    go_wp2_with (first
      | (go_at_call 90; refine (spec_l11Words.calls _ _ _ _ HW.out).mono ?_; rintro e w1 ⟨v, rfl, hR, hb1⟩; obtain ⟨A, cA, rfl, hc, hC⟩ := Kd.R_reads hR; obtain ⟨ad, rfl, hx0, hx1, hx2, hx3⟩ := four_cells hC; have hy0 := fun o => cell_below (below_alloc (Below.refl w1.heap.size w1) o) hx0; have hy1 := fun o => cell_below (below_alloc (Below.refl w1.heap.size w1) o) hx1; have hy2 := fun o => cell_below (below_alloc (Below.refl w1.heap.size w1) o) hx2; have hy3 := fun o => cell_below (below_alloc (Below.refl w1.heap.size w1) o) hx3; have HS := Aside0.mk (St.mk (g := w1.heap.size) (below_alloc (below_step (below_alloc (Below.refl _ _) _) hb1) _) (Nat.le_refl _) (Nat.lt_of_lt_of_le (by simp) hb1.size) (blk_alloc (blk_below (blk_new w (blkN n0)) hb1) _) (blk_new w1 (blkN n0))); clear hR hb1 hC)
      | (go_at_call 92; (with_reducible refine (spec_l01Value.calls 60 (txt b) _ _ _ HV1.out).mono ?_); rintro e w3 ⟨rfl, hb3⟩; have hz0 := cell_below hb3 (hy0 _); have hz2 := cell_below hb3 (hy2 _); have hz3 := cell_below hb3 (hy3 _); have hS := HS.out.step hb3; skip; have HS := Aside0.mk hS; clear hS hb3)
      | (go_at_call 92; (with_reducible refine (spec_l01Value.calls 60 (txt c) _ _ _ HV2.out).mono ?_); rintro e w4 ⟨rfl, hb4⟩; have hz0 := cell_below hb4 hz0; have hz3 := cell_below hb4 hz3; have hS := HS.out.step hb4; skip; have HS := Aside0.mk hS; clear hS hb4)
      | (go_at_call 92; (with_reducible refine (spec_l01Value.calls 60 (txt d) _ _ _ HV3.out).mono ?_); rintro e w5 ⟨rfl, hb5⟩; have hz0 := cell_below hb5 hz0; have hS := HS.out.step hb5; obtain ⟨d0, d1, d2, d3, d4, d5, d6, d7, d8⟩ := cells9 hS.d; obtain ⟨k0, k1, k2, k3, k4, k5, k6, k7, k8⟩ := frozen9 hS.d; have HS := Aside0.mk hS; clear hS hb5)
      | (go_at_call 43; refine (HS.out.look).mono ?_; rintro e w9 ⟨rfl, hS2⟩; have HS2 := Aside0.mk hS2; obtain ⟨c0, c1, c2, c3, c4, c5, c6, c7, c8⟩ := cells9 hS2.r; obtain ⟨f0, f1, f2, f3, f4, f5, f6, f7, f8⟩ := frozen9 hS2.r; obtain ⟨d0, d1, d2, d3, d4, d5, d6, d7, d8⟩ := cells9 hS2.d; clear hS2; (try rw [HK.out])))
    refine bodyPost_ret (results_ct rfl _ _ w.heap.size 41 (cellsN n0) (0, 0) _ rfl (HS2.out.putR n0).r Tryd.underlying41 rfl (by kernel_rfl)) rfl ?_
    exact ⟨endN_yes HK.out, (HS2.out.putR n0).bel⟩

end Go.Proofs.YtkbklocfdoofeaaDoor.Hs

/- readIn: the number in a range whose decimal is a text. -/
namespace Go.Proofs.YtkbklocfdoofeaaDoor.Ri
open Go.RowKit Go.Proofs.YtkbklocfdoofeaaDoorW.PrintWords Go.Proofs.YtkbklocfdoofeaaDoorW.PrintLast Go.Proofs.YtkbklocfdoofeaaDoorW.PrintMore Go.Proofs.YtkbklocfdoofeaaDoor.Ha Go.Proofs.YtkbklocfdoofeaaDoor.Sp

theorem parse_ok (s : ByteArray) (hs : s.size ≤ 281474976710656) (v : Int) (h : Lib.parseIntB 64 s.data.toList = .ok v) (w : World) :
    Calls Tryd.prog 104 #[.string s, .int .i64 10, .int .i64 64] w fun e w' => e = .returned (.tuple #[.int .i64 v, .nilIface]) ∧ Below w.heap.size w w' := by
  refine (Any.strconv_ParseInt_10_at64_ok Tryd.laysC174 s (by omega) v h w).mono ?_
  rintro e w' ⟨rfl, rfl | ⟨t, rfl⟩⟩
  · exact ⟨rfl, Below.refl _ _⟩
  · exact ⟨rfl, Lib.bytesWorld_below _ _ _⟩
theorem parse_no (s : ByteArray) (hs : s.size ≤ 281474976710656) (h : ∀ v, Lib.parseIntB 64 s.data.toList ≠ .ok v) (w : World) (hT : Tb.TC w) :
    Calls Tryd.prog 104 #[.string s, .int .i64 10, .int .i64 64] w fun e w' => (∃ n a, e = .returned (.tuple #[.int .i64 n, .iface 165 (.pointer (some a))])) ∧ Below w.heap.size w w' := by
  obtain ⟨_, ⟨t1, p1, h1⟩, t2, p2, h2⟩ := hT
  cases hp : Lib.parseIntB 64 s.data.toList with
  | ok v => exact absurd hp (h v)
  | _ =>
    first
    | exact (Any.strconv_ParseInt_10_at64_range_var Tryd.laysC174 s hs hp t2 p2 w h2).mono fun e w' ⟨N, he, _, _, hb⟩ => ⟨⟨_, _, he⟩, hb⟩
    | exact (Any.strconv_ParseInt_10_at64_syntax_var Tryd.laysC174 s hs hp t1 p1 w h1).mono fun e w' ⟨N, he, _, _, hb⟩ => ⟨⟨_, _, he⟩, hb⟩

def readR (l : List UInt8) (lo hi : Int) : Ending := .returned (.tuple #[.int .i64 (readL l lo hi).1, .bool (readL l lo hi).2])
section
variable {s : ByteArray} {lo hi v : Int}
theorem r_yes (hp : Hid (Lib.parseIntB 64 s.data.toList = .ok v)) (h1 : Lib.itoa v = s.toList) (h2 : (!inB lo hi v) = false) : Ending.returned (.tuple #[.int .i64 v, .bool true]) = readR s.data.toList lo hi := by
  rw [ByteArray.toList_eq] at h1
  have hb : lo ≤ v ∧ v ≤ hi := by simpa [inB] using h2
  simp [readR, readL, hp.out, h1, hb]
theorem r_no2 (hp : Hid (Lib.parseIntB 64 s.data.toList = .ok v)) (h2 : (!inB lo hi v) = true) : Ending.returned (.tuple #[.int .i64 0, .bool false]) = readR s.data.toList lo hi := by
  have hb : ¬ (lo ≤ v ∧ v ≤ hi) := by have h3 := h2; simp [inB] at h3; omega
  simp [readR, readL, hp.out, hb]
theorem r_no1 (hp : Hid (Lib.parseIntB 64 s.data.toList = .ok v)) (h1 : ¬ Lib.itoa v = s.toList) : Ending.returned (.tuple #[.int .i64 0, .bool false]) = readR s.data.toList lo hi := by
  rw [ByteArray.toList_eq] at h1
  simp [readR, readL, hp.out, h1]
end
theorem readIn_no (s : ByteArray) (lo hi : Int) (hs : s.size ≤ 281474976710656) (h : ∀ v, Lib.parseIntB 64 s.data.toList ≠ .ok v) (w : World) (hT : Tb.TC w) :
    Calls Tryd.prog 88 #[.string s, .int .i64 lo, .int .i64 hi] w fun e w' => e = readR s.data.toList lo hi ∧ Below w.heap.size w w' := by
  have HE := Lib.hid (show Ending.returned (.tuple #[.int .i64 0, .bool false]) = readR s.data.toList lo hi by unfold readR readL; cases hp : Lib.parseIntB 64 s.data.toList with | ok v => exact absurd hp (h v) | _ => rfl)
  go_enter Tryd.func88, Tryd.ntmps88
  go_wp2_with (go_at_call 104; refine (parse_no _ hs h _ hT).mono ?_; rintro e w1 ⟨⟨n, a, rfl⟩, hb1⟩)
  go_ret2
  exact ⟨HE.out, hb1⟩

theorem readIn_ok (s : ByteArray) (lo hi : Int) (hs : s.size ≤ 281474976710656) (v : Int) (h : Lib.parseIntB 64 s.data.toList = .ok v) (w : World) (hT : Tb.TB w) :
    Calls Tryd.prog 88 #[.string s, .int .i64 lo, .int .i64 hi] w fun e w' => e = readR s.data.toList lo hi ∧ Below w.heap.size w w' := by
  have hv := Lib.parseIntB_bounds h
  have hv1 : -9223372036854775808 ≤ v := by have := hv.1; simpa using this
  have hv2 : v ≤ 9223372036854775807 := by have := hv.2; simp at this; omega
  have HT := Aside0.mk hT
  have HP := Lib.hid h
  clear hv h hT
  go_enter Tryd.func88, Tryd.ntmps88
  go_wp2_with (first
    | (go_at_call 104; refine (parse_ok _ hs v HP.out _).mono ?_; rintro e w1 ⟨rfl, hb1⟩)
    | (go_at_call 41; refine (Tb.decimal_any _ hv1 hv2 _ (Tb.TB.below HT.out hb1)).mono ?_; rintro e w2 ⟨rfl, hb2⟩)
    | (go_at_call 70; refine (within_any _ _ _ _).mono ?_; rintro e w' ⟨rfl, rfl⟩))
  all_goals go_ret2
  all_goals exact ⟨by first | exact r_yes HP ‹_› ‹_› | exact r_no1 HP ‹_› | exact r_no2 HP ‹_›, by first | exact below_step hb1 hb2 | exact hb1⟩

theorem readIn_any (s : ByteArray) (lo hi : Int) (hs : s.size ≤ 281474976710656) (w : World) (hT : Tb.TC w) :
    Calls Tryd.prog 88 #[.string s, .int .i64 lo, .int .i64 hi] w fun e w' => e = readR s.data.toList lo hi ∧ Below w.heap.size w w' := by
  by_cases h : ∃ v, Lib.parseIntB 64 s.data.toList = .ok v
  · obtain ⟨v, h⟩ := h
    exact readIn_ok s lo hi hs v h w hT.tb
  · exact readIn_no s lo hi hs (fun v hv => h ⟨v, hv⟩) w hT
end Go.Proofs.YtkbklocfdoofeaaDoor.Ri

-- made by a patched copy of print.sh: this session's own
namespace Go.Proofs.YtkbklocfdoofeaaDoor.Q
open Go.RowKit Go.Proofs.YtkbklocfdoofeaaDoorW.PrintWords Go.Proofs.YtkbklocfdoofeaaDoorW.PrintLast Go.Proofs.YtkbklocfdoofeaaDoorW.PrintMore
attribute [local go_sem] max2_int min2_int max_two min_two max_three min_three max_four min_four   -- for this text's walks alone
set_option linter.unusedVariables false
set_option linter.unusedSimpArgs false

/-! ### impl_readIn: function 88 -/
def impl_readIn.f (a0 : ByteArray) (a1 : Int) (a2 : Int) : Option (Int × Bool) := if a0.size ≤ 281474976710656 then some (Sp.readL a0.data.toList a1 a2) else none
theorem impl_readIn.calls (a0 : ByteArray) (a1 : Int) (a2 : Int) (r1 : Int) (r2 : Bool) (w : World) (hT : Tb.TC w) (h : impl_readIn.f a0 a1 a2 = some (r1, r2)) :
    Calls Tryd.prog 88 #[.string a0, .int .i64 a1, .int .i64 a2] w fun e w' => e = .returned (.tuple #[.int .i64 r1, .bool r2]) ∧ Below w.heap.size w w' := by
  unfold impl_readIn.f at h
  split at h
  · rename_i hs
    have h2 := Option.some.inj h
    have := Ri.readIn_any a0 a1 a2 hs w hT
    unfold Ri.readR at this
    rw [h2] at this
    exact this
  · cases h

end Go.Proofs.YtkbklocfdoofeaaDoor.Q

-- made by a patched copy of print.sh: this session's own
namespace Go.Proofs.YtkbklocfdoofeaaDoor.Q
open Go.RowKit Go.Proofs.YtkbklocfdoofeaaDoorW.PrintWords Go.Proofs.YtkbklocfdoofeaaDoorW.PrintLast Go.Proofs.YtkbklocfdoofeaaDoorW.PrintMore
attribute [local go_sem] max2_int min2_int max_two min_two max_three min_three max_four min_four   -- for this text's walks alone
set_option linter.unusedVariables false
set_option linter.unusedSimpArgs false

/-! ### impl_ReadDecimal: function 56 -/
def impl_ReadDecimal.f (a0 : ByteArray) : Option (Int × Bool) := (impl_readIn.f a0 (-1000000000) 1000000000).bind fun bt410 => (some (bt410.1, bt410.2))
set_option maxHeartbeats 8000000 in
set_option maxRecDepth 100000 in
theorem impl_ReadDecimal.calls (a0 : ByteArray) (r1 : Int) (r2 : Bool) (w : World) (hT : Tb.TC w) (h : impl_ReadDecimal.f a0 = some (r1, r2)) :
    Calls Tryd.prog 56 #[.string a0] w fun e w' => e = .returned (.tuple #[.int .i64 r1, .bool r2]) ∧ Below w.heap.size w w' := by
  have HT := Aside0.mk hT
  clear hT
  have HB := Aside0.mk (Below.refl w.heap.size w)
  have H : ((impl_readIn.f a0 (-1000000000) 1000000000).bind fun bt410 => (some (bt410.1, bt410.2))) = some (r1, r2) := h
  clear h
  replace H := Option.bind_eq_some_iff.mp H
  obtain ⟨⟨t410, t411⟩, A20, H⟩ := H
  replace H : (some (t410, t411)) = some (r1, r2) := H
  have A2 := Aside0.mk A20
  clear A20
  simp only [Option.some.injEq, Prod.mk.injEq] at H
  obtain ⟨rfl, rfl⟩ := H
  go_enter Tryd.func56, Tryd.ntmps56
  go_wp2_with (first | ((with_reducible refine gate_callee (f := 88) rfl ?_); refine goesL_ (some 5) rfl rfl Tryd.func88 (by kernel_rfl) rfl #[.string a0, .int .i64 (-1000000000), .int .i64 1000000000] rfl (by (try simp only [List.map_toArray, List.map_cons, List.map_nil]); first | done | rfl | (simp only [List.length_drop, List.length_take]; rfl)) ?_; (with_reducible refine (impl_readIn.calls a0 (-1000000000) 1000000000 t410 t411 _ ?side1 A2.out).mono ?_); (case side1 => first | exact HT.out | exact Tb.TC.below HT.out (by repeat (first | (with_reducible first | exact HB.out | apply below_alloc | apply pw_below_drewN | apply below_drew1) | exact HB.out))); rintro e w3 ⟨rfl, hb⟩; refine ⟨_, rfl, ?_⟩; have n0_ := Aside0.mk (below_step (by repeat (first | (with_reducible first | exact HB.out | apply below_alloc | apply pw_below_drewN | apply below_drew1) | exact HB.out)) hb); clear HB; have HB := n0_; clear n0_; (try clear hb); (try clear hb2); (try clear hk); (try clear hi)))
  go_ret2
  exact ⟨by first | rfl | (simp [errW_none, errW_some] <;> rfl) | (simp [*, errW_none, errW_some] <;> rfl), by repeat (first | (with_reducible first | exact HB.out | apply below_alloc | apply pw_below_drewN | apply below_drew1) | exact HB.out)⟩

end Go.Proofs.YtkbklocfdoofeaaDoor.Q

-- made by a patched copy of print.sh: this session's own
namespace Go.Proofs.YtkbklocfdoofeaaDoor.Q
open Go.RowKit Go.Proofs.YtkbklocfdoofeaaDoorW.PrintWords Go.Proofs.YtkbklocfdoofeaaDoorW.PrintLast Go.Proofs.YtkbklocfdoofeaaDoorW.PrintMore
attribute [local go_sem] max2_int min2_int max_two min_two max_three min_three max_four min_four   -- for this text's walks alone
set_option linter.unusedVariables false
set_option linter.unusedSimpArgs false

/-! ### impl_readRing: function 93 -/
def impl_readRing.j0 : Nat → ByteArray → Bool → Option (Int × Int × Bool)
  | 0, _, _ => none
  | k + 1, x0, x18 => if x18 = true then (some (0, 0, false)) else (if 1 ≤ (x0.size : Int) then ((impl_ReadDecimal.f (x0.extract 1 x0.size)).bind fun bt413 => (if 0 < (x0.size : Int) then (if (bt x0 0) = 116 then (if bt413.2 = true then ((impl_ValidRing.f 1 bt413.1).bind fun t416 => (some (1, bt413.1, t416))) else (some (1, bt413.1, false))) else (if bt413.2 = true then ((impl_ValidRing.f 0 bt413.1).bind fun t417 => (some (0, bt413.1, t417))) else (some (0, bt413.1, false)))) else (none))) else (none))
def impl_readRing.f (k : Nat) (a0 : ByteArray) : Option (Int × Int × Bool) := if a0.toList = ([] : List UInt8) then (impl_readRing.j0 k a0 true) else (if 0 < (a0.size : Int) then (if (bt a0 0) = 115 then (impl_readRing.j0 k a0 false) else (impl_readRing.j0 k a0 ((bt a0 0) != 116))) else (none))
def impl_readRing.T7 : Bool × List (List Nat × List Nat) := (true, [([], []), ([], []), ([1], [1]), ([2], [2]), ([3, 2, 2], [2, 3]), ([2, 4], [2, 4]), ([0, 4, 0], [0]), ([5, 6, 0, 1, 2, 3, 4, 5, 6], [5])])
def impl_readRing.B7 : List Nat := [0, 0, 2, 6, 14, 30, 31, 127]
theorem impl_readRing.tab7 : rtab .any (opsOf Tryd.f93 7) = impl_readRing.T7 := by kernel_rfl
theorem impl_readRing.bits7 : waitsOk impl_readRing.T7.2 impl_readRing.B7 = true := by kernel_rfl
set_option maxHeartbeats 8000000 in
set_option maxRecDepth 100000 in
theorem impl_readRing.calls (k : Nat) (a0 : ByteArray) (r1 : Int) (r2 : Int) (r3 : Bool) (w : World) (hT : Tb.TC w) (h : impl_readRing.f k a0 = some (r1, r2, r3)) :
    Calls Tryd.prog 93 #[.string a0] w fun e w' => e = .returned (.tuple #[.agg #[.int .i64 r1, .int .i64 r2], .bool r3]) ∧ Below w.heap.size w w' := by
  have HT := Aside0.mk hT
  clear hT
  have hu39 := Tryd.underlying39
  have HB := Aside0.mk (Below.refl w.heap.size w)
  have H : (if a0.toList = ([] : List UInt8) then (impl_readRing.j0 k a0 true) else (if 0 < (a0.size : Int) then (if (bt a0 0) = 115 then (impl_readRing.j0 k a0 false) else (impl_readRing.j0 k a0 ((bt a0 0) != 116))) else (none))) = some (r1, r2, r3) := h
  clear h
  have HC2 := Aside0.mk H
  clear H
  go_enter Tryd.func93, Tryd.ntmps93
  go_upto_region 1 with (first | ((with_reducible refine gate_dst (N := 2) rfl ?_); refine box_event ?hg (N := 2) ?hd (cs := #[.int .i64 0, .int .i64 0]) (t := 39) ?hr ?_; (case hd => rfl); (case hg => rfl); (case hr => first | (go_simp; done) | (go_simp; rfl)); intro gb412 hg w3 hbox hb; have n0_ := Aside0.mk (below_step (by repeat (first | (with_reducible first | exact HB.out | apply below_alloc | apply pw_below_drewN | apply below_drew1) | exact HB.out)) hb); have n1_ := Aside0.mk (hbox); have n2_ := Aside0.mk ((by rw [hg]; exact (below_size (by repeat (first | (with_reducible first | exact HB.out | apply below_alloc | apply pw_below_drewN | apply below_drew1) | exact HB.out))) : w.heap.size ≤ gb412)); have n3_ := Aside0.mk ((by rw [hg]; exact (below_size (by repeat (first | (with_reducible first | exact HB.out | apply below_alloc | apply pw_below_drewN | apply below_drew1) | exact HB.out))) : w.heap.size ≤ gb412)); clear HB; have HB := n0_; have BK412 := n1_; have GW412 := n2_; have GE412 := n3_; clear n0_ n1_ n2_ n3_; clear hb hbox hg))
  (try simp only [Act.put, List.setIfInBounds_toArray, List.set_cons_zero, List.set_cons_succ])
  go_cut [18] (fun v18 wc => ∃ (kq : Nat) (x18_1 : Bool), v18 = .bool x18_1 ∧ Aside0 (impl_readRing.j0 kq a0 x18_1 = some (r1, r2, r3)) ∧ Aside0 (kq ≤ k) ∧ Aside0 (wc.heap[gb412]? = some (.cells #[.int .i64 0, .int .i64 0] 39 (0, 0))) ∧ Aside0 (Below w.heap.size w wc))
  case first =>
    have H := HC2.out
    clear HC2
    by_cases c4 : a0.toList = ([] : List UInt8)
    · rw [if_pos c4] at H
      have c4b0 : (a0.toList == ([] : List UInt8)) = true := beq_iff_eq.mpr c4
      have c4b1 : (a0.toList != ([] : List UInt8)) = false := bne_eq_false_iff_eq.mpr c4
      clear c4
      (first | rw [c4b0] | (simp only [i64_w, i32_w]; rw [c4b0]) | skip)
      have H' := Aside0.mk H
      clear H
      go_wp2
      go_meet
      case rel => exact ⟨_, (true), (by first | rfl | (simp; done) | (simp [*]; done)), H', ⟨by first | omega | exact Nat.le_refl _⟩, ⟨by (with_reducible repeat (first | refine blk_drewN ?_ _ | refine blk_drew ?_ | refine blk_alloc ?_ _)); exact BK412.out⟩, ⟨by repeat (first | (with_reducible first | exact HB.out | apply below_alloc | apply pw_below_drewN | apply below_drew1 | refine below_set ?_ GE412.out) | exact HB.out)⟩⟩
    · rw [if_neg c4] at H
      have c4b0 : (a0.toList == ([] : List UInt8)) = false := beq_eq_false_iff_ne.mpr c4
      have c4b1 : (a0.toList != ([] : List UInt8)) = true := bne_iff_ne.mpr c4
      (first | rw [c4b0] | (simp only [i64_w, i32_w]; rw [c4b0]) | skip)
      by_cases c5 : 0 < (a0.size : Int)
      · rw [if_pos c5] at H
        have c5b0 : decide (0 < (a0.size : Int)) = true := decide_eq_true c5
        have c5b1 : decide (0 < a0.size) = true := decide_eq_true (by omega)
        clear c5
        by_cases c7 : (bt a0 0) = 115
        · rw [if_pos c7] at H
          have c7b0 : ((bt a0 0) == 115) = true := beq_iff_eq.mpr c7
          have c7b1 : ((bt a0 0) != 115) = false := bne_eq_false_iff_eq.mpr c7
          clear c7
          have H' := Aside0.mk H
          clear H
          have p6 : 0 ≤ (0 : Int) := (by omega)
          have q6 : 0 < a0.size := (by have : (0 : Int) < (a0.size : Int) := of_decide_eq_true (by first | (with_reducible assumption) | assumption); omega)
          have hx6 : ∀ h : 0 < a0.size, ((a0[0]'h).toNat : Int) = bt a0 0 := bt_at a0 0
          clear p6
          have qi6 : (0 < (a0.size : Int)) = True := eq_true (of_decide_eq_true (by first | (with_reducible assumption) | assumption))
          replace q6 := eq_true q6
          go_wp2
          go_meet
          case rel => exact ⟨_, (false), (by first | rfl | (simp; done) | (simp [*]; done)), H', ⟨by first | omega | exact Nat.le_refl _⟩, ⟨by (with_reducible repeat (first | refine blk_drewN ?_ _ | refine blk_drew ?_ | refine blk_alloc ?_ _)); exact BK412.out⟩, ⟨by repeat (first | (with_reducible first | exact HB.out | apply below_alloc | apply pw_below_drewN | apply below_drew1 | refine below_set ?_ GE412.out) | exact HB.out)⟩⟩
        · rw [if_neg c7] at H
          have c7b0 : ((bt a0 0) == 115) = false := beq_eq_false_iff_ne.mpr c7
          have c7b1 : ((bt a0 0) != 115) = true := bne_iff_ne.mpr c7
          have H' := Aside0.mk H
          clear H
          have p6 : 0 ≤ (0 : Int) := (by omega)
          have q6 : 0 < a0.size := (by have : (0 : Int) < (a0.size : Int) := of_decide_eq_true (by first | (with_reducible assumption) | assumption); omega)
          have hx6 : ∀ h : 0 < a0.size, ((a0[0]'h).toNat : Int) = bt a0 0 := bt_at a0 0
          clear p6
          have qi6 : (0 < (a0.size : Int)) = True := eq_true (of_decide_eq_true (by first | (with_reducible assumption) | assumption))
          replace q6 := eq_true q6
          have p8 : 0 ≤ (0 : Int) := (by omega)
          have q8 : 0 < a0.size := (by have : (0 : Int) < (a0.size : Int) := of_decide_eq_true (by first | (with_reducible assumption) | assumption); omega)
          have hx8 : ∀ h : 0 < a0.size, ((a0[0]'h).toNat : Int) = bt a0 0 := bt_at a0 0
          clear p8
          have qi8 : (0 < (a0.size : Int)) = True := eq_true (of_decide_eq_true (by first | (with_reducible assumption) | assumption))
          replace q8 := eq_true q8
          go_wp2
          go_meet
          case rel => exact ⟨_, (((bt a0 0) != 116)), (by first | rfl | (simp; done) | (simp [*]; done)), H', ⟨by first | omega | exact Nat.le_refl _⟩, ⟨by (with_reducible repeat (first | refine blk_drewN ?_ _ | refine blk_drew ?_ | refine blk_alloc ?_ _)); exact BK412.out⟩, ⟨by repeat (first | (with_reducible first | exact HB.out | apply below_alloc | apply pw_below_drewN | apply below_drew1 | refine below_set ?_ GE412.out) | exact HB.out)⟩⟩
      · rw [if_neg c5] at H
        exact absurd H (by simp)
  case rest =>
    clear HC2
    try clear p2
    try clear c4
    try clear c4b0
    try clear c4b1
    try clear c5
    try clear c5b0
    try clear c5b1
    try clear p6
    try clear q6
    try clear hx6
    try clear qi6
    try clear c7
    try clear c7b0
    try clear c7b1
    try clear p8
    try clear q8
    try clear hx8
    try clear qi8
    try clear p6
    try clear p8
    try clear q6
    try clear q8
    obtain ⟨kq, x18_1, rfl, HA, HJ1, BK412, HB⟩ := hcut
    cases kq with
    | zero => exact absurd HA.out (by simp [impl_readRing.j0])
    | succ kj1 =>
      have H := HA.out
      clear HA
      simp only [impl_readRing.j0] at H
      by_cases c9 : x18_1 = true
      · subst c9
        have H1 : (some (0, 0, false)) = some (r1, r2, r3) := by rw [if_pos rfl] at H; exact H
        clear H
        have H := H1
        clear H1
        simp only [Option.some.injEq, Prod.mk.injEq] at H
        obtain ⟨rfl, rfl, rfl⟩ := H
        have hcz10_0 : wc.cell? ⟨gb412, 0, none⟩ = some (.int .i64 0) := (blk_cell BK412.out 0).trans rfl
        have hcz10_1 : wc.cell? ⟨gb412, 1, none⟩ = some (.int .i64 0) := (blk_cell BK412.out 1).trans rfl
        have hfz10_0 := blk_frozen BK412.out 0
        have hfz10_1 := blk_frozen BK412.out 1
        go_wp2
        refine bodyPost_ret (results_ct rfl _ _ gb412 39 #[.int .i64 0, .int .i64 0] (0, 0) _ rfl (by (with_reducible repeat (first | refine blk_drewN ?_ _ | refine blk_drew ?_ | refine blk_alloc ?_ _)); refine blk_put (cs := #[.int .i64 0, .int .i64 0]) ?_ 1 _ rfl; (with_reducible repeat (first | refine blk_drewN ?_ _ | refine blk_drew ?_ | refine blk_alloc ?_ _)); refine blk_put (cs := #[.int .i64 0, .int .i64 0]) ?_ 0 _ rfl; (with_reducible repeat (first | refine blk_drewN ?_ _ | refine blk_drew ?_ | refine blk_alloc ?_ _)); exact BK412.out) Tryd.underlying39 rfl (by kernel_rfl)) rfl ?_
        exact ⟨by first | rfl | (simp [errW_none, errW_some] <;> rfl) | (simp [*, errW_none, errW_some] <;> rfl), by repeat (first | (with_reducible first | exact HB.out | apply below_alloc | apply pw_below_drewN | apply below_drew1 | refine below_set ?_ GE412.out) | exact HB.out)⟩
      · replace c9 := Bool.eq_false_iff.mpr c9
        subst c9
        have H1 : (if 1 ≤ (a0.size : Int) then ((impl_ReadDecimal.f (a0.extract 1 a0.size)).bind fun bt413 => (if 0 < (a0.size : Int) then (if (bt a0 0) = 116 then (if bt413.2 = true then ((impl_ValidRing.f 1 bt413.1).bind fun t416 => (some (1, bt413.1, t416))) else (some (1, bt413.1, false))) else (if bt413.2 = true then ((impl_ValidRing.f 0 bt413.1).bind fun t417 => (some (0, bt413.1, t417))) else (some (0, bt413.1, false)))) else (none))) else (none)) = some (r1, r2, r3) := by rw [if_neg (show ¬ (false = true) by decide)] at H; exact H
        clear H
        have H := H1
        clear H1
        by_cases c11 : 1 ≤ (a0.size : Int)
        · rw [if_pos c11] at H
          have c11b0 := eq_true c11
          have c11b1 : decide (1 ≤ (a0.size : Int)) = true := decide_eq_true c11
          clear c11
          replace H := Option.bind_eq_some_iff.mp H
          obtain ⟨⟨t413, t414⟩, A120, H⟩ := H
          replace H : (if 0 < (a0.size : Int) then (if (bt a0 0) = 116 then (if t414 = true then ((impl_ValidRing.f 1 t413).bind fun t416 => (some (1, t413, t416))) else (some (1, t413, false))) else (if t414 = true then ((impl_ValidRing.f 0 t413).bind fun t417 => (some (0, t413, t417))) else (some (0, t413, false)))) else (none)) = some (r1, r2, r3) := H
          have A12 := Aside0.mk A120
          clear A120
          by_cases c13 : 0 < (a0.size : Int)
          · rw [if_pos c13] at H
            have c13b0 : decide (0 < (a0.size : Int)) = true := decide_eq_true c13
            have c13b1 : decide (0 < a0.size) = true := decide_eq_true (by omega)
            clear c13
            by_cases c15 : (bt a0 0) = 116
            · rw [if_pos c15] at H
              have c15b0 : ((bt a0 0) == 116) = true := beq_iff_eq.mpr c15
              have c15b1 : ((bt a0 0) != 116) = false := bne_eq_false_iff_eq.mpr c15
              clear c15
              by_cases c16 : t414 = true
              · subst c16
                have H1 : ((impl_ValidRing.f 1 t413).bind fun t416 => (some (1, t413, t416))) = some (r1, r2, r3) := by rw [if_pos rfl] at H; exact H
                clear H
                have H := H1
                clear H1
                replace H := Option.bind_eq_some_iff.mp H
                obtain ⟨t416, A170, H⟩ := H
                replace H : (some (1, t413, t416)) = some (r1, r2, r3) := H
                have A17 := Aside0.mk A170
                clear A170
                simp only [Option.some.injEq, Prod.mk.injEq] at H
                obtain ⟨rfl, rfl, rfl⟩ := H
                try go_wp2_with (first | ((with_reducible refine gate_callee (f := 56) rfl ?_); refine goesL_ (some 23) rfl rfl Tryd.func56 (by kernel_rfl) rfl #[.string (a0.extract 1 a0.size)] rfl (by (try simp only [List.map_toArray, List.map_cons, List.map_nil]); first | done | rfl | (simp only [List.length_drop, List.length_take]; rfl)) ?_; (with_reducible refine (impl_ReadDecimal.calls (a0.extract 1 a0.size) t413 true _ ?side1 A12.out).mono ?_); (case side1 => first | exact HT.out | exact Tb.TC.below HT.out (by repeat (first | (with_reducible first | exact HB.out | apply below_alloc | apply pw_below_drewN | apply below_drew1 | refine below_set ?_ GE412.out) | exact HB.out))); rintro e w18 ⟨rfl, hb⟩; refine ⟨_, rfl, ?_⟩; have n0_ := Aside0.mk (blk_below (g := gb412) (o := .cells #[.int .i64 0, .int .i64 0] 39 (0, 0)) (by (with_reducible repeat (first | refine blk_drewN ?_ _ | refine blk_drew ?_ | refine blk_alloc ?_ _)); exact BK412.out) hb); have n1_ := Aside0.mk (below_step (by repeat (first | (with_reducible first | exact HB.out | apply below_alloc | apply pw_below_drewN | apply below_drew1 | refine below_set ?_ GE412.out) | exact HB.out)) hb); clear BK412; clear HB; have BK412 := n0_; have HB := n1_; clear n0_ n1_; (try clear hb); (try clear hb2); (try clear hk); (try clear hi)) | ((with_reducible refine gate_dst (N := 6) rfl ?_); refine box_event ?hg (N := 6) ?hd (cs := #[.int .i64 0, .int .i64 0]) (t := 39) ?hr ?_; (case hd => rfl); (case hg => rfl); (case hr => first | (go_simp; done) | (go_simp; rfl)); intro gb415 hg w19 hbox hb; have n0_ := Aside0.mk (blk_below (g := gb412) (o := .cells #[.int .i64 0, .int .i64 0] 39 (0, 0)) (by (with_reducible repeat (first | refine blk_drewN ?_ _ | refine blk_drew ?_ | refine blk_alloc ?_ _)); exact BK412.out) hb); have n1_ := Aside0.mk (below_step (by repeat (first | (with_reducible first | exact HB.out | apply below_alloc | apply pw_below_drewN | apply below_drew1 | refine below_set ?_ GE412.out) | exact HB.out)) hb); have n2_ := Aside0.mk (hbox); have n3_ := Aside0.mk ((by rw [hg]; exact (below_size (by repeat (first | (with_reducible first | exact HB.out | apply below_alloc | apply pw_below_drewN | apply below_drew1 | refine below_set ?_ GE412.out) | exact HB.out))) : w.heap.size ≤ gb415)); have n4_ := Aside0.mk ((by rw [hg]; exact (below_size (by repeat (first | (with_reducible first | exact HB.out | apply below_alloc | apply pw_below_drewN | apply below_drew1 | refine below_set ?_ GE412.out) | exact HB.out))) : w.heap.size ≤ gb415)); have n5_ := Aside0.mk ((by rw [hg]; exact Nat.ne_of_lt (blk_lt (g := gb412) (o := .cells #[.int .i64 0, .int .i64 0] 39 (0, 0)) (by (with_reducible repeat (first | refine blk_drewN ?_ _ | refine blk_drew ?_ | refine blk_alloc ?_ _)); exact BK412.out)) : gb412 ≠ gb415)); have n6_ := Aside0.mk ((by rw [hg]; exact Nat.ne_of_gt (blk_lt (g := gb412) (o := .cells #[.int .i64 0, .int .i64 0] 39 (0, 0)) (by (with_reducible repeat (first | refine blk_drewN ?_ _ | refine blk_drew ?_ | refine blk_alloc ?_ _)); exact BK412.out)) : gb415 ≠ gb412)); clear BK412; clear HB; have BK412 := n0_; have HB := n1_; have BK415 := n2_; have GW415 := n3_; have GE415 := n4_; have NB412_415 := n5_; have NB415_412 := n6_; clear n0_ n1_ n2_ n3_ n4_ n5_ n6_; clear hb hbox hg; have hnb20 := NB415_412.out; have hnc20 := NB412_415.out; have hcz21_0 : w19.cell? ⟨gb415, 0, none⟩ = some (.int .i64 0) := (blk_cell BK415.out 0).trans rfl; have hcz21_1 : w19.cell? ⟨gb415, 1, none⟩ = some (.int .i64 0) := (blk_cell BK415.out 1).trans rfl; have hfz21_0 := blk_frozen BK415.out 0; have hfz21_1 := blk_frozen BK415.out 1; have p14 : 0 ≤ (0 : Int) := (by omega); have q14 : 0 < a0.size := (by have : (0 : Int) < (a0.size : Int) := of_decide_eq_true (by first | (with_reducible assumption) | assumption); omega); have hx14 : ∀ h : 0 < a0.size, ((a0[0]'h).toNat : Int) = bt a0 0 := bt_at a0 0; clear p14; have qi14 : (0 < (a0.size : Int)) = True := eq_true (of_decide_eq_true (by first | (with_reducible assumption) | assumption)); replace q14 := eq_true q14))
                have n0_ : Aside0 ((((w19.setCell ⟨gb415, 0, none⟩ (.int .i64 0)).setCell ⟨gb415, 1, none⟩ (.int .i64 t413)).setCell ⟨gb415, 0, none⟩ (.int .i64 1)).heap[gb412]? = some (.cells #[.int .i64 0, .int .i64 0] 39 (0, 0))) := ⟨by (with_reducible repeat (first | refine blk_drewN ?_ _ | refine blk_drew ?_ | refine blk_alloc ?_ _)); refine blk_far ?_ NB412_415.out _; (with_reducible repeat (first | refine blk_drewN ?_ _ | refine blk_drew ?_ | refine blk_alloc ?_ _)); refine blk_far ?_ NB412_415.out _; (with_reducible repeat (first | refine blk_drewN ?_ _ | refine blk_drew ?_ | refine blk_alloc ?_ _)); refine blk_far ?_ NB412_415.out _; (with_reducible repeat (first | refine blk_drewN ?_ _ | refine blk_drew ?_ | refine blk_alloc ?_ _)); exact BK412.out⟩
                have n1_ : Aside0 ((((w19.setCell ⟨gb415, 0, none⟩ (.int .i64 0)).setCell ⟨gb415, 1, none⟩ (.int .i64 t413)).setCell ⟨gb415, 0, none⟩ (.int .i64 1)).heap[gb415]? = some (.cells #[.int .i64 1, .int .i64 t413] 39 (0, 0))) := ⟨by (with_reducible repeat (first | refine blk_drewN ?_ _ | refine blk_drew ?_ | refine blk_alloc ?_ _)); refine blk_put (cs := #[.int .i64 0, .int .i64 t413]) ?_ 0 _ rfl; (with_reducible repeat (first | refine blk_drewN ?_ _ | refine blk_drew ?_ | refine blk_alloc ?_ _)); refine blk_put (cs := #[.int .i64 0, .int .i64 0]) ?_ 1 _ rfl; (with_reducible repeat (first | refine blk_drewN ?_ _ | refine blk_drew ?_ | refine blk_alloc ?_ _)); refine blk_put (cs := #[.int .i64 0, .int .i64 0]) ?_ 0 _ rfl; (with_reducible repeat (first | refine blk_drewN ?_ _ | refine blk_drew ?_ | refine blk_alloc ?_ _)); exact BK415.out⟩
                have n2_ : Aside0 (Below w.heap.size w (((w19.setCell ⟨gb415, 0, none⟩ (.int .i64 0)).setCell ⟨gb415, 1, none⟩ (.int .i64 t413)).setCell ⟨gb415, 0, none⟩ (.int .i64 1))) := ⟨by repeat (first | (with_reducible first | exact HB.out | apply below_alloc | apply pw_below_drewN | apply below_drew1 | refine below_set ?_ GE412.out | refine below_set ?_ GE415.out) | exact HB.out)⟩
                (try clear BK412)
                (try clear BK415)
                (try clear HB)
                generalize (((w19.setCell ⟨gb415, 0, none⟩ (.int .i64 0)).setCell ⟨gb415, 1, none⟩ (.int .i64 t413)).setCell ⟨gb415, 0, none⟩ (.int .i64 1)) = w22 at n0_ n1_ n2_ ⊢
                have BK412 := n0_
                have BK415 := n1_
                have HB := n2_
                clear n0_ n1_ n2_
                have n0_ := Aside0.mk (blk_drew BK412.out)
                have n1_ := Aside0.mk (blk_drew BK415.out)
                have n2_ := Aside0.mk (below_drew1 HB.out)
                clear BK412
                clear BK415
                clear HB
                have BK412 := n0_
                have BK415 := n1_
                have HB := n2_
                clear n0_ n1_ n2_
                refine start_ (n := 8) (S := fun w' => w'.cell? ⟨gb415, 0, none⟩ = some (.int .i64 1) ∧ w'.cell? ⟨gb415, 1, none⟩ = some (.int .i64 t413)) (ds := []) #[false, false, false, false, false, false, false, false] (by kernel_rfl) rfl rfl ⟨(blk_cell BK415.out 0).trans rfl, (blk_cell BK415.out 1).trans rfl⟩ (fun hHeld => ?_); refine with_tabW impl_readRing.tab7 impl_readRing.bits7 (fun HT_ HW_ => ?_)
                generalize w22.drew = w23 at BK412 BK415 HB hHeld ⊢
                refine pure_ (i := 1) (N := some 33) (v := ?_) (a' := ?_) #[false, true, false, false, false, false, false, false] rfl rfl (any_of HT_.out (by kernel_rfl)) (fun _ _ _ h => h) (Or.inl ⟨by rfl, ?_⟩) ?_ ?_
                rotate_left
                · intro w'
                  go_simp
                  with_reducible rfl
                rotate_left
                · simp only [Act.put, List.setIfInBounds_toArray, List.set_cons_zero, List.set_cons_succ, i64_w, i32_w]
                  rfl
                refine pure_ (i := 2) (N := some 34) (v := ?_) (a' := ?_) #[false, true, true, false, false, false, false, false] rfl rfl (any_of HT_.out (by kernel_rfl)) (fun _ _ _ h => h) (Or.inl ⟨by rfl, ?_⟩) ?_ ?_
                rotate_left
                · intro w'
                  go_simp
                  with_reducible rfl
                rotate_left
                · simp only [Act.put, List.setIfInBounds_toArray, List.set_cons_zero, List.set_cons_succ, i64_w, i32_w]
                  rfl
                refine take_ (i := 0) (N := some 32) (v := ?_) (a' := ?_) #[true, true, true, false, false, false, false, false] rfl rfl (take_ofW HT_.out HW_.out (by kernel_rfl)) (fun _ _ _ h => h) (Or.inl ⟨by rfl, ?_⟩) hHeld ?_ ?_
                rotate_left
                · rintro w' ⟨s0, s1⟩
                  go_simp
                  with_reducible rfl
                rotate_left
                · simp only [Act.put, List.setIfInBounds_toArray, List.set_cons_zero, List.set_cons_succ, i64_w, i32_w]
                  rfl
                refine take_ (i := 3) (N := some 35) (v := ?_) (a' := ?_) #[true, true, true, true, false, false, false, false] rfl rfl (take_ofW HT_.out HW_.out (by kernel_rfl)) (fun _ _ _ h => h) (Or.inl ⟨by rfl, ?_⟩) hHeld ?_ ?_
                rotate_left
                · rintro w' ⟨s0, s1⟩
                  go_simp
                  with_reducible rfl
                rotate_left
                · simp only [Act.put, List.setIfInBounds_toArray, List.set_cons_zero, List.set_cons_succ, i64_w, i32_w]
                  rfl
                refine one_ (i := 4) (N := some 36) #[true, true, true, true, true, false, false, false] rfl rfl (one_of HT_.out (by kernel_rfl)) (by decide) (fun K hK => ?_)
                refine goes_ Tryd.func80 (by kernel_rfl) rfl #[.agg #[.int .i64 1, .int .i64 t413]] (by rfl) rfl rfl (by (try simp only [List.map_toArray, List.map_cons, List.map_nil]); first | done | rfl | (simp only [List.length_drop, List.length_take]; rfl)) ?_
                with_reducible refine (impl_ValidRing.calls 1 t413 t416 _ A17.out).mono ?_
                rintro e w24 ⟨rfl, hb⟩
                refine ⟨_, rfl, ?_⟩
                have n0_ := Aside0.mk (blk_below (g := gb412) (o := .cells #[.int .i64 0, .int .i64 0] 39 (0, 0)) (by (with_reducible repeat (first | refine blk_drewN ?_ _ | refine blk_drew ?_ | refine blk_alloc ?_ _)); exact BK412.out) hb)
                have n1_ := Aside0.mk (blk_below (g := gb415) (o := .cells #[.int .i64 1, .int .i64 t413] 39 (0, 0)) (by (with_reducible repeat (first | refine blk_drewN ?_ _ | refine blk_drew ?_ | refine blk_alloc ?_ _)); exact BK415.out) hb)
                have n2_ := Aside0.mk (below_step (by repeat (first | (with_reducible first | exact HB.out | apply below_alloc | apply pw_below_drewN | apply below_drew1 | refine below_set ?_ GE412.out | refine below_set ?_ GE415.out) | exact HB.out)) hb)
                clear BK412
                clear BK415
                clear HB
                have BK412 := n0_
                have BK415 := n1_
                have HB := n2_
                clear n0_ n1_ n2_
                (try clear hb)
                (try clear hb2)
                (try clear hk)
                (try clear hi)
                refine hK.out _ _ ⟨(blk_cell BK415.out 0).trans rfl, (blk_cell BK415.out 1).trans rfl⟩ (fun hHeld => ?_)
                clear hK K
                refine norm_ (a' := ?_) ?_ ?_
                rotate_left
                · show Act.put _ (some 36) _ = _
                  simp only [Act.put, List.setIfInBounds_toArray, List.set_cons_zero, List.set_cons_succ, i64_w, i32_w]
                  rfl
                refine pure_ (i := 5) (N := some 37) (v := ?_) (a' := ?_) #[true, true, true, true, true, true, false, false] rfl rfl (any_of HT_.out (by kernel_rfl)) (fun _ _ _ h => h) (Or.inl ⟨by rfl, ?_⟩) ?_ ?_
                rotate_left
                · intro w'
                  go_simp
                  with_reducible rfl
                rotate_left
                · simp only [Act.put, List.setIfInBounds_toArray, List.set_cons_zero, List.set_cons_succ, i64_w, i32_w]
                  rfl
                refine one_ (i := 6) (N := none) #[true, true, true, true, true, true, true, false] rfl rfl (one_of HT_.out (by kernel_rfl)) (by decide) (fun K hK => ?_)
                have hs25 : w24.cell? ⟨gb412, 0, none⟩ = some (.int .i64 0) := (blk_cell BK412.out 0).trans rfl
                have hfs25 := blk_frozen BK412.out 0
                have hns25_1 := NB415_412.out
                have hms25_1 := NB412_415.out
                have hs26 : w24.cell? ⟨gb412, 1, none⟩ = some (.int .i64 0) := (blk_cell BK412.out 1).trans rfl
                have hfs26 := blk_frozen BK412.out 1
                have hns26_1 := NB415_412.out
                have hms26_1 := NB412_415.out
                refine skip_ (w1 := ?_) (by rfl) rfl ?_ ?_
                rotate_left
                · go_simp
                  rfl
                refine hK.out _ _ ⟨((cell_far (p := ⟨gb412, _, none⟩) NB415_412.out _).trans (((cell_far (p := ⟨gb412, _, none⟩) NB415_412.out _).trans (hHeld.1)))), ((cell_far (p := ⟨gb412, _, none⟩) NB415_412.out _).trans (((cell_far (p := ⟨gb412, _, none⟩) NB415_412.out _).trans (hHeld.2))))⟩ (fun hHeld => ?_)
                clear hK K
                refine pure_ (i := 7) (N := some 3) (v := ?_) (a' := ?_) #[true, true, true, true, true, true, true, true] rfl rfl (any_of HT_.out (by kernel_rfl)) (fun _ _ _ h => h) (Or.inl ⟨by rfl, ?_⟩) ?_ ?_
                rotate_left
                · intro w'
                  go_simp
                  with_reducible rfl
                rotate_left
                · simp only [Act.put, List.setIfInBounds_toArray, List.set_cons_zero, List.set_cons_succ, i64_w, i32_w]
                  rfl
                refine done_ (done_of HT_.out (by kernel_rfl)) ?_
                try go_wp2
                refine bodyPost_ret (results_ct rfl _ _ gb412 39 #[.int .i64 1, .int .i64 t413] (0, 0) _ rfl (by (with_reducible repeat (first | refine blk_drewN ?_ _ | refine blk_drew ?_ | refine blk_alloc ?_ _)); refine blk_put (cs := #[.int .i64 1, .int .i64 0]) ?_ 1 _ rfl; (with_reducible repeat (first | refine blk_drewN ?_ _ | refine blk_drew ?_ | refine blk_alloc ?_ _)); refine blk_put (cs := #[.int .i64 0, .int .i64 0]) ?_ 0 _ rfl; (with_reducible repeat (first | refine blk_drewN ?_ _ | refine blk_drew ?_ | refine blk_alloc ?_ _)); exact BK412.out) Tryd.underlying39 rfl (by kernel_rfl)) rfl ?_
                exact ⟨by first | rfl | (simp [errW_none, errW_some] <;> rfl) | (simp [*, errW_none, errW_some] <;> rfl), by repeat (first | (with_reducible first | exact HB.out | apply below_alloc | apply pw_below_drewN | apply below_drew1 | refine below_set ?_ GE412.out | refine below_set ?_ GE415.out) | exact HB.out)⟩
              · replace c16 := Bool.eq_false_iff.mpr c16
                subst c16
                have H1 : (some (1, t413, false)) = some (r1, r2, r3) := by rw [if_neg (show ¬ (false = true) by decide)] at H; exact H
                clear H
                have H := H1
                clear H1
                simp only [Option.some.injEq, Prod.mk.injEq] at H
                obtain ⟨rfl, rfl, rfl⟩ := H
                try go_wp2_with (first | ((with_reducible refine gate_callee (f := 56) rfl ?_); refine goesL_ (some 23) rfl rfl Tryd.func56 (by kernel_rfl) rfl #[.string (a0.extract 1 a0.size)] rfl (by (try simp only [List.map_toArray, List.map_cons, List.map_nil]); first | done | rfl | (simp only [List.length_drop, List.length_take]; rfl)) ?_; (with_reducible refine (impl_ReadDecimal.calls (a0.extract 1 a0.size) t413 false _ ?side1 A12.out).mono ?_); (case side1 => first | exact HT.out | exact Tb.TC.below HT.out (by repeat (first | (with_reducible first | exact HB.out | apply below_alloc | apply pw_below_drewN | apply below_drew1 | refine below_set ?_ GE412.out) | exact HB.out))); rintro e w27 ⟨rfl, hb⟩; refine ⟨_, rfl, ?_⟩; have n0_ := Aside0.mk (blk_below (g := gb412) (o := .cells #[.int .i64 0, .int .i64 0] 39 (0, 0)) (by (with_reducible repeat (first | refine blk_drewN ?_ _ | refine blk_drew ?_ | refine blk_alloc ?_ _)); exact BK412.out) hb); have n1_ := Aside0.mk (below_step (by repeat (first | (with_reducible first | exact HB.out | apply below_alloc | apply pw_below_drewN | apply below_drew1 | refine below_set ?_ GE412.out) | exact HB.out)) hb); clear BK412; clear HB; have BK412 := n0_; have HB := n1_; clear n0_ n1_; (try clear hb); (try clear hb2); (try clear hk); (try clear hi)) | ((with_reducible refine gate_dst (N := 6) rfl ?_); refine box_event ?hg (N := 6) ?hd (cs := #[.int .i64 0, .int .i64 0]) (t := 39) ?hr ?_; (case hd => rfl); (case hg => rfl); (case hr => first | (go_simp; done) | (go_simp; rfl)); intro gb415 hg w28 hbox hb; have n0_ := Aside0.mk (blk_below (g := gb412) (o := .cells #[.int .i64 0, .int .i64 0] 39 (0, 0)) (by (with_reducible repeat (first | refine blk_drewN ?_ _ | refine blk_drew ?_ | refine blk_alloc ?_ _)); exact BK412.out) hb); have n1_ := Aside0.mk (below_step (by repeat (first | (with_reducible first | exact HB.out | apply below_alloc | apply pw_below_drewN | apply below_drew1 | refine below_set ?_ GE412.out) | exact HB.out)) hb); have n2_ := Aside0.mk (hbox); have n3_ := Aside0.mk ((by rw [hg]; exact (below_size (by repeat (first | (with_reducible first | exact HB.out | apply below_alloc | apply pw_below_drewN | apply below_drew1 | refine below_set ?_ GE412.out) | exact HB.out))) : w.heap.size ≤ gb415)); have n4_ := Aside0.mk ((by rw [hg]; exact (below_size (by repeat (first | (with_reducible first | exact HB.out | apply below_alloc | apply pw_below_drewN | apply below_drew1 | refine below_set ?_ GE412.out) | exact HB.out))) : w.heap.size ≤ gb415)); have n5_ := Aside0.mk ((by rw [hg]; exact Nat.ne_of_lt (blk_lt (g := gb412) (o := .cells #[.int .i64 0, .int .i64 0] 39 (0, 0)) (by (with_reducible repeat (first | refine blk_drewN ?_ _ | refine blk_drew ?_ | refine blk_alloc ?_ _)); exact BK412.out)) : gb412 ≠ gb415)); have n6_ := Aside0.mk ((by rw [hg]; exact Nat.ne_of_gt (blk_lt (g := gb412) (o := .cells #[.int .i64 0, .int .i64 0] 39 (0, 0)) (by (with_reducible repeat (first | refine blk_drewN ?_ _ | refine blk_drew ?_ | refine blk_alloc ?_ _)); exact BK412.out)) : gb415 ≠ gb412)); clear BK412; clear HB; have BK412 := n0_; have HB := n1_; have BK415 := n2_; have GW415 := n3_; have GE415 := n4_; have NB412_415 := n5_; have NB415_412 := n6_; clear n0_ n1_ n2_ n3_ n4_ n5_ n6_; clear hb hbox hg; have hnb29 := NB415_412.out; have hnc29 := NB412_415.out; have hcz30_0 : w28.cell? ⟨gb415, 0, none⟩ = some (.int .i64 0) := (blk_cell BK415.out 0).trans rfl; have hcz30_1 : w28.cell? ⟨gb415, 1, none⟩ = some (.int .i64 0) := (blk_cell BK415.out 1).trans rfl; have hfz30_0 := blk_frozen BK415.out 0; have hfz30_1 := blk_frozen BK415.out 1; have p14 : 0 ≤ (0 : Int) := (by omega); have q14 : 0 < a0.size := (by have : (0 : Int) < (a0.size : Int) := of_decide_eq_true (by first | (with_reducible assumption) | assumption); omega); have hx14 : ∀ h : 0 < a0.size, ((a0[0]'h).toNat : Int) = bt a0 0 := bt_at a0 0; clear p14; have qi14 : (0 < (a0.size : Int)) = True := eq_true (of_decide_eq_true (by first | (with_reducible assumption) | assumption)); replace q14 := eq_true q14))
                have n0_ : Aside0 ((((w28.setCell ⟨gb415, 0, none⟩ (.int .i64 0)).setCell ⟨gb415, 1, none⟩ (.int .i64 t413)).setCell ⟨gb415, 0, none⟩ (.int .i64 1)).heap[gb412]? = some (.cells #[.int .i64 0, .int .i64 0] 39 (0, 0))) := ⟨by (with_reducible repeat (first | refine blk_drewN ?_ _ | refine blk_drew ?_ | refine blk_alloc ?_ _)); refine blk_far ?_ NB412_415.out _; (with_reducible repeat (first | refine blk_drewN ?_ _ | refine blk_drew ?_ | refine blk_alloc ?_ _)); refine blk_far ?_ NB412_415.out _; (with_reducible repeat (first | refine blk_drewN ?_ _ | refine blk_drew ?_ | refine blk_alloc ?_ _)); refine blk_far ?_ NB412_415.out _; (with_reducible repeat (first | refine blk_drewN ?_ _ | refine blk_drew ?_ | refine blk_alloc ?_ _)); exact BK412.out⟩
                have n1_ : Aside0 ((((w28.setCell ⟨gb415, 0, none⟩ (.int .i64 0)).setCell ⟨gb415, 1, none⟩ (.int .i64 t413)).setCell ⟨gb415, 0, none⟩ (.int .i64 1)).heap[gb415]? = some (.cells #[.int .i64 1, .int .i64 t413] 39 (0, 0))) := ⟨by (with_reducible repeat (first | refine blk_drewN ?_ _ | refine blk_drew ?_ | refine blk_alloc ?_ _)); refine blk_put (cs := #[.int .i64 0, .int .i64 t413]) ?_ 0 _ rfl; (with_reducible repeat (first | refine blk_drewN ?_ _ | refine blk_drew ?_ | refine blk_alloc ?_ _)); refine blk_put (cs := #[.int .i64 0, .int .i64 0]) ?_ 1 _ rfl; (with_reducible repeat (first | refine blk_drewN ?_ _ | refine blk_drew ?_ | refine blk_alloc ?_ _)); refine blk_put (cs := #[.int .i64 0, .int .i64 0]) ?_ 0 _ rfl; (with_reducible repeat (first | refine blk_drewN ?_ _ | refine blk_drew ?_ | refine blk_alloc ?_ _)); exact BK415.out⟩
                have n2_ : Aside0 (Below w.heap.size w (((w28.setCell ⟨gb415, 0, none⟩ (.int .i64 0)).setCell ⟨gb415, 1, none⟩ (.int .i64 t413)).setCell ⟨gb415, 0, none⟩ (.int .i64 1))) := ⟨by repeat (first | (with_reducible first | exact HB.out | apply below_alloc | apply pw_below_drewN | apply below_drew1 | refine below_set ?_ GE412.out | refine below_set ?_ GE415.out) | exact HB.out)⟩
                (try clear BK412)
                (try clear BK415)
                (try clear HB)
                generalize (((w28.setCell ⟨gb415, 0, none⟩ (.int .i64 0)).setCell ⟨gb415, 1, none⟩ (.int .i64 t413)).setCell ⟨gb415, 0, none⟩ (.int .i64 1)) = w31 at n0_ n1_ n2_ ⊢
                have BK412 := n0_
                have BK415 := n1_
                have HB := n2_
                clear n0_ n1_ n2_
                have n0_ := Aside0.mk (blk_drew BK412.out)
                have n1_ := Aside0.mk (blk_drew BK415.out)
                have n2_ := Aside0.mk (below_drew1 HB.out)
                clear BK412
                clear BK415
                clear HB
                have BK412 := n0_
                have BK415 := n1_
                have HB := n2_
                clear n0_ n1_ n2_
                refine start_ (n := 8) (S := fun w' => w'.cell? ⟨gb415, 0, none⟩ = some (.int .i64 1) ∧ w'.cell? ⟨gb415, 1, none⟩ = some (.int .i64 t413)) (ds := []) #[false, false, false, false, false, false, false, false] (by kernel_rfl) rfl rfl ⟨(blk_cell BK415.out 0).trans rfl, (blk_cell BK415.out 1).trans rfl⟩ (fun hHeld => ?_); refine with_tabW impl_readRing.tab7 impl_readRing.bits7 (fun HT_ HW_ => ?_)
                generalize w31.drew = w32 at BK412 BK415 HB hHeld ⊢
                refine pure_ (i := 1) (N := some 33) (v := ?_) (a' := ?_) #[false, true, false, false, false, false, false, false] rfl rfl (any_of HT_.out (by kernel_rfl)) (fun _ _ _ h => h) (Or.inl ⟨by rfl, ?_⟩) ?_ ?_
                rotate_left
                · intro w'
                  go_simp
                  with_reducible rfl
                rotate_left
                · simp only [Act.put, List.setIfInBounds_toArray, List.set_cons_zero, List.set_cons_succ, i64_w, i32_w]
                  rfl
                refine pure_ (i := 2) (N := some 34) (v := ?_) (a' := ?_) #[false, true, true, false, false, false, false, false] rfl rfl (any_of HT_.out (by kernel_rfl)) (fun _ _ _ h => h) (Or.inl ⟨by rfl, ?_⟩) ?_ ?_
                rotate_left
                · intro w'
                  go_simp
                  with_reducible rfl
                rotate_left
                · simp only [Act.put, List.setIfInBounds_toArray, List.set_cons_zero, List.set_cons_succ, i64_w, i32_w]
                  rfl
                refine pure_ (i := 3) (N := some 35) (v := undef) (a' := ?_) #[false, true, true, true, false, false, false, false] rfl rfl (any_of HT_.out (by kernel_rfl)) (fun _ _ _ h => h) (Or.inr ⟨by rfl, rfl⟩) ?_ ?_
                rotate_left
                · simp only [Act.put, List.setIfInBounds_toArray, List.set_cons_zero, List.set_cons_succ, i64_w, i32_w]
                  rfl
                refine pure_ (i := 4) (N := some 36) (v := undef) (a' := ?_) #[false, true, true, true, true, false, false, false] rfl rfl (any_of HT_.out (by kernel_rfl)) (fun _ _ _ h => h) (Or.inr ⟨by rfl, rfl⟩) ?_ ?_
                rotate_left
                · simp only [Act.put, List.setIfInBounds_toArray, List.set_cons_zero, List.set_cons_succ, i64_w, i32_w]
                  rfl
                refine pure_ (i := 5) (N := some 37) (v := ?_) (a' := ?_) #[false, true, true, true, true, true, false, false] rfl rfl (any_of HT_.out (by kernel_rfl)) (fun _ _ _ h => h) (Or.inl ⟨by rfl, ?_⟩) ?_ ?_
                rotate_left
                · intro w'
                  go_simp
                  with_reducible rfl
                rotate_left
                · simp only [Act.put, List.setIfInBounds_toArray, List.set_cons_zero, List.set_cons_succ, i64_w, i32_w]
                  rfl
                refine take_ (i := 0) (N := some 32) (v := ?_) (a' := ?_) #[true, true, true, true, true, true, false, false] rfl rfl (take_ofW HT_.out HW_.out (by kernel_rfl)) (fun _ _ _ h => h) (Or.inl ⟨by rfl, ?_⟩) hHeld ?_ ?_
                rotate_left
                · rintro w' ⟨s0, s1⟩
                  go_simp
                  with_reducible rfl
                rotate_left
                · simp only [Act.put, List.setIfInBounds_toArray, List.set_cons_zero, List.set_cons_succ, i64_w, i32_w]
                  rfl
                refine one_ (i := 6) (N := none) #[true, true, true, true, true, true, true, false] rfl rfl (one_of HT_.out (by kernel_rfl)) (by decide) (fun K hK => ?_)
                have hs33 : w32.cell? ⟨gb412, 0, none⟩ = some (.int .i64 0) := (blk_cell BK412.out 0).trans rfl
                have hfs33 := blk_frozen BK412.out 0
                have hns33_1 := NB415_412.out
                have hms33_1 := NB412_415.out
                have hs34 : w32.cell? ⟨gb412, 1, none⟩ = some (.int .i64 0) := (blk_cell BK412.out 1).trans rfl
                have hfs34 := blk_frozen BK412.out 1
                have hns34_1 := NB415_412.out
                have hms34_1 := NB412_415.out
                refine skip_ (w1 := ?_) (by rfl) rfl ?_ ?_
                rotate_left
                · go_simp
                  rfl
                refine hK.out _ _ ⟨((cell_far (p := ⟨gb412, _, none⟩) NB415_412.out _).trans (((cell_far (p := ⟨gb412, _, none⟩) NB415_412.out _).trans (hHeld.1)))), ((cell_far (p := ⟨gb412, _, none⟩) NB415_412.out _).trans (((cell_far (p := ⟨gb412, _, none⟩) NB415_412.out _).trans (hHeld.2))))⟩ (fun hHeld => ?_)
                clear hK K
                refine pure_ (i := 7) (N := some 3) (v := ?_) (a' := ?_) #[true, true, true, true, true, true, true, true] rfl rfl (any_of HT_.out (by kernel_rfl)) (fun _ _ _ h => h) (Or.inl ⟨by rfl, ?_⟩) ?_ ?_
                rotate_left
                · intro w'
                  go_simp
                  with_reducible rfl
                rotate_left
                · simp only [Act.put, List.setIfInBounds_toArray, List.set_cons_zero, List.set_cons_succ, i64_w, i32_w]
                  rfl
                refine done_ (done_of HT_.out (by kernel_rfl)) ?_
                try go_wp2
                refine bodyPost_ret (results_ct rfl _ _ gb412 39 #[.int .i64 1, .int .i64 t413] (0, 0) _ rfl (by (with_reducible repeat (first | refine blk_drewN ?_ _ | refine blk_drew ?_ | refine blk_alloc ?_ _)); refine blk_put (cs := #[.int .i64 1, .int .i64 0]) ?_ 1 _ rfl; (with_reducible repeat (first | refine blk_drewN ?_ _ | refine blk_drew ?_ | refine blk_alloc ?_ _)); refine blk_put (cs := #[.int .i64 0, .int .i64 0]) ?_ 0 _ rfl; (with_reducible repeat (first | refine blk_drewN ?_ _ | refine blk_drew ?_ | refine blk_alloc ?_ _)); exact BK412.out) Tryd.underlying39 rfl (by kernel_rfl)) rfl ?_
                exact ⟨by first | rfl | (simp [errW_none, errW_some] <;> rfl) | (simp [*, errW_none, errW_some] <;> rfl), by repeat (first | (with_reducible first | exact HB.out | apply below_alloc | apply pw_below_drewN | apply below_drew1 | refine below_set ?_ GE412.out | refine below_set ?_ GE415.out) | exact HB.out)⟩
            · rw [if_neg c15] at H
              have c15b0 : ((bt a0 0) == 116) = false := beq_eq_false_iff_ne.mpr c15
              have c15b1 : ((bt a0 0) != 116) = true := bne_iff_ne.mpr c15
              by_cases c35 : t414 = true
              · subst c35
                have H1 : ((impl_ValidRing.f 0 t413).bind fun t417 => (some (0, t413, t417))) = some (r1, r2, r3) := by rw [if_pos rfl] at H; exact H
                clear H
                have H := H1
                clear H1
                replace H := Option.bind_eq_some_iff.mp H
                obtain ⟨t417, A360, H⟩ := H
                replace H : (some (0, t413, t417)) = some (r1, r2, r3) := H
                have A36 := Aside0.mk A360
                clear A360
                simp only [Option.some.injEq, Prod.mk.injEq] at H
                obtain ⟨rfl, rfl, rfl⟩ := H
                try go_wp2_with (first | ((with_reducible refine gate_callee (f := 56) rfl ?_); refine goesL_ (some 23) rfl rfl Tryd.func56 (by kernel_rfl) rfl #[.string (a0.extract 1 a0.size)] rfl (by (try simp only [List.map_toArray, List.map_cons, List.map_nil]); first | done | rfl | (simp only [List.length_drop, List.length_take]; rfl)) ?_; (with_reducible refine (impl_ReadDecimal.calls (a0.extract 1 a0.size) t413 true _ ?side1 A12.out).mono ?_); (case side1 => first | exact HT.out | exact Tb.TC.below HT.out (by repeat (first | (with_reducible first | exact HB.out | apply below_alloc | apply pw_below_drewN | apply below_drew1 | refine below_set ?_ GE412.out) | exact HB.out))); rintro e w37 ⟨rfl, hb⟩; refine ⟨_, rfl, ?_⟩; have n0_ := Aside0.mk (blk_below (g := gb412) (o := .cells #[.int .i64 0, .int .i64 0] 39 (0, 0)) (by (with_reducible repeat (first | refine blk_drewN ?_ _ | refine blk_drew ?_ | refine blk_alloc ?_ _)); exact BK412.out) hb); have n1_ := Aside0.mk (below_step (by repeat (first | (with_reducible first | exact HB.out | apply below_alloc | apply pw_below_drewN | apply below_drew1 | refine below_set ?_ GE412.out) | exact HB.out)) hb); clear BK412; clear HB; have BK412 := n0_; have HB := n1_; clear n0_ n1_; (try clear hb); (try clear hb2); (try clear hk); (try clear hi)) | ((with_reducible refine gate_dst (N := 6) rfl ?_); refine box_event ?hg (N := 6) ?hd (cs := #[.int .i64 0, .int .i64 0]) (t := 39) ?hr ?_; (case hd => rfl); (case hg => rfl); (case hr => first | (go_simp; done) | (go_simp; rfl)); intro gb415 hg w38 hbox hb; have n0_ := Aside0.mk (blk_below (g := gb412) (o := .cells #[.int .i64 0, .int .i64 0] 39 (0, 0)) (by (with_reducible repeat (first | refine blk_drewN ?_ _ | refine blk_drew ?_ | refine blk_alloc ?_ _)); exact BK412.out) hb); have n1_ := Aside0.mk (below_step (by repeat (first | (with_reducible first | exact HB.out | apply below_alloc | apply pw_below_drewN | apply below_drew1 | refine below_set ?_ GE412.out) | exact HB.out)) hb); have n2_ := Aside0.mk (hbox); have n3_ := Aside0.mk ((by rw [hg]; exact (below_size (by repeat (first | (with_reducible first | exact HB.out | apply below_alloc | apply pw_below_drewN | apply below_drew1 | refine below_set ?_ GE412.out) | exact HB.out))) : w.heap.size ≤ gb415)); have n4_ := Aside0.mk ((by rw [hg]; exact (below_size (by repeat (first | (with_reducible first | exact HB.out | apply below_alloc | apply pw_below_drewN | apply below_drew1 | refine below_set ?_ GE412.out) | exact HB.out))) : w.heap.size ≤ gb415)); have n5_ := Aside0.mk ((by rw [hg]; exact Nat.ne_of_lt (blk_lt (g := gb412) (o := .cells #[.int .i64 0, .int .i64 0] 39 (0, 0)) (by (with_reducible repeat (first | refine blk_drewN ?_ _ | refine blk_drew ?_ | refine blk_alloc ?_ _)); exact BK412.out)) : gb412 ≠ gb415)); have n6_ := Aside0.mk ((by rw [hg]; exact Nat.ne_of_gt (blk_lt (g := gb412) (o := .cells #[.int .i64 0, .int .i64 0] 39 (0, 0)) (by (with_reducible repeat (first | refine blk_drewN ?_ _ | refine blk_drew ?_ | refine blk_alloc ?_ _)); exact BK412.out)) : gb415 ≠ gb412)); clear BK412; clear HB; have BK412 := n0_; have HB := n1_; have BK415 := n2_; have GW415 := n3_; have GE415 := n4_; have NB412_415 := n5_; have NB415_412 := n6_; clear n0_ n1_ n2_ n3_ n4_ n5_ n6_; clear hb hbox hg; have hnb39 := NB415_412.out; have hnc39 := NB412_415.out; have hcz40_0 : w38.cell? ⟨gb415, 0, none⟩ = some (.int .i64 0) := (blk_cell BK415.out 0).trans rfl; have hcz40_1 : w38.cell? ⟨gb415, 1, none⟩ = some (.int .i64 0) := (blk_cell BK415.out 1).trans rfl; have hfz40_0 := blk_frozen BK415.out 0; have hfz40_1 := blk_frozen BK415.out 1; have p14 : 0 ≤ (0 : Int) := (by omega); have q14 : 0 < a0.size := (by have : (0 : Int) < (a0.size : Int) := of_decide_eq_true (by first | (with_reducible assumption) | assumption); omega); have hx14 : ∀ h : 0 < a0.size, ((a0[0]'h).toNat : Int) = bt a0 0 := bt_at a0 0; clear p14; have qi14 : (0 < (a0.size : Int)) = True := eq_true (of_decide_eq_true (by first | (with_reducible assumption) | assumption)); replace q14 := eq_true q14))
                have n0_ : Aside0 (((w38.setCell ⟨gb415, 0, none⟩ (.int .i64 0)).setCell ⟨gb415, 1, none⟩ (.int .i64 t413)).heap[gb412]? = some (.cells #[.int .i64 0, .int .i64 0] 39 (0, 0))) := ⟨by (with_reducible repeat (first | refine blk_drewN ?_ _ | refine blk_drew ?_ | refine blk_alloc ?_ _)); refine blk_far ?_ NB412_415.out _; (with_reducible repeat (first | refine blk_drewN ?_ _ | refine blk_drew ?_ | refine blk_alloc ?_ _)); refine blk_far ?_ NB412_415.out _; (with_reducible repeat (first | refine blk_drewN ?_ _ | refine blk_drew ?_ | refine blk_alloc ?_ _)); exact BK412.out⟩
                have n1_ : Aside0 (((w38.setCell ⟨gb415, 0, none⟩ (.int .i64 0)).setCell ⟨gb415, 1, none⟩ (.int .i64 t413)).heap[gb415]? = some (.cells #[.int .i64 0, .int .i64 t413] 39 (0, 0))) := ⟨by (with_reducible repeat (first | refine blk_drewN ?_ _ | refine blk_drew ?_ | refine blk_alloc ?_ _)); refine blk_put (cs := #[.int .i64 0, .int .i64 0]) ?_ 1 _ rfl; (with_reducible repeat (first | refine blk_drewN ?_ _ | refine blk_drew ?_ | refine blk_alloc ?_ _)); refine blk_put (cs := #[.int .i64 0, .int .i64 0]) ?_ 0 _ rfl; (with_reducible repeat (first | refine blk_drewN ?_ _ | refine blk_drew ?_ | refine blk_alloc ?_ _)); exact BK415.out⟩
                have n2_ : Aside0 (Below w.heap.size w ((w38.setCell ⟨gb415, 0, none⟩ (.int .i64 0)).setCell ⟨gb415, 1, none⟩ (.int .i64 t413))) := ⟨by repeat (first | (with_reducible first | exact HB.out | apply below_alloc | apply pw_below_drewN | apply below_drew1 | refine below_set ?_ GE412.out | refine below_set ?_ GE415.out) | exact HB.out)⟩
                (try clear BK412)
                (try clear BK415)
                (try clear HB)
                generalize ((w38.setCell ⟨gb415, 0, none⟩ (.int .i64 0)).setCell ⟨gb415, 1, none⟩ (.int .i64 t413)) = w41 at n0_ n1_ n2_ ⊢
                have BK412 := n0_
                have BK415 := n1_
                have HB := n2_
                clear n0_ n1_ n2_
                have n0_ := Aside0.mk (blk_drew BK412.out)
                have n1_ := Aside0.mk (blk_drew BK415.out)
                have n2_ := Aside0.mk (below_drew1 HB.out)
                clear BK412
                clear BK415
                clear HB
                have BK412 := n0_
                have BK415 := n1_
                have HB := n2_
                clear n0_ n1_ n2_
                refine start_ (n := 8) (S := fun w' => w'.cell? ⟨gb415, 0, none⟩ = some (.int .i64 0) ∧ w'.cell? ⟨gb415, 1, none⟩ = some (.int .i64 t413)) (ds := []) #[false, false, false, false, false, false, false, false] (by kernel_rfl) rfl rfl ⟨(blk_cell BK415.out 0).trans rfl, (blk_cell BK415.out 1).trans rfl⟩ (fun hHeld => ?_); refine with_tabW impl_readRing.tab7 impl_readRing.bits7 (fun HT_ HW_ => ?_)
                generalize w41.drew = w42 at BK412 BK415 HB hHeld ⊢
                refine pure_ (i := 1) (N := some 33) (v := ?_) (a' := ?_) #[false, true, false, false, false, false, false, false] rfl rfl (any_of HT_.out (by kernel_rfl)) (fun _ _ _ h => h) (Or.inl ⟨by rfl, ?_⟩) ?_ ?_
                rotate_left
                · intro w'
                  go_simp
                  with_reducible rfl
                rotate_left
                · simp only [Act.put, List.setIfInBounds_toArray, List.set_cons_zero, List.set_cons_succ, i64_w, i32_w]
                  rfl
                refine pure_ (i := 2) (N := some 34) (v := ?_) (a' := ?_) #[false, true, true, false, false, false, false, false] rfl rfl (any_of HT_.out (by kernel_rfl)) (fun _ _ _ h => h) (Or.inl ⟨by rfl, ?_⟩) ?_ ?_
                rotate_left
                · intro w'
                  go_simp
                  with_reducible rfl
                rotate_left
                · simp only [Act.put, List.setIfInBounds_toArray, List.set_cons_zero, List.set_cons_succ, i64_w, i32_w]
                  rfl
                refine take_ (i := 0) (N := some 32) (v := ?_) (a' := ?_) #[true, true, true, false, false, false, false, false] rfl rfl (take_ofW HT_.out HW_.out (by kernel_rfl)) (fun _ _ _ h => h) (Or.inl ⟨by rfl, ?_⟩) hHeld ?_ ?_
                rotate_left
                · rintro w' ⟨s0, s1⟩
                  go_simp
                  with_reducible rfl
                rotate_left
                · simp only [Act.put, List.setIfInBounds_toArray, List.set_cons_zero, List.set_cons_succ, i64_w, i32_w]
                  rfl
                refine take_ (i := 3) (N := some 35) (v := ?_) (a' := ?_) #[true, true, true, true, false, false, false, false] rfl rfl (take_ofW HT_.out HW_.out (by kernel_rfl)) (fun _ _ _ h => h) (Or.inl ⟨by rfl, ?_⟩) hHeld ?_ ?_
                rotate_left
                · rintro w' ⟨s0, s1⟩
                  go_simp
                  with_reducible rfl
                rotate_left
                · simp only [Act.put, List.setIfInBounds_toArray, List.set_cons_zero, List.set_cons_succ, i64_w, i32_w]
                  rfl
                refine one_ (i := 4) (N := some 36) #[true, true, true, true, true, false, false, false] rfl rfl (one_of HT_.out (by kernel_rfl)) (by decide) (fun K hK => ?_)
                refine goes_ Tryd.func80 (by kernel_rfl) rfl #[.agg #[.int .i64 0, .int .i64 t413]] (by rfl) rfl rfl (by (try simp only [List.map_toArray, List.map_cons, List.map_nil]); first | done | rfl | (simp only [List.length_drop, List.length_take]; rfl)) ?_
                with_reducible refine (impl_ValidRing.calls 0 t413 t417 _ A36.out).mono ?_
                rintro e w43 ⟨rfl, hb⟩
                refine ⟨_, rfl, ?_⟩
                have n0_ := Aside0.mk (blk_below (g := gb412) (o := .cells #[.int .i64 0, .int .i64 0] 39 (0, 0)) (by (with_reducible repeat (first | refine blk_drewN ?_ _ | refine blk_drew ?_ | refine blk_alloc ?_ _)); exact BK412.out) hb)
                have n1_ := Aside0.mk (blk_below (g := gb415) (o := .cells #[.int .i64 0, .int .i64 t413] 39 (0, 0)) (by (with_reducible repeat (first | refine blk_drewN ?_ _ | refine blk_drew ?_ | refine blk_alloc ?_ _)); exact BK415.out) hb)
                have n2_ := Aside0.mk (below_step (by repeat (first | (with_reducible first | exact HB.out | apply below_alloc | apply pw_below_drewN | apply below_drew1 | refine below_set ?_ GE412.out | refine below_set ?_ GE415.out) | exact HB.out)) hb)
                clear BK412
                clear BK415
                clear HB
                have BK412 := n0_
                have BK415 := n1_
                have HB := n2_
                clear n0_ n1_ n2_
                (try clear hb)
                (try clear hb2)
                (try clear hk)
                (try clear hi)
                refine hK.out _ _ ⟨(blk_cell BK415.out 0).trans rfl, (blk_cell BK415.out 1).trans rfl⟩ (fun hHeld => ?_)
                clear hK K
                refine norm_ (a' := ?_) ?_ ?_
                rotate_left
                · show Act.put _ (some 36) _ = _
                  simp only [Act.put, List.setIfInBounds_toArray, List.set_cons_zero, List.set_cons_succ, i64_w, i32_w]
                  rfl
                refine pure_ (i := 5) (N := some 37) (v := ?_) (a' := ?_) #[true, true, true, true, true, true, false, false] rfl rfl (any_of HT_.out (by kernel_rfl)) (fun _ _ _ h => h) (Or.inl ⟨by rfl, ?_⟩) ?_ ?_
                rotate_left
                · intro w'
                  go_simp
                  with_reducible rfl
                rotate_left
                · simp only [Act.put, List.setIfInBounds_toArray, List.set_cons_zero, List.set_cons_succ, i64_w, i32_w]
                  rfl
                refine one_ (i := 6) (N := none) #[true, true, true, true, true, true, true, false] rfl rfl (one_of HT_.out (by kernel_rfl)) (by decide) (fun K hK => ?_)
                have hs44 : w43.cell? ⟨gb412, 0, none⟩ = some (.int .i64 0) := (blk_cell BK412.out 0).trans rfl
                have hfs44 := blk_frozen BK412.out 0
                have hns44_1 := NB415_412.out
                have hms44_1 := NB412_415.out
                have hs45 : w43.cell? ⟨gb412, 1, none⟩ = some (.int .i64 0) := (blk_cell BK412.out 1).trans rfl
                have hfs45 := blk_frozen BK412.out 1
                have hns45_1 := NB415_412.out
                have hms45_1 := NB412_415.out
                refine skip_ (w1 := ?_) (by rfl) rfl ?_ ?_
                rotate_left
                · go_simp
                  rfl
                refine hK.out _ _ ⟨((cell_far (p := ⟨gb412, _, none⟩) NB415_412.out _).trans (((cell_far (p := ⟨gb412, _, none⟩) NB415_412.out _).trans (hHeld.1)))), ((cell_far (p := ⟨gb412, _, none⟩) NB415_412.out _).trans (((cell_far (p := ⟨gb412, _, none⟩) NB415_412.out _).trans (hHeld.2))))⟩ (fun hHeld => ?_)
                clear hK K
                refine pure_ (i := 7) (N := some 3) (v := ?_) (a' := ?_) #[true, true, true, true, true, true, true, true] rfl rfl (any_of HT_.out (by kernel_rfl)) (fun _ _ _ h => h) (Or.inl ⟨by rfl, ?_⟩) ?_ ?_
                rotate_left
                · intro w'
                  go_simp
                  with_reducible rfl
                rotate_left
                · simp only [Act.put, List.setIfInBounds_toArray, List.set_cons_zero, List.set_cons_succ, i64_w, i32_w]
                  rfl
                refine done_ (done_of HT_.out (by kernel_rfl)) ?_
                try go_wp2
                refine bodyPost_ret (results_ct rfl _ _ gb412 39 #[.int .i64 0, .int .i64 t413] (0, 0) _ rfl (by (with_reducible repeat (first | refine blk_drewN ?_ _ | refine blk_drew ?_ | refine blk_alloc ?_ _)); refine blk_put (cs := #[.int .i64 0, .int .i64 0]) ?_ 1 _ rfl; (with_reducible repeat (first | refine blk_drewN ?_ _ | refine blk_drew ?_ | refine blk_alloc ?_ _)); refine blk_put (cs := #[.int .i64 0, .int .i64 0]) ?_ 0 _ rfl; (with_reducible repeat (first | refine blk_drewN ?_ _ | refine blk_drew ?_ | refine blk_alloc ?_ _)); exact BK412.out) Tryd.underlying39 rfl (by kernel_rfl)) rfl ?_
                exact ⟨by first | rfl | (simp [errW_none, errW_some] <;> rfl) | (simp [*, errW_none, errW_some] <;> rfl), by repeat (first | (with_reducible first | exact HB.out | apply below_alloc | apply pw_below_drewN | apply below_drew1 | refine below_set ?_ GE412.out | refine below_set ?_ GE415.out) | exact HB.out)⟩
              · replace c35 := Bool.eq_false_iff.mpr c35
                subst c35
                have H1 : (some (0, t413, false)) = some (r1, r2, r3) := by rw [if_neg (show ¬ (false = true) by decide)] at H; exact H
                clear H
                have H := H1
                clear H1
                simp only [Option.some.injEq, Prod.mk.injEq] at H
                obtain ⟨rfl, rfl, rfl⟩ := H
                try go_wp2_with (first | ((with_reducible refine gate_callee (f := 56) rfl ?_); refine goesL_ (some 23) rfl rfl Tryd.func56 (by kernel_rfl) rfl #[.string (a0.extract 1 a0.size)] rfl (by (try simp only [List.map_toArray, List.map_cons, List.map_nil]); first | done | rfl | (simp only [List.length_drop, List.length_take]; rfl)) ?_; (with_reducible refine (impl_ReadDecimal.calls (a0.extract 1 a0.size) t413 false _ ?side1 A12.out).mono ?_); (case side1 => first | exact HT.out | exact Tb.TC.below HT.out (by repeat (first | (with_reducible first | exact HB.out | apply below_alloc | apply pw_below_drewN | apply below_drew1 | refine below_set ?_ GE412.out) | exact HB.out))); rintro e w46 ⟨rfl, hb⟩; refine ⟨_, rfl, ?_⟩; have n0_ := Aside0.mk (blk_below (g := gb412) (o := .cells #[.int .i64 0, .int .i64 0] 39 (0, 0)) (by (with_reducible repeat (first | refine blk_drewN ?_ _ | refine blk_drew ?_ | refine blk_alloc ?_ _)); exact BK412.out) hb); have n1_ := Aside0.mk (below_step (by repeat (first | (with_reducible first | exact HB.out | apply below_alloc | apply pw_below_drewN | apply below_drew1 | refine below_set ?_ GE412.out) | exact HB.out)) hb); clear BK412; clear HB; have BK412 := n0_; have HB := n1_; clear n0_ n1_; (try clear hb); (try clear hb2); (try clear hk); (try clear hi)) | ((with_reducible refine gate_dst (N := 6) rfl ?_); refine box_event ?hg (N := 6) ?hd (cs := #[.int .i64 0, .int .i64 0]) (t := 39) ?hr ?_; (case hd => rfl); (case hg => rfl); (case hr => first | (go_simp; done) | (go_simp; rfl)); intro gb415 hg w47 hbox hb; have n0_ := Aside0.mk (blk_below (g := gb412) (o := .cells #[.int .i64 0, .int .i64 0] 39 (0, 0)) (by (with_reducible repeat (first | refine blk_drewN ?_ _ | refine blk_drew ?_ | refine blk_alloc ?_ _)); exact BK412.out) hb); have n1_ := Aside0.mk (below_step (by repeat (first | (with_reducible first | exact HB.out | apply below_alloc | apply pw_below_drewN | apply below_drew1 | refine below_set ?_ GE412.out) | exact HB.out)) hb); have n2_ := Aside0.mk (hbox); have n3_ := Aside0.mk ((by rw [hg]; exact (below_size (by repeat (first | (with_reducible first | exact HB.out | apply below_alloc | apply pw_below_drewN | apply below_drew1 | refine below_set ?_ GE412.out) | exact HB.out))) : w.heap.size ≤ gb415)); have n4_ := Aside0.mk ((by rw [hg]; exact (below_size (by repeat (first | (with_reducible first | exact HB.out | apply below_alloc | apply pw_below_drewN | apply below_drew1 | refine below_set ?_ GE412.out) | exact HB.out))) : w.heap.size ≤ gb415)); have n5_ := Aside0.mk ((by rw [hg]; exact Nat.ne_of_lt (blk_lt (g := gb412) (o := .cells #[.int .i64 0, .int .i64 0] 39 (0, 0)) (by (with_reducible repeat (first | refine blk_drewN ?_ _ | refine blk_drew ?_ | refine blk_alloc ?_ _)); exact BK412.out)) : gb412 ≠ gb415)); have n6_ := Aside0.mk ((by rw [hg]; exact Nat.ne_of_gt (blk_lt (g := gb412) (o := .cells #[.int .i64 0, .int .i64 0] 39 (0, 0)) (by (with_reducible repeat (first | refine blk_drewN ?_ _ | refine blk_drew ?_ | refine blk_alloc ?_ _)); exact BK412.out)) : gb415 ≠ gb412)); clear BK412; clear HB; have BK412 := n0_; have HB := n1_; have BK415 := n2_; have GW415 := n3_; have GE415 := n4_; have NB412_415 := n5_; have NB415_412 := n6_; clear n0_ n1_ n2_ n3_ n4_ n5_ n6_; clear hb hbox hg; have hnb48 := NB415_412.out; have hnc48 := NB412_415.out; have hcz49_0 : w47.cell? ⟨gb415, 0, none⟩ = some (.int .i64 0) := (blk_cell BK415.out 0).trans rfl; have hcz49_1 : w47.cell? ⟨gb415, 1, none⟩ = some (.int .i64 0) := (blk_cell BK415.out 1).trans rfl; have hfz49_0 := blk_frozen BK415.out 0; have hfz49_1 := blk_frozen BK415.out 1; have p14 : 0 ≤ (0 : Int) := (by omega); have q14 : 0 < a0.size := (by have : (0 : Int) < (a0.size : Int) := of_decide_eq_true (by first | (with_reducible assumption) | assumption); omega); have hx14 : ∀ h : 0 < a0.size, ((a0[0]'h).toNat : Int) = bt a0 0 := bt_at a0 0; clear p14; have qi14 : (0 < (a0.size : Int)) = True := eq_true (of_decide_eq_true (by first | (with_reducible assumption) | assumption)); replace q14 := eq_true q14))
                have n0_ : Aside0 (((w47.setCell ⟨gb415, 0, none⟩ (.int .i64 0)).setCell ⟨gb415, 1, none⟩ (.int .i64 t413)).heap[gb412]? = some (.cells #[.int .i64 0, .int .i64 0] 39 (0, 0))) := ⟨by (with_reducible repeat (first | refine blk_drewN ?_ _ | refine blk_drew ?_ | refine blk_alloc ?_ _)); refine blk_far ?_ NB412_415.out _; (with_reducible repeat (first | refine blk_drewN ?_ _ | refine blk_drew ?_ | refine blk_alloc ?_ _)); refine blk_far ?_ NB412_415.out _; (with_reducible repeat (first | refine blk_drewN ?_ _ | refine blk_drew ?_ | refine blk_alloc ?_ _)); exact BK412.out⟩
                have n1_ : Aside0 (((w47.setCell ⟨gb415, 0, none⟩ (.int .i64 0)).setCell ⟨gb415, 1, none⟩ (.int .i64 t413)).heap[gb415]? = some (.cells #[.int .i64 0, .int .i64 t413] 39 (0, 0))) := ⟨by (with_reducible repeat (first | refine blk_drewN ?_ _ | refine blk_drew ?_ | refine blk_alloc ?_ _)); refine blk_put (cs := #[.int .i64 0, .int .i64 0]) ?_ 1 _ rfl; (with_reducible repeat (first | refine blk_drewN ?_ _ | refine blk_drew ?_ | refine blk_alloc ?_ _)); refine blk_put (cs := #[.int .i64 0, .int .i64 0]) ?_ 0 _ rfl; (with_reducible repeat (first | refine blk_drewN ?_ _ | refine blk_drew ?_ | refine blk_alloc ?_ _)); exact BK415.out⟩
                have n2_ : Aside0 (Below w.heap.size w ((w47.setCell ⟨gb415, 0, none⟩ (.int .i64 0)).setCell ⟨gb415, 1, none⟩ (.int .i64 t413))) := ⟨by repeat (first | (with_reducible first | exact HB.out | apply below_alloc | apply pw_below_drewN | apply below_drew1 | refine below_set ?_ GE412.out | refine below_set ?_ GE415.out) | exact HB.out)⟩
                (try clear BK412)
                (try clear BK415)
                (try clear HB)
                generalize ((w47.setCell ⟨gb415, 0, none⟩ (.int .i64 0)).setCell ⟨gb415, 1, none⟩ (.int .i64 t413)) = w50 at n0_ n1_ n2_ ⊢
                have BK412 := n0_
                have BK415 := n1_
                have HB := n2_
                clear n0_ n1_ n2_
                have n0_ := Aside0.mk (blk_drew BK412.out)
                have n1_ := Aside0.mk (blk_drew BK415.out)
                have n2_ := Aside0.mk (below_drew1 HB.out)
                clear BK412
                clear BK415
                clear HB
                have BK412 := n0_
                have BK415 := n1_
                have HB := n2_
                clear n0_ n1_ n2_
                refine start_ (n := 8) (S := fun w' => w'.cell? ⟨gb415, 0, none⟩ = some (.int .i64 0) ∧ w'.cell? ⟨gb415, 1, none⟩ = some (.int .i64 t413)) (ds := []) #[false, false, false, false, false, false, false, false] (by kernel_rfl) rfl rfl ⟨(blk_cell BK415.out 0).trans rfl, (blk_cell BK415.out 1).trans rfl⟩ (fun hHeld => ?_); refine with_tabW impl_readRing.tab7 impl_readRing.bits7 (fun HT_ HW_ => ?_)
                generalize w50.drew = w51 at BK412 BK415 HB hHeld ⊢
                refine pure_ (i := 1) (N := some 33) (v := ?_) (a' := ?_) #[false, true, false, false, false, false, false, false] rfl rfl (any_of HT_.out (by kernel_rfl)) (fun _ _ _ h => h) (Or.inl ⟨by rfl, ?_⟩) ?_ ?_
                rotate_left
                · intro w'
                  go_simp
                  with_reducible rfl
                rotate_left
                · simp only [Act.put, List.setIfInBounds_toArray, List.set_cons_zero, List.set_cons_succ, i64_w, i32_w]
                  rfl
                refine pure_ (i := 2) (N := some 34) (v := ?_) (a' := ?_) #[false, true, true, false, false, false, false, false] rfl rfl (any_of HT_.out (by kernel_rfl)) (fun _ _ _ h => h) (Or.inl ⟨by rfl, ?_⟩) ?_ ?_
                rotate_left
                · intro w'
                  go_simp
                  with_reducible rfl
                rotate_left
                · simp only [Act.put, List.setIfInBounds_toArray, List.set_cons_zero, List.set_cons_succ, i64_w, i32_w]
                  rfl
                refine pure_ (i := 3) (N := some 35) (v := undef) (a' := ?_) #[false, true, true, true, false, false, false, false] rfl rfl (any_of HT_.out (by kernel_rfl)) (fun _ _ _ h => h) (Or.inr ⟨by rfl, rfl⟩) ?_ ?_
                rotate_left
                · simp only [Act.put, List.setIfInBounds_toArray, List.set_cons_zero, List.set_cons_succ, i64_w, i32_w]
                  rfl
                refine pure_ (i := 4) (N := some 36) (v := undef) (a' := ?_) #[false, true, true, true, true, false, false, false] rfl rfl (any_of HT_.out (by kernel_rfl)) (fun _ _ _ h => h) (Or.inr ⟨by rfl, rfl⟩) ?_ ?_
                rotate_left
                · simp only [Act.put, List.setIfInBounds_toArray, List.set_cons_zero, List.set_cons_succ, i64_w, i32_w]
                  rfl
                refine pure_ (i := 5) (N := some 37) (v := ?_) (a' := ?_) #[false, true, true, true, true, true, false, false] rfl rfl (any_of HT_.out (by kernel_rfl)) (fun _ _ _ h => h) (Or.inl ⟨by rfl, ?_⟩) ?_ ?_
                rotate_left
                · intro w'
                  go_simp
                  with_reducible rfl
                rotate_left
                · simp only [Act.put, List.setIfInBounds_toArray, List.set_cons_zero, List.set_cons_succ, i64_w, i32_w]
                  rfl
                refine take_ (i := 0) (N := some 32) (v := ?_) (a' := ?_) #[true, true, true, true, true, true, false, false] rfl rfl (take_ofW HT_.out HW_.out (by kernel_rfl)) (fun _ _ _ h => h) (Or.inl ⟨by rfl, ?_⟩) hHeld ?_ ?_
                rotate_left
                · rintro w' ⟨s0, s1⟩
                  go_simp
                  with_reducible rfl
                rotate_left
                · simp only [Act.put, List.setIfInBounds_toArray, List.set_cons_zero, List.set_cons_succ, i64_w, i32_w]
                  rfl
                refine one_ (i := 6) (N := none) #[true, true, true, true, true, true, true, false] rfl rfl (one_of HT_.out (by kernel_rfl)) (by decide) (fun K hK => ?_)
                have hs52 : w51.cell? ⟨gb412, 0, none⟩ = some (.int .i64 0) := (blk_cell BK412.out 0).trans rfl
                have hfs52 := blk_frozen BK412.out 0
                have hns52_1 := NB415_412.out
                have hms52_1 := NB412_415.out
                have hs53 : w51.cell? ⟨gb412, 1, none⟩ = some (.int .i64 0) := (blk_cell BK412.out 1).trans rfl
                have hfs53 := blk_frozen BK412.out 1
                have hns53_1 := NB415_412.out
                have hms53_1 := NB412_415.out
                refine skip_ (w1 := ?_) (by rfl) rfl ?_ ?_
                rotate_left
                · go_simp
                  rfl
                refine hK.out _ _ ⟨((cell_far (p := ⟨gb412, _, none⟩) NB415_412.out _).trans (((cell_far (p := ⟨gb412, _, none⟩) NB415_412.out _).trans (hHeld.1)))), ((cell_far (p := ⟨gb412, _, none⟩) NB415_412.out _).trans (((cell_far (p := ⟨gb412, _, none⟩) NB415_412.out _).trans (hHeld.2))))⟩ (fun hHeld => ?_)
                clear hK K
                refine pure_ (i := 7) (N := some 3) (v := ?_) (a' := ?_) #[true, true, true, true, true, true, true, true] rfl rfl (any_of HT_.out (by kernel_rfl)) (fun _ _ _ h => h) (Or.inl ⟨by rfl, ?_⟩) ?_ ?_
                rotate_left
                · intro w'
                  go_simp
                  with_reducible rfl
                rotate_left
                · simp only [Act.put, List.setIfInBounds_toArray, List.set_cons_zero, List.set_cons_succ, i64_w, i32_w]
                  rfl
                refine done_ (done_of HT_.out (by kernel_rfl)) ?_
                try go_wp2
                refine bodyPost_ret (results_ct rfl _ _ gb412 39 #[.int .i64 0, .int .i64 t413] (0, 0) _ rfl (by (with_reducible repeat (first | refine blk_drewN ?_ _ | refine blk_drew ?_ | refine blk_alloc ?_ _)); refine blk_put (cs := #[.int .i64 0, .int .i64 0]) ?_ 1 _ rfl; (with_reducible repeat (first | refine blk_drewN ?_ _ | refine blk_drew ?_ | refine blk_alloc ?_ _)); refine blk_put (cs := #[.int .i64 0, .int .i64 0]) ?_ 0 _ rfl; (with_reducible repeat (first | refine blk_drewN ?_ _ | refine blk_drew ?_ | refine blk_alloc ?_ _)); exact BK412.out) Tryd.underlying39 rfl (by kernel_rfl)) rfl ?_
                exact ⟨by first | rfl | (simp [errW_none, errW_some] <;> rfl) | (simp [*, errW_none, errW_some] <;> rfl), by repeat (first | (with_reducible first | exact HB.out | apply below_alloc | apply pw_below_drewN | apply below_drew1 | refine below_set ?_ GE412.out | refine below_set ?_ GE415.out) | exact HB.out)⟩
          · rw [if_neg c13] at H
            exact absurd H (by simp)
        · rw [if_neg c11] at H
          exact absurd H (by simp)

end Go.Proofs.YtkbklocfdoofeaaDoor.Q

-- made by a patched copy of print.sh: this session's own
namespace Go.Proofs.YtkbklocfdoofeaaDoor.Q
open Go.RowKit Go.Proofs.YtkbklocfdoofeaaDoorW.PrintWords Go.Proofs.YtkbklocfdoofeaaDoorW.PrintLast Go.Proofs.YtkbklocfdoofeaaDoorW.PrintMore
attribute [local go_sem] max2_int min2_int max_two min_two max_three min_three max_four min_four   -- for this text's walks alone
set_option linter.unusedVariables false
set_option linter.unusedSimpArgs false

/-! ### strings_Split: function 55 -/
def strings_Split.f (a0 : ByteArray) (a1 : ByteArray) : Option (List (ByteArray)) := match a1.data.toList with
  | [c] => if a0.size < 4294967281 then some ((Sp.split1 c a0.data.toList).map Sp.tx) else none
  | _ => none
theorem strings_Split.calls (a0 : ByteArray) (a1 : ByteArray) (r : List (ByteArray)) (w : World) (hT : Tb.TB w) (h : strings_Split.f a0 a1 = some r) :
    Calls Tryd.prog 55 #[.string a0, .string a1] w fun e w' => ∃ v0_ : Value, e = .returned (v0_) ∧ Kd.R Kd.string 9 w' w.heap.size (fun _ => True) v0_ r ∧ Below w.heap.size w w' := by
  unfold strings_Split.f at h
  split at h
  · rename_i c hc
    split at h
    · rename_i hs
      obtain rfl := Option.some.inj h
      obtain rfl : a1 = Sp.tx [c] := by
        apply ByteArray.ext
        rw [← Array.toList_inj, hc]; rfl
      exact Sp.split_any a0 c w hT hs
    · cases h
  · cases h

end Go.Proofs.YtkbklocfdoofeaaDoor.Q

-- made by a patched copy of print.sh: this session's own
namespace Go.Proofs.YtkbklocfdoofeaaDoor.Q
open Go.RowKit Go.Proofs.YtkbklocfdoofeaaDoorW.PrintWords Go.Proofs.YtkbklocfdoofeaaDoorW.PrintLast Go.Proofs.YtkbklocfdoofeaaDoorW.PrintMore
attribute [local go_sem] max2_int min2_int max_two min_two max_three min_three max_four min_four   -- for this text's walks alone
set_option linter.unusedVariables false
set_option linter.unusedSimpArgs false

/-! ### impl_readAll: function 94 -/
def impl_readAll.l0 : Nat → Int → Int → List Int → List ByteArray → Int → Int → Option (List Int × Bool)
  | 0, _, _, _, _, _, _ => none
  | k + 1, x2, x3, x10, x18, x19, x20 => if x20 < x19 then (if 0 ≤ x20 then (if x20 < (x18.length : Int) then ((impl_readIn.f (rdOf ByteArray.empty x18 x20) x2 x3).bind fun bt425 => (if bt425.2 = true then (if x10.length < 17592186044416 then (impl_readAll.l0 k x2 x3 (x10 ++ [bt425.1]) x18 x19 (wrap64 (x20 + 1))) else (none)) else (some (([] : List Int), false)))) else (none)) else (none)) else (some (x10, true))
def impl_readAll.f (k : Nat) (a0 : ByteArray) (a1 : ByteArray) (a2 : Int) (a3 : Int) : Option (List Int × Bool) := (strings_Split.f a0 a1).bind fun t421 => (impl_readAll.l0 k a2 a3 (([] : List Int)) t421 (t421.length : Int) 0)
set_option maxHeartbeats 8000000 in
set_option maxRecDepth 100000 in
theorem impl_readAll.calls (k : Nat) (a0 : ByteArray) (a1 : ByteArray) (a2 : Int) (a3 : Int) (r1 : List Int) (r2 : Bool) (w : World) (hT : Tb.TC w) (h : impl_readAll.f k a0 a1 a2 a3 = some (r1, r2)) :
    Calls Tryd.prog 94 #[.string a0, .string a1, .int .i64 a2, .int .i64 a3] w fun e w' => ∃ v0_ : Value, e = .returned (.tuple #[v0_, .bool r2]) ∧ Kd.R (Kd.int .i64) 2 w' w.heap.size (fun _ => True) v0_ r1 ∧ Below w.heap.size w w' := by
  have HT := Aside0.mk hT
  clear hT
  have HB := Aside0.mk (Below.refl w.heap.size w)
  have H : ((strings_Split.f a0 a1).bind fun t421 => (impl_readAll.l0 k a2 a3 (([] : List Int)) t421 (t421.length : Int) 0)) = some (r1, r2) := h
  clear h
  obtain ⟨y418, hy418⟩ : ∃ y_ : List Int, y_ = (([] : List Int)) := ⟨_, rfl⟩
  replace H : ((strings_Split.f a0 a1).bind fun t421 => (impl_readAll.l0 k a2 a3 y418 t421 (t421.length : Int) 0)) = some (r1, r2) := by first | (rw [hy418]; with_reducible exact H) | (have H2_ := (Option.bind_some _ _).symm.trans H; rw [hy418]; with_reducible exact H2_) | (have H2_ := (Option.bind_some _ _).symm.trans H; with_reducible exact H2_) | with_reducible exact H | (rw [hy418]; exact H) | exact H
  have Ny418 := Aside0.mk hy418
  clear hy418
  replace H := Option.bind_eq_some_iff.mp H
  obtain ⟨t421, A50, H⟩ := H
  replace H : (impl_readAll.l0 k a2 a3 y418 t421 (t421.length : Int) 0) = some (r1, r2) := H
  have A5 := Aside0.mk A50
  clear A50
  have H' := Aside0.mk H
  clear H
  go_enter Tryd.func94, Tryd.ntmps94
  go_wp2_with (first | ((with_reducible refine gate_dst (N := 15) rfl ?_); refine Kd.R_lit (Kd.int .i64) _ 2 ?hg (N := 15) ?hd (xs := ([] : List Int)) (inner := []) (ok := fun _ => True) (okp := fun _ => True) ?hr ?hp (fun _ hk => hk) trivial (Below.refl _ _) (Nat.le_refl _) (by simp) ?_; (case hd => rfl); (case hg => rfl); (case hr => first | (go_simp; done) | (go_simp; rfl)); (case hp => exact (Reps.none _ _)); intro v419 w6 ho7 hb hg_ hnew_; clear hg_ hnew_; (first | rw [← Ny418.out] at ho7 | (simp only [Int.reduceToNat] at ho7; rw [← Ny418.out] at ho7)); have n0_ := Aside0.mk (Kd.R_lower ho7 (below_size (by repeat (first | (with_reducible first | exact HB.out | apply below_alloc | apply pw_below_drewN | apply below_drew1) | exact HB.out)))); have n1_ := Aside0.mk (below_step (by repeat (first | (with_reducible first | exact HB.out | apply below_alloc | apply pw_below_drewN | apply below_drew1) | exact HB.out)) hb); clear HB; have HO420 := n0_; have HB := n1_; clear n0_ n1_; clear hb ho7) | ((with_reducible refine gate_callee (f := 55) rfl ?_); refine goesL_ (some 18) rfl rfl Tryd.func55 (by kernel_rfl) rfl #[.string a0, .string a1] rfl (by (try simp only [List.map_toArray, List.map_cons, List.map_nil]); first | done | rfl | (simp only [List.length_drop, List.length_take]; rfl)) ?_; (with_reducible refine (strings_Split.calls a0 a1 t421 _ ?side1 A5.out).mono ?_); (case side1 => first | exact Tb.TC.tb (HT.out) | exact Tb.TC.tb (Tb.TC.below HT.out (by repeat (first | (with_reducible first | exact HB.out | apply below_alloc | apply pw_below_drewN | apply below_drew1) | exact HB.out)))); rintro e w8 ⟨v422, rfl, ho0, hb⟩; refine ⟨_, rfl, ?_⟩; have n0_ := Aside0.mk (Kd.R_below (by (with_reducible repeat (first | apply Kd.R_alloc | apply Kd.R_drewN | apply Kd.R_drew)); exact HO420.out) hb); have n1_ := Aside0.mk (Kd.R_lower ho0 (below_size (by repeat (first | (with_reducible first | exact HB.out | apply below_alloc | apply pw_below_drewN | apply below_drew1) | exact HB.out)))); have n2_ := Aside0.mk (below_step (by repeat (first | (with_reducible first | exact HB.out | apply below_alloc | apply pw_below_drewN | apply below_drew1) | exact HB.out)) hb); clear HO420; clear HB; have HO420 := n0_; have HO423 := n1_; have HB := n2_; clear n0_ n1_ n2_; (try clear hb); (try clear hb2); (try clear hk); (try clear hi); (try clear ho0); obtain ⟨Ao9, co9, eo9⟩ := Kd.R_slice HO423.out; subst eo9))
  go_loopg [10, 20] k (fun kq v10 v20 w' => ∃ (x10_1 : List Int) (x20_1 : Int), v20 = .int .i64 x20_1 ∧ Aside0 (impl_readAll.l0 kq a2 a3 x10_1 t421 (t421.length : Int) x20_1 = some (r1, r2)) ∧ Aside0 (kq ≤ k) ∧ Aside0 (Kd.R (Kd.int .i64) 2 w' w.heap.size (fun _ => True) v10 x10_1) ∧ Aside0 (Kd.R Kd.string 9 w' w.heap.size (fun _ => True) (.slice Ao9 t421.length co9) t421) ∧ Aside0 (Below w.heap.size w w'))
  case atStart => exact ⟨(y418), (0), (by first | rfl | (simp; done) | (simp [*]; done)), H', ⟨Nat.le_refl _⟩, ⟨by (with_reducible repeat (first | apply Kd.R_alloc | apply Kd.R_drewN | apply Kd.R_drew)); exact HO420.out⟩, ⟨by (with_reducible repeat (first | apply Kd.R_alloc | apply Kd.R_drewN | apply Kd.R_drew)); exact HO423.out⟩, ⟨by repeat (first | (with_reducible first | exact HB.out | apply below_alloc | apply pw_below_drewN | apply below_drew1) | exact HB.out)⟩⟩
  case round =>
    clear H'
    try clear p2
    try clear c5
    try clear c9
    obtain ⟨x10_1, x20_1, rfl, HA, HK1, HO_10, HO_18, HB⟩ := hrel
    cases gk with
    | zero => exact absurd HA.out (by simp [impl_readAll.l0])
    | succ k1 =>
      have H := HA.out
      clear HA
      simp only [impl_readAll.l0] at H
      by_cases c10 : x20_1 < (t421.length : Int)
      · rw [if_pos c10] at H
        have c10b0 : decide (x20_1 < (t421.length : Int)) = true := decide_eq_true c10
        clear c10
        by_cases c11 : 0 ≤ x20_1
        · rw [if_pos c11] at H
          have c11b0 : decide (0 ≤ x20_1) = true := decide_eq_true c11
          clear c11
          by_cases c12 : x20_1 < (t421.length : Int)
          · rw [if_pos c12] at H
            have c12b0 : decide (x20_1 < (t421.length : Int)) = true := decide_eq_true c12
            clear c12
            replace H := Option.bind_eq_some_iff.mp H
            obtain ⟨⟨t425, t426⟩, A130, H⟩ := H
            replace H : (if t426 = true then (if x10_1.length < 17592186044416 then (impl_readAll.l0 k1 a2 a3 (x10_1 ++ [t425]) t421 (t421.length : Int) (wrap64 (x20_1 + 1))) else (none)) else (some (([] : List Int), false))) = some (r1, r2) := H
            have A13 := Aside0.mk A130
            clear A130
            by_cases c14 : t426 = true
            · subst c14
              have H1 : (if x10_1.length < 17592186044416 then (impl_readAll.l0 k1 a2 a3 (x10_1 ++ [t425]) t421 (t421.length : Int) (wrap64 (x20_1 + 1))) else (none)) = some (r1, r2) := by rw [if_pos rfl] at H; exact H
              clear H
              have H := H1
              clear H1
              by_cases c15 : x10_1.length < 17592186044416
              · rw [if_pos c15] at H
                have LMc15 := Aside0.mk c15
                clear c15
                obtain ⟨y427, hy427⟩ : ∃ y_ : List Int, y_ = (x10_1 ++ [t425]) := ⟨_, rfl⟩
                replace H : (impl_readAll.l0 k1 a2 a3 y427 t421 (t421.length : Int) (wrap64 (x20_1 + 1))) = some (r1, r2) := by first | (rw [hy427]; with_reducible exact H) | (have H2_ := (Option.bind_some _ _).symm.trans H; rw [hy427]; with_reducible exact H2_) | (have H2_ := (Option.bind_some _ _).symm.trans H; with_reducible exact H2_) | with_reducible exact H | (rw [hy427]; exact H) | exact H
                have Ny427 := Aside0.mk hy427
                clear hy427
                have H' := Aside0.mk H
                clear H
                have p424 : 0 ≤ (x20_1 : Int) := of_decide_eq_true (by first | (with_reducible assumption) | assumption)
                have q424 : x20_1 < (t421.length : Int) := of_decide_eq_true (by first | (with_reducible assumption) | assumption)
                obtain ⟨ad424, e424, hx424_0⟩ := Kd.at_string (Kd.R_reads' HO_18.out).2.2 x20_1 p424 q424
                cases e424
                replace p424 := eq_true p424
                replace q424 := eq_true q424
                go_wp2_with (first | ((with_reducible refine gate_callee (f := 88) rfl ?_); refine goesL_ (some 28) rfl rfl Tryd.func88 (by kernel_rfl) rfl #[.string (rdOf ByteArray.empty t421 x20_1), .int .i64 a2, .int .i64 a3] rfl (by (try simp only [List.map_toArray, List.map_cons, List.map_nil]); first | done | rfl | (simp only [List.length_drop, List.length_take]; rfl)) ?_; (with_reducible refine (impl_readIn.calls (rdOf ByteArray.empty t421 x20_1) a2 a3 t425 true _ ?side1 A13.out).mono ?_); (case side1 => first | exact HT.out | exact Tb.TC.below HT.out (by repeat (first | (with_reducible first | exact HB.out | apply below_alloc | apply pw_below_drewN | apply below_drew1) | exact HB.out))); rintro e w16 ⟨rfl, hb⟩; refine ⟨_, rfl, ?_⟩; have n0_ := Aside0.mk (Kd.R_below (by (with_reducible repeat (first | apply Kd.R_alloc | apply Kd.R_drewN | apply Kd.R_drew)); exact HO_10.out) hb); have n1_ := Aside0.mk (Kd.R_below (by (with_reducible repeat (first | apply Kd.R_alloc | apply Kd.R_drewN | apply Kd.R_drew)); exact HO_18.out) hb); have n2_ := Aside0.mk (below_step (by repeat (first | (with_reducible first | exact HB.out | apply below_alloc | apply pw_below_drewN | apply below_drew1) | exact HB.out)) hb); clear HO_10; clear HO_18; clear HB; have HO_10 := n0_; have HO_18 := n1_; have HB := n2_; clear n0_ n1_ n2_; (try clear hb); (try clear hb2); (try clear hk); (try clear hi)) | ((with_reducible refine gate_builtin (b := .append) (xs := #[.tmp 33, .tmp 35]) rfl ?_); at_builtin; refine Kd.R_append (Kd.int .i64) (w0 := w) w.heap.size rfl (.tmp 33) (.tmp 35) 91 2 (.int .i64 0) 8 rfl Tryd.underlying91 info2 rfl (by decide) (by omega) u10 x10_1 t425 [.int .i64 t425] (fun _ => True) (fun _ => False) rfl rfl ?aP (fun _ hk => hk.elim) ?aF ?aO ?aB ?aS ?aL ?_; (case aP => exact rfl); (case aB => exact (by repeat (first | (with_reducible first | exact HB.out | apply below_alloc | apply pw_below_drewN | apply below_drew1) | exact HB.out))); (case aF => exact (fun _ _ => trivial)); (case aO => exact (by (with_reducible repeat (first | apply Kd.R_alloc | apply Kd.R_drewN | apply Kd.R_drew)); exact HO_10.out)); (case aS => exact (below_size (by repeat (first | (with_reducible first | exact HB.out | apply below_alloc | apply pw_below_drewN | apply below_drew1) | exact HB.out)))); (case aL => have := LMc15.out; omega); intro v428 w17 ho hb hg hat; rw [← Ny427.out] at ho; have n0_ := Aside0.mk (Kd.R_over' (by (with_reducible repeat (first | apply Kd.R_alloc | apply Kd.R_drewN | apply Kd.R_drew)); exact HO_18.out) (Kd.R_typed (by (with_reducible repeat (first | apply Kd.R_alloc | apply Kd.R_drewN | apply Kd.R_drew)); exact HO_10.out)) (by decide) hg); have n1_ := Aside0.mk (hb); have n2_ := Aside0.mk (ho); clear HO_18; clear HB; clear HO_10; have HO_18 := n0_; have HB := n1_; have HO429 := n2_; clear n0_ n1_ n2_; clear ho hb hg hat))
                go_roundg k1
                case measure => have := HK1.out; omega
                case rel => exact ⟨(y427), (wrap64 (x20_1 + 1)), (by first | rfl | (simp; done) | (simp [*]; done)), H', ⟨by have := HK1.out; omega⟩, ⟨by (with_reducible repeat (first | apply Kd.R_alloc | apply Kd.R_drewN | apply Kd.R_drew)); exact HO429.out⟩, ⟨by (with_reducible repeat (first | apply Kd.R_alloc | apply Kd.R_drewN | apply Kd.R_drew)); exact HO_18.out⟩, ⟨by repeat (first | (with_reducible first | exact HB.out | apply below_alloc | apply pw_below_drewN | apply below_drew1) | exact HB.out)⟩⟩
              · rw [if_neg c15] at H
                exact absurd H (by simp)
            · replace c14 := Bool.eq_false_iff.mpr c14
              subst c14
              have H1 : (some (([] : List Int), false)) = some (r1, r2) := by rw [if_neg (show ¬ (false = true) by decide)] at H; exact H
              clear H
              have H := H1
              clear H1
              simp only [Option.some.injEq, Prod.mk.injEq] at H
              obtain ⟨rfl, rfl⟩ := H
              have p424 : 0 ≤ (x20_1 : Int) := of_decide_eq_true (by first | (with_reducible assumption) | assumption)
              have q424 : x20_1 < (t421.length : Int) := of_decide_eq_true (by first | (with_reducible assumption) | assumption)
              obtain ⟨ad424, e424, hx424_0⟩ := Kd.at_string (Kd.R_reads' HO_18.out).2.2 x20_1 p424 q424
              cases e424
              replace p424 := eq_true p424
              replace q424 := eq_true q424
              go_wp2_with (first | ((with_reducible refine gate_callee (f := 88) rfl ?_); refine goesL_ (some 28) rfl rfl Tryd.func88 (by kernel_rfl) rfl #[.string (rdOf ByteArray.empty t421 x20_1), .int .i64 a2, .int .i64 a3] rfl (by (try simp only [List.map_toArray, List.map_cons, List.map_nil]); first | done | rfl | (simp only [List.length_drop, List.length_take]; rfl)) ?_; (with_reducible refine (impl_readIn.calls (rdOf ByteArray.empty t421 x20_1) a2 a3 t425 false _ ?side1 A13.out).mono ?_); (case side1 => first | exact HT.out | exact Tb.TC.below HT.out (by repeat (first | (with_reducible first | exact HB.out | apply below_alloc | apply pw_below_drewN | apply below_drew1) | exact HB.out))); rintro e w18 ⟨rfl, hb⟩; refine ⟨_, rfl, ?_⟩; have n0_ := Aside0.mk (Kd.R_below (by (with_reducible repeat (first | apply Kd.R_alloc | apply Kd.R_drewN | apply Kd.R_drew)); exact HO_10.out) hb); have n1_ := Aside0.mk (Kd.R_below (by (with_reducible repeat (first | apply Kd.R_alloc | apply Kd.R_drewN | apply Kd.R_drew)); exact HO_18.out) hb); have n2_ := Aside0.mk (below_step (by repeat (first | (with_reducible first | exact HB.out | apply below_alloc | apply pw_below_drewN | apply below_drew1) | exact HB.out)) hb); clear HO_10; clear HO_18; clear HB; have HO_10 := n0_; have HO_18 := n1_; have HB := n2_; clear n0_ n1_ n2_; (try clear hb); (try clear hb2); (try clear hk); (try clear hi)))
              go_ret2
              exact ⟨_, by first | rfl | (simp [errW_none, errW_some] <;> rfl) | (simp [*, errW_none, errW_some] <;> rfl), by first | exact Kd.R_nil _ _ _ _ _ | exact Kd.N_nil _ _ _ _ _ | exact Kd.V_nil _ _ _ _ _ | exact Kd.Q_nil _ _ _ _ _ | exact Kd.S_nil _ _ _ _ _, by repeat (first | (with_reducible first | exact HB.out | apply below_alloc | apply pw_below_drewN | apply below_drew1) | exact HB.out)⟩
          · rw [if_neg c12] at H
            exact absurd H (by simp)
        · rw [if_neg c11] at H
          exact absurd H (by simp)
      · rw [if_neg c10] at H
        have c10b0 : decide (x20_1 < (t421.length : Int)) = false := decide_eq_false c10
        clear c10
        simp only [Option.some.injEq, Prod.mk.injEq] at H
        obtain ⟨rfl, rfl⟩ := H
        go_wp2
        go_ret2
        exact ⟨_, by first | rfl | (simp [errW_none, errW_some] <;> rfl) | (simp [*, errW_none, errW_some] <;> rfl), by (with_reducible repeat (first | apply Kd.R_alloc | apply Kd.R_drewN | apply Kd.R_drew)); exact HO_10.out, by repeat (first | (with_reducible first | exact HB.out | apply below_alloc | apply pw_below_drewN | apply below_drew1) | exact HB.out)⟩

end Go.Proofs.YtkbklocfdoofeaaDoor.Q

