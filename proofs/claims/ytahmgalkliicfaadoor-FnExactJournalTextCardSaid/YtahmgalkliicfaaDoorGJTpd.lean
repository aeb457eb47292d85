/- Parts of the proof that the law of this seat holds: Q77, Va5, PuJ, PuJT. -/
import Derived.Test.YtahmgalkliicfaaDoorGJTpa
import Derived.Test.YtahmgalkliicfaaDoorGJTpc
set_option linter.unusedVariables false
set_option linter.unusedSimpArgs false
-- made by a patched copy of print.sh: this session's own
namespace Go.Proofs.YtahmgalkliicfaaDoor.Q
open Go.RowKit Go.Proofs.YtahmgalkliicfaaDoorW.PrintWords Go.Proofs.YtahmgalkliicfaaDoorW.PrintLast Go.Proofs.YtahmgalkliicfaaDoorW.PrintMore
attribute [local go_sem] max2_int min2_int max_two min_two max_three min_three max_four min_four   -- for this text's walks alone
set_option linter.unusedVariables false
set_option linter.unusedSimpArgs false

/-! ### laws_eqDeedS: function 22 -/
def laws_eqDeedS.l0 : Nat → List (S41) → List (S41) → Int → Option (Bool)
  | 0, _, _, _ => none
  | k + 1, x0, x1, x5 => if x5 < (x0.length : Int) then (if 0 ≤ x5 then (if x5 < (x1.length : Int) then ((laws_eqDeed.f ((rd_T41 x0 x5).f0) ((rd_T41 x0 x5).f1) ((rd_T41 x0 x5).f2) ((rd_T41 x0 x5).f3) ((rd_T41 x0 x5).f4.f0) ((rd_T41 x0 x5).f4.f1) ((rd_T41 x0 x5).f5) ((rd_T41 x0 x5).f6) ((rd_T41 x0 x5).f7) ((rd_T41 x1 x5).f0) ((rd_T41 x1 x5).f1) ((rd_T41 x1 x5).f2) ((rd_T41 x1 x5).f3) ((rd_T41 x1 x5).f4.f0) ((rd_T41 x1 x5).f4.f1) ((rd_T41 x1 x5).f5) ((rd_T41 x1 x5).f6) ((rd_T41 x1 x5).f7)).bind fun t352 => (if t352 = true then (laws_eqDeedS.l0 k x0 x1 (wrap64 (x5 + 1))) else (some false))) else (none)) else (none)) else (some true)
def laws_eqDeedS.f (k : Nat) (l0 : List (S41)) (l1 : List (S41)) : Option (Bool) := if (l0.length : Int) = (l1.length : Int) then (laws_eqDeedS.l0 k l0 l1 0) else (some false)
theorem laws_eqDeedS.mono_l : ∀ k, (∀ y0 y1 y2, LeO (laws_eqDeedS.l0 k y0 y1 y2) (laws_eqDeedS.l0 (k + 1) y0 y1 y2))
  | 0 => fun _ _ _ r h => by simp [laws_eqDeedS.l0] at h
  | k + 1 => by
    have ih0 := laws_eqDeedS.mono_l k
    · intro y0 y1 y2
      unfold laws_eqDeedS.l0
      repeat' first
      | (with_reducible exact ih0 _ _ _)
      | (with_reducible exact LeO.refl _)
      | (with_reducible exact LeO.none _)
      | (with_reducible refine LeO.ite ?_ ?_)
      | (with_reducible refine LeO.bind ?_ (fun _ => ?_))
      | exact ih0 _ _ _
      | exact LeO.none _
      | refine LeO.ite ?_ ?_
      | refine LeO.bind ?_ (fun _ => ?_)
theorem laws_eqDeedS.mono : ∀ a0 a1 k, LeO (laws_eqDeedS.f k a0 a1) (laws_eqDeedS.f (k + 1) a0 a1) := by
  intro a0 a1 k
  have ih0 := laws_eqDeedS.mono_l k
  unfold laws_eqDeedS.f
  repeat' first
      | (with_reducible exact ih0 _ _ _)
      | (with_reducible exact LeO.refl _)
      | (with_reducible exact LeO.none _)
      | (with_reducible refine LeO.ite ?_ ?_)
      | (with_reducible refine LeO.bind ?_ (fun _ => ?_))
      | exact ih0 _ _ _
      | exact LeO.none _
      | refine LeO.ite ?_ ?_
      | refine LeO.bind ?_ (fun _ => ?_)
def laws_eqDeedS.T6 : Bool × List (List Nat × List Nat) := (true, [([], []), ([], []), ([0, 1], [0, 1]), ([2], [2]), ([], []), ([], []), ([4, 5], [4, 5]), ([6], [6]), ([3, 7], [3, 7]), ([8], [8])])
def laws_eqDeedS.B6 : List Nat := [0, 0, 3, 7, 0, 0, 48, 112, 255, 511]
theorem laws_eqDeedS.tab6 : rtab .any (opsOf Tryd.f22 6) = laws_eqDeedS.T6 := by kernel_rfl
theorem laws_eqDeedS.bits6 : waitsOk laws_eqDeedS.T6.2 laws_eqDeedS.B6 = true := by kernel_rfl
set_option maxHeartbeats 8000000 in
set_option maxRecDepth 100000 in
theorem laws_eqDeedS.calls (k : Nat) (A0 : Option Addr) (c0 : Nat) (l0 : List (S41)) (A1 : Option Addr) (c1 : Nat) (l1 : List (S41)) (r : Bool) (w : World) (hr0 : Kd.C k41 w A0 l0.length l0) (hc0 : l0.length ≤ c0) (hr1 : Kd.C k41 w A1 l1.length l1) (hc1 : l1.length ≤ c1) (h : laws_eqDeedS.f k l0 l1 = some r) :
    Calls Tryd.prog 22 #[.slice A0 l0.length c0, .slice A1 l1.length c1] w fun e w' => e = .returned (.bool r) ∧ Below w.heap.size w w' := by
  have hu41 := Tryd.underlying41
  have HR0 := Aside0.mk hr0
  have HC0 := Aside0.mk hc0
  clear hr0 hc0
  have HR1 := Aside0.mk hr1
  have HC1 := Aside0.mk hc1
  clear hr1 hc1
  have HB := Aside0.mk (Below.refl w.heap.size w)
  have H : (if (l0.length : Int) = (l1.length : Int) then (laws_eqDeedS.l0 k l0 l1 0) else (some false)) = some r := h
  clear h
  by_cases c3 : (l0.length : Int) = (l1.length : Int)
  · rw [if_pos c3] at H
    have c3b0 : ((l0.length : Int) == (l1.length : Int)) = true := beq_iff_eq.mpr c3
    have c3b1 : ((l0.length : Int) != (l1.length : Int)) = false := bne_eq_false_iff_eq.mpr c3
    have c3b2 : (l0.length == l1.length) = true := by first | simpa using c3 | (simp at c3 ⊢; omega)
    clear c3
    have H' := Aside0.mk H
    clear H
    go_enter Tryd.func22, Tryd.ntmps22
    go_wp2
    go_loopg [5] k (fun kq v5 w' => ∃ (x5_1 : Int), v5 = .int .i64 x5_1 ∧ Aside0 (laws_eqDeedS.l0 kq l0 l1 x5_1 = some r) ∧ Aside0 (kq ≤ k) ∧ Aside0 (Below w.heap.size w w'))
    case atStart => exact ⟨(0), (by first | rfl | (simp; done) | (simp [*]; done)), H', ⟨Nat.le_refl _⟩, ⟨by repeat (first | (with_reducible first | exact HB.out | apply below_alloc | apply pw_below_drewN | apply below_drew1) | exact HB.out)⟩⟩
    case round =>
      clear H'
      try clear c1
      try clear c2
      try clear p2
      try clear c3
      try clear c3b0
      try clear c3b1
      try clear c3b2
      obtain ⟨x5_1, rfl, HA, HK1, HB⟩ := hrel
      cases gk with
      | zero => exact absurd HA.out (by simp [laws_eqDeedS.l0])
      | succ k1 =>
        have H := HA.out
        clear HA
        simp only [laws_eqDeedS.l0] at H
        by_cases c4 : x5_1 < (l0.length : Int)
        · rw [if_pos c4] at H
          have c4b0 : decide (x5_1 < (l0.length : Int)) = true := decide_eq_true c4
          clear c4
          by_cases c5 : 0 ≤ x5_1
          · rw [if_pos c5] at H
            have c5b0 : decide (0 ≤ x5_1) = true := decide_eq_true c5
            clear c5
            by_cases c6 : x5_1 < (l1.length : Int)
            · rw [if_pos c6] at H
              have c6b0 : decide (x5_1 < (l1.length : Int)) = true := decide_eq_true c6
              clear c6
              replace H := Option.bind_eq_some_iff.mp H
              obtain ⟨t352, A70, H⟩ := H
              replace H : (if t352 = true then (laws_eqDeedS.l0 k1 l0 l1 (wrap64 (x5_1 + 1))) else (some false)) = some r := H
              have A7 := Aside0.mk A70
              clear A70
              by_cases c8 : t352 = true
              · subst c8
                have H1 : (laws_eqDeedS.l0 k1 l0 l1 (wrap64 (x5_1 + 1))) = some r := by rw [if_pos rfl] at H; exact H
                clear H
                have H := H1
                clear H1
                have H' := Aside0.mk H
                clear H
                try go_wp2
                have n0_ := Aside0.mk (below_drew1 HB.out)
                clear HB
                have HB := n0_
                clear n0_
                have p350 : 0 ≤ (x5_1 : Int) := of_decide_eq_true (by first | (with_reducible assumption) | assumption)
                have q350 : x5_1 < (l0.length : Int) := of_decide_eq_true (by first | (with_reducible assumption) | assumption)
                obtain ⟨ad350, e350, hx350_0, hx350_1, hx350_2, hx350_3, hx350_4, hx350_5, hx350_6, hx350_7, hx350_8⟩ := at_T41 HR0.out x5_1 p350 q350
                have hw350_8 := hx350_8
                have hw350_7 := hx350_7
                have hw350_6 := hx350_6
                have hw350_5 := hx350_5
                have hw350_4 := hx350_4
                have hw350_3 := hx350_3
                have hw350_2 := hx350_2
                have hw350_1 := hx350_1
                have hw350_0 := hx350_0
                cases e350
                replace hx350_0 := (HB.out.cell (World.block_lt_of_cell? w _ hx350_0)).trans hx350_0
                replace hx350_1 := (HB.out.cell (World.block_lt_of_cell? w _ hx350_1)).trans hx350_1
                replace hx350_2 := (HB.out.cell (World.block_lt_of_cell? w _ hx350_2)).trans hx350_2
                replace hx350_3 := (HB.out.cell (World.block_lt_of_cell? w _ hx350_3)).trans hx350_3
                replace hx350_4 := (HB.out.cell (World.block_lt_of_cell? w _ hx350_4)).trans hx350_4
                replace hx350_5 := (HB.out.cell (World.block_lt_of_cell? w _ hx350_5)).trans hx350_5
                replace hx350_6 := (HB.out.cell (World.block_lt_of_cell? w _ hx350_6)).trans hx350_6
                replace hx350_7 := (HB.out.cell (World.block_lt_of_cell? w _ hx350_7)).trans hx350_7
                replace hx350_8 := (HB.out.cell (World.block_lt_of_cell? w _ hx350_8)).trans hx350_8
                replace p350 := eq_true p350
                replace q350 := eq_true q350
                have p351 : 0 ≤ (x5_1 : Int) := of_decide_eq_true (by first | (with_reducible assumption) | assumption)
                have q351 : x5_1 < (l1.length : Int) := of_decide_eq_true (by first | (with_reducible assumption) | assumption)
                obtain ⟨ad351, e351, hx351_0, hx351_1, hx351_2, hx351_3, hx351_4, hx351_5, hx351_6, hx351_7, hx351_8⟩ := at_T41 HR1.out x5_1 p351 q351
                have hw351_8 := hx351_8
                have hw351_7 := hx351_7
                have hw351_6 := hx351_6
                have hw351_5 := hx351_5
                have hw351_4 := hx351_4
                have hw351_3 := hx351_3
                have hw351_2 := hx351_2
                have hw351_1 := hx351_1
                have hw351_0 := hx351_0
                cases e351
                replace hx351_0 := (HB.out.cell (World.block_lt_of_cell? w _ hx351_0)).trans hx351_0
                replace hx351_1 := (HB.out.cell (World.block_lt_of_cell? w _ hx351_1)).trans hx351_1
                replace hx351_2 := (HB.out.cell (World.block_lt_of_cell? w _ hx351_2)).trans hx351_2
                replace hx351_3 := (HB.out.cell (World.block_lt_of_cell? w _ hx351_3)).trans hx351_3
                replace hx351_4 := (HB.out.cell (World.block_lt_of_cell? w _ hx351_4)).trans hx351_4
                replace hx351_5 := (HB.out.cell (World.block_lt_of_cell? w _ hx351_5)).trans hx351_5
                replace hx351_6 := (HB.out.cell (World.block_lt_of_cell? w _ hx351_6)).trans hx351_6
                replace hx351_7 := (HB.out.cell (World.block_lt_of_cell? w _ hx351_7)).trans hx351_7
                replace hx351_8 := (HB.out.cell (World.block_lt_of_cell? w _ hx351_8)).trans hx351_8
                replace p351 := eq_true p351
                replace q351 := eq_true q351
                refine start_ (n := 10) (S := fun w' => w'.cell? (ad350.add ((x5_1).toNat * 9)) = some (.int .i64 ((rd_T41 l0 x5_1).f0)) ∧ w'.cell? ⟨(ad350.add ((x5_1).toNat * 9)).block, (ad350.add ((x5_1).toNat * 9)).off + 1, none⟩ = some (.int .i64 ((rd_T41 l0 x5_1).f1)) ∧ w'.cell? ⟨(ad350.add ((x5_1).toNat * 9)).block, (ad350.add ((x5_1).toNat * 9)).off + 2, none⟩ = some (.int .i64 ((rd_T41 l0 x5_1).f2)) ∧ w'.cell? ⟨(ad350.add ((x5_1).toNat * 9)).block, (ad350.add ((x5_1).toNat * 9)).off + 3, none⟩ = some (.int .i64 ((rd_T41 l0 x5_1).f3)) ∧ w'.cell? ⟨(ad350.add ((x5_1).toNat * 9)).block, (ad350.add ((x5_1).toNat * 9)).off + 4, none⟩ = some (.int .i64 ((rd_T41 l0 x5_1).f4.f0)) ∧ w'.cell? ⟨(ad350.add ((x5_1).toNat * 9)).block, (ad350.add ((x5_1).toNat * 9)).off + 5, none⟩ = some (.int .i64 ((rd_T41 l0 x5_1).f4.f1)) ∧ w'.cell? ⟨(ad350.add ((x5_1).toNat * 9)).block, (ad350.add ((x5_1).toNat * 9)).off + 6, none⟩ = some (.int .i64 ((rd_T41 l0 x5_1).f5)) ∧ w'.cell? ⟨(ad350.add ((x5_1).toNat * 9)).block, (ad350.add ((x5_1).toNat * 9)).off + 7, none⟩ = some (.int .i64 ((rd_T41 l0 x5_1).f6)) ∧ w'.cell? ⟨(ad350.add ((x5_1).toNat * 9)).block, (ad350.add ((x5_1).toNat * 9)).off + 8, none⟩ = some (.int .i64 ((rd_T41 l0 x5_1).f7)) ∧ w'.cell? (ad351.add ((x5_1).toNat * 9)) = some (.int .i64 ((rd_T41 l1 x5_1).f0)) ∧ w'.cell? ⟨(ad351.add ((x5_1).toNat * 9)).block, (ad351.add ((x5_1).toNat * 9)).off + 1, none⟩ = some (.int .i64 ((rd_T41 l1 x5_1).f1)) ∧ w'.cell? ⟨(ad351.add ((x5_1).toNat * 9)).block, (ad351.add ((x5_1).toNat * 9)).off + 2, none⟩ = some (.int .i64 ((rd_T41 l1 x5_1).f2)) ∧ w'.cell? ⟨(ad351.add ((x5_1).toNat * 9)).block, (ad351.add ((x5_1).toNat * 9)).off + 3, none⟩ = some (.int .i64 ((rd_T41 l1 x5_1).f3)) ∧ w'.cell? ⟨(ad351.add ((x5_1).toNat * 9)).block, (ad351.add ((x5_1).toNat * 9)).off + 4, none⟩ = some (.int .i64 ((rd_T41 l1 x5_1).f4.f0)) ∧ w'.cell? ⟨(ad351.add ((x5_1).toNat * 9)).block, (ad351.add ((x5_1).toNat * 9)).off + 5, none⟩ = some (.int .i64 ((rd_T41 l1 x5_1).f4.f1)) ∧ w'.cell? ⟨(ad351.add ((x5_1).toNat * 9)).block, (ad351.add ((x5_1).toNat * 9)).off + 6, none⟩ = some (.int .i64 ((rd_T41 l1 x5_1).f5)) ∧ w'.cell? ⟨(ad351.add ((x5_1).toNat * 9)).block, (ad351.add ((x5_1).toNat * 9)).off + 7, none⟩ = some (.int .i64 ((rd_T41 l1 x5_1).f6)) ∧ w'.cell? ⟨(ad351.add ((x5_1).toNat * 9)).block, (ad351.add ((x5_1).toNat * 9)).off + 8, none⟩ = some (.int .i64 ((rd_T41 l1 x5_1).f7))) (ds := []) #[false, false, false, false, false, false, false, false, false, false] (by kernel_rfl) rfl rfl ⟨((HB.out.cell (World.block_lt_of_cell? w _ hw350_0)).trans hw350_0), ((HB.out.cell (World.block_lt_of_cell? w _ hw350_1)).trans hw350_1), ((HB.out.cell (World.block_lt_of_cell? w _ hw350_2)).trans hw350_2), ((HB.out.cell (World.block_lt_of_cell? w _ hw350_3)).trans hw350_3), ((HB.out.cell (World.block_lt_of_cell? w _ hw350_4)).trans hw350_4), ((HB.out.cell (World.block_lt_of_cell? w _ hw350_5)).trans hw350_5), ((HB.out.cell (World.block_lt_of_cell? w _ hw350_6)).trans hw350_6), ((HB.out.cell (World.block_lt_of_cell? w _ hw350_7)).trans hw350_7), ((HB.out.cell (World.block_lt_of_cell? w _ hw350_8)).trans hw350_8), ((HB.out.cell (World.block_lt_of_cell? w _ hw351_0)).trans hw351_0), ((HB.out.cell (World.block_lt_of_cell? w _ hw351_1)).trans hw351_1), ((HB.out.cell (World.block_lt_of_cell? w _ hw351_2)).trans hw351_2), ((HB.out.cell (World.block_lt_of_cell? w _ hw351_3)).trans hw351_3), ((HB.out.cell (World.block_lt_of_cell? w _ hw351_4)).trans hw351_4), ((HB.out.cell (World.block_lt_of_cell? w _ hw351_5)).trans hw351_5), ((HB.out.cell (World.block_lt_of_cell? w _ hw351_6)).trans hw351_6), ((HB.out.cell (World.block_lt_of_cell? w _ hw351_7)).trans hw351_7), ((HB.out.cell (World.block_lt_of_cell? w _ hw351_8)).trans hw351_8)⟩ (fun hHeld => ?_); refine with_tabW laws_eqDeedS.tab6 laws_eqDeedS.bits6 (fun HT_ HW_ => ?_)
                generalize wr.drew = w9 at HB hx350_0 hx350_1 hx350_2 hx350_3 hx350_4 hx350_5 hx350_6 hx350_7 hx350_8 hx351_0 hx351_1 hx351_2 hx351_3 hx351_4 hx351_5 hx351_6 hx351_7 hx351_8 hHeld ⊢
                refine pure_ (i := 0) (N := some 17) (v := ?_) (a' := ?_) #[true, false, false, false, false, false, false, false, false, false] rfl rfl (any_of HT_.out (by kernel_rfl)) (fun _ _ _ h => h) (Or.inl ⟨by rfl, ?_⟩) ?_ ?_
                rotate_left
                · intro w'
                  go_simp
                  with_reducible rfl
                rotate_left
                · simp only [Act.put, List.setIfInBounds_toArray, List.set_cons_zero, List.set_cons_succ, i64_w, i32_w]
                  rfl
                refine pure_ (i := 1) (N := some 18) (v := ?_) (a' := ?_) #[true, true, false, false, false, false, false, false, false, false] rfl rfl (any_of HT_.out (by kernel_rfl)) (fun _ _ _ h => h) (Or.inl ⟨by rfl, ?_⟩) ?_ ?_
                rotate_left
                · intro w'
                  go_simp
                  with_reducible rfl
                rotate_left
                · simp only [Act.put, List.setIfInBounds_toArray, List.set_cons_zero, List.set_cons_succ, i64_w, i32_w]
                  rfl
                refine pure_ (i := 2) (N := some 19) (v := ?_) (a' := ?_) #[true, true, true, false, false, false, false, false, false, false] rfl rfl (any_of HT_.out (by kernel_rfl)) (fun _ _ _ h => h) (Or.inl ⟨by rfl, ?_⟩) ?_ ?_
                rotate_left
                · intro w'
                  go_simp
                  with_reducible rfl
                rotate_left
                · simp only [Act.put, List.setIfInBounds_toArray, List.set_cons_zero, List.set_cons_succ, i64_w, i32_w]
                  rfl
                refine pure_ (i := 4) (N := some 21) (v := ?_) (a' := ?_) #[true, true, true, false, true, false, false, false, false, false] rfl rfl (any_of HT_.out (by kernel_rfl)) (fun _ _ _ h => h) (Or.inl ⟨by rfl, ?_⟩) ?_ ?_
                rotate_left
                · intro w'
                  go_simp
                  with_reducible rfl
                rotate_left
                · simp only [Act.put, List.setIfInBounds_toArray, List.set_cons_zero, List.set_cons_succ, i64_w, i32_w]
                  rfl
                refine pure_ (i := 5) (N := some 22) (v := ?_) (a' := ?_) #[true, true, true, false, true, true, false, false, false, false] rfl rfl (any_of HT_.out (by kernel_rfl)) (fun _ _ _ h => h) (Or.inl ⟨by rfl, ?_⟩) ?_ ?_
                rotate_left
                · intro w'
                  go_simp
                  with_reducible rfl
                rotate_left
                · simp only [Act.put, List.setIfInBounds_toArray, List.set_cons_zero, List.set_cons_succ, i64_w, i32_w]
                  rfl
                refine pure_ (i := 6) (N := some 23) (v := ?_) (a' := ?_) #[true, true, true, false, true, true, true, false, false, false] rfl rfl (any_of HT_.out (by kernel_rfl)) (fun _ _ _ h => h) (Or.inl ⟨by rfl, ?_⟩) ?_ ?_
                rotate_left
                · intro w'
                  go_simp
                  with_reducible rfl
                rotate_left
                · simp only [Act.put, List.setIfInBounds_toArray, List.set_cons_zero, List.set_cons_succ, i64_w, i32_w]
                  rfl
                refine take_ (i := 3) (N := some 20) (v := ?_) (a' := ?_) #[true, true, true, true, true, true, true, false, false, false] rfl rfl (take_ofW HT_.out HW_.out (by kernel_rfl)) (fun _ _ _ h => h) (Or.inl ⟨by rfl, ?_⟩) hHeld ?_ ?_
                rotate_left
                · rintro w' ⟨s0, s1, s2, s3, s4, s5, s6, s7, s8, s9, s10, s11, s12, s13, s14, s15, s16, s17⟩
                  go_simp
                  with_reducible rfl
                rotate_left
                · simp only [Act.put, List.setIfInBounds_toArray, List.set_cons_zero, List.set_cons_succ, i64_w, i32_w]
                  rfl
                refine take_ (i := 7) (N := some 24) (v := ?_) (a' := ?_) #[true, true, true, true, true, true, true, true, false, false] rfl rfl (take_ofW HT_.out HW_.out (by kernel_rfl)) (fun _ _ _ h => h) (Or.inl ⟨by rfl, ?_⟩) hHeld ?_ ?_
                rotate_left
                · rintro w' ⟨s0, s1, s2, s3, s4, s5, s6, s7, s8, s9, s10, s11, s12, s13, s14, s15, s16, s17⟩
                  go_simp
                  with_reducible rfl
                rotate_left
                · simp only [Act.put, List.setIfInBounds_toArray, List.set_cons_zero, List.set_cons_succ, i64_w, i32_w]
                  rfl
                refine one_ (i := 8) (N := some 25) #[true, true, true, true, true, true, true, true, true, false] rfl rfl (one_of HT_.out (by kernel_rfl)) (by decide) (fun K hK => ?_)
                refine goes_ Tryd.func29 (by kernel_rfl) rfl #[.agg #[.int .i64 ((rd_T41 l0 x5_1).f0), .int .i64 ((rd_T41 l0 x5_1).f1), .int .i64 ((rd_T41 l0 x5_1).f2), .int .i64 ((rd_T41 l0 x5_1).f3), .int .i64 ((rd_T41 l0 x5_1).f4.f0), .int .i64 ((rd_T41 l0 x5_1).f4.f1), .int .i64 ((rd_T41 l0 x5_1).f5), .int .i64 ((rd_T41 l0 x5_1).f6), .int .i64 ((rd_T41 l0 x5_1).f7)], .agg #[.int .i64 ((rd_T41 l1 x5_1).f0), .int .i64 ((rd_T41 l1 x5_1).f1), .int .i64 ((rd_T41 l1 x5_1).f2), .int .i64 ((rd_T41 l1 x5_1).f3), .int .i64 ((rd_T41 l1 x5_1).f4.f0), .int .i64 ((rd_T41 l1 x5_1).f4.f1), .int .i64 ((rd_T41 l1 x5_1).f5), .int .i64 ((rd_T41 l1 x5_1).f6), .int .i64 ((rd_T41 l1 x5_1).f7)]] (by rfl) rfl rfl (by (try simp only [List.map_toArray, List.map_cons, List.map_nil]); first | done | rfl | (simp only [List.length_drop, List.length_take]; rfl)) ?_
                with_reducible refine (laws_eqDeed.calls ((rd_T41 l0 x5_1).f0) ((rd_T41 l0 x5_1).f1) ((rd_T41 l0 x5_1).f2) ((rd_T41 l0 x5_1).f3) ((rd_T41 l0 x5_1).f4.f0) ((rd_T41 l0 x5_1).f4.f1) ((rd_T41 l0 x5_1).f5) ((rd_T41 l0 x5_1).f6) ((rd_T41 l0 x5_1).f7) ((rd_T41 l1 x5_1).f0) ((rd_T41 l1 x5_1).f1) ((rd_T41 l1 x5_1).f2) ((rd_T41 l1 x5_1).f3) ((rd_T41 l1 x5_1).f4.f0) ((rd_T41 l1 x5_1).f4.f1) ((rd_T41 l1 x5_1).f5) ((rd_T41 l1 x5_1).f6) ((rd_T41 l1 x5_1).f7) true _ A7.out).mono ?_
                rintro e w10 ⟨rfl, hb⟩
                refine ⟨_, rfl, ?_⟩
                have n0_ := Aside0.mk (below_step (by repeat (first | (with_reducible first | exact HB.out | apply below_alloc | apply pw_below_drewN | apply below_drew1) | exact HB.out)) hb)
                clear HB
                have HB := n0_
                clear n0_
                (try clear hb)
                (try clear hb2)
                (try clear hk)
                (try clear hi)
                refine hK.out _ _ ⟨((HB.out.cell (World.block_lt_of_cell? w _ hw350_0)).trans hw350_0), ((HB.out.cell (World.block_lt_of_cell? w _ hw350_1)).trans hw350_1), ((HB.out.cell (World.block_lt_of_cell? w _ hw350_2)).trans hw350_2), ((HB.out.cell (World.block_lt_of_cell? w _ hw350_3)).trans hw350_3), ((HB.out.cell (World.block_lt_of_cell? w _ hw350_4)).trans hw350_4), ((HB.out.cell (World.block_lt_of_cell? w _ hw350_5)).trans hw350_5), ((HB.out.cell (World.block_lt_of_cell? w _ hw350_6)).trans hw350_6), ((HB.out.cell (World.block_lt_of_cell? w _ hw350_7)).trans hw350_7), ((HB.out.cell (World.block_lt_of_cell? w _ hw350_8)).trans hw350_8), ((HB.out.cell (World.block_lt_of_cell? w _ hw351_0)).trans hw351_0), ((HB.out.cell (World.block_lt_of_cell? w _ hw351_1)).trans hw351_1), ((HB.out.cell (World.block_lt_of_cell? w _ hw351_2)).trans hw351_2), ((HB.out.cell (World.block_lt_of_cell? w _ hw351_3)).trans hw351_3), ((HB.out.cell (World.block_lt_of_cell? w _ hw351_4)).trans hw351_4), ((HB.out.cell (World.block_lt_of_cell? w _ hw351_5)).trans hw351_5), ((HB.out.cell (World.block_lt_of_cell? w _ hw351_6)).trans hw351_6), ((HB.out.cell (World.block_lt_of_cell? w _ hw351_7)).trans hw351_7), ((HB.out.cell (World.block_lt_of_cell? w _ hw351_8)).trans hw351_8)⟩ (fun hHeld => ?_)
                clear hK K
                refine norm_ (a' := ?_) ?_ ?_
                rotate_left
                · show Act.put _ (some 25) _ = _
                  simp only [Act.put, List.setIfInBounds_toArray, List.set_cons_zero, List.set_cons_succ, i64_w, i32_w]
                  rfl
                refine pure_ (i := 9) (N := some 26) (v := ?_) (a' := ?_) #[true, true, true, true, true, true, true, true, true, true] rfl rfl (any_of HT_.out (by kernel_rfl)) (fun _ _ _ h => h) (Or.inl ⟨by rfl, ?_⟩) ?_ ?_
                rotate_left
                · intro w'
                  go_simp
                  with_reducible rfl
                rotate_left
                · simp only [Act.put, List.setIfInBounds_toArray, List.set_cons_zero, List.set_cons_succ, i64_w, i32_w]
                  rfl
                refine done_ (done_of HT_.out (by kernel_rfl)) ?_
                try go_wp2
                go_roundg k1
                case measure => have := HK1.out; omega
                case rel => exact ⟨(wrap64 (x5_1 + 1)), (by first | rfl | (simp; done) | (simp [*]; done)), H', ⟨by have := HK1.out; omega⟩, ⟨by repeat (first | (with_reducible first | exact HB.out | apply below_alloc | apply pw_below_drewN | apply below_drew1) | exact HB.out)⟩⟩
              · replace c8 := Bool.eq_false_iff.mpr c8
                subst c8
                have H1 : (some false) = some r := by rw [if_neg (show ¬ (false = true) by decide)] at H; exact H
                clear H
                have H := H1
                clear H1
                obtain rfl := Option.some.inj H
                try go_wp2
                have n0_ := Aside0.mk (below_drew1 HB.out)
                clear HB
                have HB := n0_
                clear n0_
                have p350 : 0 ≤ (x5_1 : Int) := of_decide_eq_true (by first | (with_reducible assumption) | assumption)
                have q350 : x5_1 < (l0.length : Int) := of_decide_eq_true (by first | (with_reducible assumption) | assumption)
                obtain ⟨ad350, e350, hx350_0, hx350_1, hx350_2, hx350_3, hx350_4, hx350_5, hx350_6, hx350_7, hx350_8⟩ := at_T41 HR0.out x5_1 p350 q350
                have hw350_8 := hx350_8
                have hw350_7 := hx350_7
                have hw350_6 := hx350_6
                have hw350_5 := hx350_5
                have hw350_4 := hx350_4
                have hw350_3 := hx350_3
                have hw350_2 := hx350_2
                have hw350_1 := hx350_1
                have hw350_0 := hx350_0
                cases e350
                replace hx350_0 := (HB.out.cell (World.block_lt_of_cell? w _ hx350_0)).trans hx350_0
                replace hx350_1 := (HB.out.cell (World.block_lt_of_cell? w _ hx350_1)).trans hx350_1
                replace hx350_2 := (HB.out.cell (World.block_lt_of_cell? w _ hx350_2)).trans hx350_2
                replace hx350_3 := (HB.out.cell (World.block_lt_of_cell? w _ hx350_3)).trans hx350_3
                replace hx350_4 := (HB.out.cell (World.block_lt_of_cell? w _ hx350_4)).trans hx350_4
                replace hx350_5 := (HB.out.cell (World.block_lt_of_cell? w _ hx350_5)).trans hx350_5
                replace hx350_6 := (HB.out.cell (World.block_lt_of_cell? w _ hx350_6)).trans hx350_6
                replace hx350_7 := (HB.out.cell (World.block_lt_of_cell? w _ hx350_7)).trans hx350_7
                replace hx350_8 := (HB.out.cell (World.block_lt_of_cell? w _ hx350_8)).trans hx350_8
                replace p350 := eq_true p350
                replace q350 := eq_true q350
                have p351 : 0 ≤ (x5_1 : Int) := of_decide_eq_true (by first | (with_reducible assumption) | assumption)
                have q351 : x5_1 < (l1.length : Int) := of_decide_eq_true (by first | (with_reducible assumption) | assumption)
                obtain ⟨ad351, e351, hx351_0, hx351_1, hx351_2, hx351_3, hx351_4, hx351_5, hx351_6, hx351_7, hx351_8⟩ := at_T41 HR1.out x5_1 p351 q351
                have hw351_8 := hx351_8
                have hw351_7 := hx351_7
                have hw351_6 := hx351_6
                have hw351_5 := hx351_5
                have hw351_4 := hx351_4
                have hw351_3 := hx351_3
                have hw351_2 := hx351_2
                have hw351_1 := hx351_1
                have hw351_0 := hx351_0
                cases e351
                replace hx351_0 := (HB.out.cell (World.block_lt_of_cell? w _ hx351_0)).trans hx351_0
                replace hx351_1 := (HB.out.cell (World.block_lt_of_cell? w _ hx351_1)).trans hx351_1
                replace hx351_2 := (HB.out.cell (World.block_lt_of_cell? w _ hx351_2)).trans hx351_2
                replace hx351_3 := (HB.out.cell (World.block_lt_of_cell? w _ hx351_3)).trans hx351_3
                replace hx351_4 := (HB.out.cell (World.block_lt_of_cell? w _ hx351_4)).trans hx351_4
                replace hx351_5 := (HB.out.cell (World.block_lt_of_cell? w _ hx351_5)).trans hx351_5
                replace hx351_6 := (HB.out.cell (World.block_lt_of_cell? w _ hx351_6)).trans hx351_6
                replace hx351_7 := (HB.out.cell (World.block_lt_of_cell? w _ hx351_7)).trans hx351_7
                replace hx351_8 := (HB.out.cell (World.block_lt_of_cell? w _ hx351_8)).trans hx351_8
                replace p351 := eq_true p351
                replace q351 := eq_true q351
                refine start_ (n := 10) (S := fun w' => w'.cell? (ad350.add ((x5_1).toNat * 9)) = some (.int .i64 ((rd_T41 l0 x5_1).f0)) ∧ w'.cell? ⟨(ad350.add ((x5_1).toNat * 9)).block, (ad350.add ((x5_1).toNat * 9)).off + 1, none⟩ = some (.int .i64 ((rd_T41 l0 x5_1).f1)) ∧ w'.cell? ⟨(ad350.add ((x5_1).toNat * 9)).block, (ad350.add ((x5_1).toNat * 9)).off + 2, none⟩ = some (.int .i64 ((rd_T41 l0 x5_1).f2)) ∧ w'.cell? ⟨(ad350.add ((x5_1).toNat * 9)).block, (ad350.add ((x5_1).toNat * 9)).off + 3, none⟩ = some (.int .i64 ((rd_T41 l0 x5_1).f3)) ∧ w'.cell? ⟨(ad350.add ((x5_1).toNat * 9)).block, (ad350.add ((x5_1).toNat * 9)).off + 4, none⟩ = some (.int .i64 ((rd_T41 l0 x5_1).f4.f0)) ∧ w'.cell? ⟨(ad350.add ((x5_1).toNat * 9)).block, (ad350.add ((x5_1).toNat * 9)).off + 5, none⟩ = some (.int .i64 ((rd_T41 l0 x5_1).f4.f1)) ∧ w'.cell? ⟨(ad350.add ((x5_1).toNat * 9)).block, (ad350.add ((x5_1).toNat * 9)).off + 6, none⟩ = some (.int .i64 ((rd_T41 l0 x5_1).f5)) ∧ w'.cell? ⟨(ad350.add ((x5_1).toNat * 9)).block, (ad350.add ((x5_1).toNat * 9)).off + 7, none⟩ = some (.int .i64 ((rd_T41 l0 x5_1).f6)) ∧ w'.cell? ⟨(ad350.add ((x5_1).toNat * 9)).block, (ad350.add ((x5_1).toNat * 9)).off + 8, none⟩ = some (.int .i64 ((rd_T41 l0 x5_1).f7)) ∧ w'.cell? (ad351.add ((x5_1).toNat * 9)) = some (.int .i64 ((rd_T41 l1 x5_1).f0)) ∧ w'.cell? ⟨(ad351.add ((x5_1).toNat * 9)).block, (ad351.add ((x5_1).toNat * 9)).off + 1, none⟩ = some (.int .i64 ((rd_T41 l1 x5_1).f1)) ∧ w'.cell? ⟨(ad351.add ((x5_1).toNat * 9)).block, (ad351.add ((x5_1).toNat * 9)).off + 2, none⟩ = some (.int .i64 ((rd_T41 l1 x5_1).f2)) ∧ w'.cell? ⟨(ad351.add ((x5_1).toNat * 9)).block, (ad351.add ((x5_1).toNat * 9)).off + 3, none⟩ = some (.int .i64 ((rd_T41 l1 x5_1).f3)) ∧ w'.cell? ⟨(ad351.add ((x5_1).toNat * 9)).block, (ad351.add ((x5_1).toNat * 9)).off + 4, none⟩ = some (.int .i64 ((rd_T41 l1 x5_1).f4.f0)) ∧ w'.cell? ⟨(ad351.add ((x5_1).toNat * 9)).block, (ad351.add ((x5_1).toNat * 9)).off + 5, none⟩ = some (.int .i64 ((rd_T41 l1 x5_1).f4.f1)) ∧ w'.cell? ⟨(ad351.add ((x5_1).toNat * 9)).block, (ad351.add ((x5_1).toNat * 9)).off + 6, none⟩ = some (.int .i64 ((rd_T41 l1 x5_1).f5)) ∧ w'.cell? ⟨(ad351.add ((x5_1).toNat * 9)).block, (ad351.add ((x5_1).toNat * 9)).off + 7, none⟩ = some (.int .i64 ((rd_T41 l1 x5_1).f6)) ∧ w'.cell? ⟨(ad351.add ((x5_1).toNat * 9)).block, (ad351.add ((x5_1).toNat * 9)).off + 8, none⟩ = some (.int .i64 ((rd_T41 l1 x5_1).f7))) (ds := []) #[false, false, false, false, false, false, false, false, false, false] (by kernel_rfl) rfl rfl ⟨((HB.out.cell (World.block_lt_of_cell? w _ hw350_0)).trans hw350_0), ((HB.out.cell (World.block_lt_of_cell? w _ hw350_1)).trans hw350_1), ((HB.out.cell (World.block_lt_of_cell? w _ hw350_2)).trans hw350_2), ((HB.out.cell (World.block_lt_of_cell? w _ hw350_3)).trans hw350_3), ((HB.out.cell (World.block_lt_of_cell? w _ hw350_4)).trans hw350_4), ((HB.out.cell (World.block_lt_of_cell? w _ hw350_5)).trans hw350_5), ((HB.out.cell (World.block_lt_of_cell? w _ hw350_6)).trans hw350_6), ((HB.out.cell (World.block_lt_of_cell? w _ hw350_7)).trans hw350_7), ((HB.out.cell (World.block_lt_of_cell? w _ hw350_8)).trans hw350_8), ((HB.out.cell (World.block_lt_of_cell? w _ hw351_0)).trans hw351_0), ((HB.out.cell (World.block_lt_of_cell? w _ hw351_1)).trans hw351_1), ((HB.out.cell (World.block_lt_of_cell? w _ hw351_2)).trans hw351_2), ((HB.out.cell (World.block_lt_of_cell? w _ hw351_3)).trans hw351_3), ((HB.out.cell (World.block_lt_of_cell? w _ hw351_4)).trans hw351_4), ((HB.out.cell (World.block_lt_of_cell? w _ hw351_5)).trans hw351_5), ((HB.out.cell (World.block_lt_of_cell? w _ hw351_6)).trans hw351_6), ((HB.out.cell (World.block_lt_of_cell? w _ hw351_7)).trans hw351_7), ((HB.out.cell (World.block_lt_of_cell? w _ hw351_8)).trans hw351_8)⟩ (fun hHeld => ?_); refine with_tabW laws_eqDeedS.tab6 laws_eqDeedS.bits6 (fun HT_ HW_ => ?_)
                generalize wr.drew = w11 at HB hx350_0 hx350_1 hx350_2 hx350_3 hx350_4 hx350_5 hx350_6 hx350_7 hx350_8 hx351_0 hx351_1 hx351_2 hx351_3 hx351_4 hx351_5 hx351_6 hx351_7 hx351_8 hHeld ⊢
                refine pure_ (i := 0) (N := some 17) (v := ?_) (a' := ?_) #[true, false, false, false, false, false, false, false, false, false] rfl rfl (any_of HT_.out (by kernel_rfl)) (fun _ _ _ h => h) (Or.inl ⟨by rfl, ?_⟩) ?_ ?_
                rotate_left
                · intro w'
                  go_simp
                  with_reducible rfl
                rotate_left
                · simp only [Act.put, List.setIfInBounds_toArray, List.set_cons_zero, List.set_cons_succ, i64_w, i32_w]
                  rfl
                refine pure_ (i := 1) (N := some 18) (v := ?_) (a' := ?_) #[true, true, false, false, false, false, false, false, false, false] rfl rfl (any_of HT_.out (by kernel_rfl)) (fun _ _ _ h => h) (Or.inl ⟨by rfl, ?_⟩) ?_ ?_
                rotate_left
                · intro w'
                  go_simp
                  with_reducible rfl
                rotate_left
                · simp only [Act.put, List.setIfInBounds_toArray, List.set_cons_zero, List.set_cons_succ, i64_w, i32_w]
                  rfl
                refine pure_ (i := 2) (N := some 19) (v := ?_) (a' := ?_) #[true, true, true, false, false, false, false, false, false, false] rfl rfl (any_of HT_.out (by kernel_rfl)) (fun _ _ _ h => h) (Or.inl ⟨by rfl, ?_⟩) ?_ ?_
                rotate_left
                · intro w'
                  go_simp
                  with_reducible rfl
                rotate_left
                · simp only [Act.put, List.setIfInBounds_toArray, List.set_cons_zero, List.set_cons_succ, i64_w, i32_w]
                  rfl
                refine pure_ (i := 4) (N := some 21) (v := ?_) (a' := ?_) #[true, true, true, false, true, false, false, false, false, false] rfl rfl (any_of HT_.out (by kernel_rfl)) (fun _ _ _ h => h) (Or.inl ⟨by rfl, ?_⟩) ?_ ?_
                rotate_left
                · intro w'
                  go_simp
                  with_reducible rfl
                rotate_left
                · simp only [Act.put, List.setIfInBounds_toArray, List.set_cons_zero, List.set_cons_succ, i64_w, i32_w]
                  rfl
                refine pure_ (i := 5) (N := some 22) (v := ?_) (a' := ?_) #[true, true, true, false, true, true, false, false, false, false] rfl rfl (any_of HT_.out (by kernel_rfl)) (fun _ _ _ h => h) (Or.inl ⟨by rfl, ?_⟩) ?_ ?_
                rotate_left
                · intro w'
                  go_simp
                  with_reducible rfl
                rotate_left
                · simp only [Act.put, List.setIfInBounds_toArray, List.set_cons_zero, List.set_cons_succ, i64_w, i32_w]
                  rfl
                refine pure_ (i := 6) (N := some 23) (v := ?_) (a' := ?_) #[true, true, true, false, true, true, true, false, false, false] rfl rfl (any_of HT_.out (by kernel_rfl)) (fun _ _ _ h => h) (Or.inl ⟨by rfl, ?_⟩) ?_ ?_
                rotate_left
                · intro w'
                  go_simp
                  with_reducible rfl
                rotate_left
                · simp only [Act.put, List.setIfInBounds_toArray, List.set_cons_zero, List.set_cons_succ, i64_w, i32_w]
                  rfl
                refine take_ (i := 3) (N := some 20) (v := ?_) (a' := ?_) #[true, true, true, true, true, true, true, false, false, false] rfl rfl (take_ofW HT_.out HW_.out (by kernel_rfl)) (fun _ _ _ h => h) (Or.inl ⟨by rfl, ?_⟩) hHeld ?_ ?_
                rotate_left
                · rintro w' ⟨s0, s1, s2, s3, s4, s5, s6, s7, s8, s9, s10, s11, s12, s13, s14, s15, s16, s17⟩
                  go_simp
                  with_reducible rfl
                rotate_left
                · simp only [Act.put, List.setIfInBounds_toArray, List.set_cons_zero, List.set_cons_succ, i64_w, i32_w]
                  rfl
                refine take_ (i := 7) (N := some 24) (v := ?_) (a' := ?_) #[true, true, true, true, true, true, true, true, false, false] rfl rfl (take_ofW HT_.out HW_.out (by kernel_rfl)) (fun _ _ _ h => h) (Or.inl ⟨by rfl, ?_⟩) hHeld ?_ ?_
                rotate_left
                · rintro w' ⟨s0, s1, s2, s3, s4, s5, s6, s7, s8, s9, s10, s11, s12, s13, s14, s15, s16, s17⟩
                  go_simp
                  with_reducible rfl
                rotate_left
                · simp only [Act.put, List.setIfInBounds_toArray, List.set_cons_zero, List.set_cons_succ, i64_w, i32_w]
                  rfl
                refine one_ (i := 8) (N := some 25) #[true, true, true, true, true, true, true, true, true, false] rfl rfl (one_of HT_.out (by kernel_rfl)) (by decide) (fun K hK => ?_)
                refine goes_ Tryd.func29 (by kernel_rfl) rfl #[.agg #[.int .i64 ((rd_T41 l0 x5_1).f0), .int .i64 ((rd_T41 l0 x5_1).f1), .int .i64 ((rd_T41 l0 x5_1).f2), .int .i64 ((rd_T41 l0 x5_1).f3), .int .i64 ((rd_T41 l0 x5_1).f4.f0), .int .i64 ((rd_T41 l0 x5_1).f4.f1), .int .i64 ((rd_T41 l0 x5_1).f5), .int .i64 ((rd_T41 l0 x5_1).f6), .int .i64 ((rd_T41 l0 x5_1).f7)], .agg #[.int .i64 ((rd_T41 l1 x5_1).f0), .int .i64 ((rd_T41 l1 x5_1).f1), .int .i64 ((rd_T41 l1 x5_1).f2), .int .i64 ((rd_T41 l1 x5_1).f3), .int .i64 ((rd_T41 l1 x5_1).f4.f0), .int .i64 ((rd_T41 l1 x5_1).f4.f1), .int .i64 ((rd_T41 l1 x5_1).f5), .int .i64 ((rd_T41 l1 x5_1).f6), .int .i64 ((rd_T41 l1 x5_1).f7)]] (by rfl) rfl rfl (by (try simp only [List.map_toArray, List.map_cons, List.map_nil]); first | done | rfl | (simp only [List.length_drop, List.length_take]; rfl)) ?_
                with_reducible refine (laws_eqDeed.calls ((rd_T41 l0 x5_1).f0) ((rd_T41 l0 x5_1).f1) ((rd_T41 l0 x5_1).f2) ((rd_T41 l0 x5_1).f3) ((rd_T41 l0 x5_1).f4.f0) ((rd_T41 l0 x5_1).f4.f1) ((rd_T41 l0 x5_1).f5) ((rd_T41 l0 x5_1).f6) ((rd_T41 l0 x5_1).f7) ((rd_T41 l1 x5_1).f0) ((rd_T41 l1 x5_1).f1) ((rd_T41 l1 x5_1).f2) ((rd_T41 l1 x5_1).f3) ((rd_T41 l1 x5_1).f4.f0) ((rd_T41 l1 x5_1).f4.f1) ((rd_T41 l1 x5_1).f5) ((rd_T41 l1 x5_1).f6) ((rd_T41 l1 x5_1).f7) false _ A7.out).mono ?_
                rintro e w12 ⟨rfl, hb⟩
                refine ⟨_, rfl, ?_⟩
                have n0_ := Aside0.mk (below_step (by repeat (first | (with_reducible first | exact HB.out | apply below_alloc | apply pw_below_drewN | apply below_drew1) | exact HB.out)) hb)
                clear HB
                have HB := n0_
                clear n0_
                (try clear hb)
                (try clear hb2)
                (try clear hk)
                (try clear hi)
                refine hK.out _ _ ⟨((HB.out.cell (World.block_lt_of_cell? w _ hw350_0)).trans hw350_0), ((HB.out.cell (World.block_lt_of_cell? w _ hw350_1)).trans hw350_1), ((HB.out.cell (World.block_lt_of_cell? w _ hw350_2)).trans hw350_2), ((HB.out.cell (World.block_lt_of_cell? w _ hw350_3)).trans hw350_3), ((HB.out.cell (World.block_lt_of_cell? w _ hw350_4)).trans hw350_4), ((HB.out.cell (World.block_lt_of_cell? w _ hw350_5)).trans hw350_5), ((HB.out.cell (World.block_lt_of_cell? w _ hw350_6)).trans hw350_6), ((HB.out.cell (World.block_lt_of_cell? w _ hw350_7)).trans hw350_7), ((HB.out.cell (World.block_lt_of_cell? w _ hw350_8)).trans hw350_8), ((HB.out.cell (World.block_lt_of_cell? w _ hw351_0)).trans hw351_0), ((HB.out.cell (World.block_lt_of_cell? w _ hw351_1)).trans hw351_1), ((HB.out.cell (World.block_lt_of_cell? w _ hw351_2)).trans hw351_2), ((HB.out.cell (World.block_lt_of_cell? w _ hw351_3)).trans hw351_3), ((HB.out.cell (World.block_lt_of_cell? w _ hw351_4)).trans hw351_4), ((HB.out.cell (World.block_lt_of_cell? w _ hw351_5)).trans hw351_5), ((HB.out.cell (World.block_lt_of_cell? w _ hw351_6)).trans hw351_6), ((HB.out.cell (World.block_lt_of_cell? w _ hw351_7)).trans hw351_7), ((HB.out.cell (World.block_lt_of_cell? w _ hw351_8)).trans hw351_8)⟩ (fun hHeld => ?_)
                clear hK K
                refine norm_ (a' := ?_) ?_ ?_
                rotate_left
                · show Act.put _ (some 25) _ = _
                  simp only [Act.put, List.setIfInBounds_toArray, List.set_cons_zero, List.set_cons_succ, i64_w, i32_w]
                  rfl
                refine pure_ (i := 9) (N := some 26) (v := ?_) (a' := ?_) #[true, true, true, true, true, true, true, true, true, true] rfl rfl (any_of HT_.out (by kernel_rfl)) (fun _ _ _ h => h) (Or.inl ⟨by rfl, ?_⟩) ?_ ?_
                rotate_left
                · intro w'
                  go_simp
                  with_reducible rfl
                rotate_left
                · simp only [Act.put, List.setIfInBounds_toArray, List.set_cons_zero, List.set_cons_succ, i64_w, i32_w]
                  rfl
                refine done_ (done_of HT_.out (by kernel_rfl)) ?_
                try go_wp2
                go_ret
                exact ⟨by first | rfl | (simp [errW_none, errW_some] <;> rfl) | (simp [*, errW_none, errW_some] <;> rfl), by repeat (first | (with_reducible first | exact HB.out | apply below_alloc | apply pw_below_drewN | apply below_drew1) | exact HB.out)⟩
            · rw [if_neg c6] at H
              exact absurd H (by simp)
          · rw [if_neg c5] at H
            exact absurd H (by simp)
        · rw [if_neg c4] at H
          have c4b0 : decide (x5_1 < (l0.length : Int)) = false := decide_eq_false c4
          clear c4
          obtain rfl := Option.some.inj H
          go_wp2
          go_ret
          exact ⟨by first | rfl | (simp [errW_none, errW_some] <;> rfl) | (simp [*, errW_none, errW_some] <;> rfl), by repeat (first | (with_reducible first | exact HB.out | apply below_alloc | apply pw_below_drewN | apply below_drew1) | exact HB.out)⟩
  · rw [if_neg c3] at H
    have c3b0 : ((l0.length : Int) == (l1.length : Int)) = false := beq_eq_false_iff_ne.mpr c3
    have c3b1 : ((l0.length : Int) != (l1.length : Int)) = true := bne_iff_ne.mpr c3
    have c3b2 : (l0.length == l1.length) = false := by first | simpa using c3 | (simp at c3 ⊢; omega)
    obtain rfl := Option.some.inj H
    go_enter Tryd.func22, Tryd.ntmps22
    go_wp2
    go_ret
    exact ⟨by first | rfl | (simp [errW_none, errW_some] <;> rfl) | (simp [*, errW_none, errW_some] <;> rfl), by repeat (first | (with_reducible first | exact HB.out | apply below_alloc | apply pw_below_drewN | apply below_drew1) | exact HB.out)⟩

end Go.Proofs.YtahmgalkliicfaaDoor.Q

-- made by a patched copy of print.sh: this session's own
namespace Go.Proofs.YtahmgalkliicfaaDoor.Q
open Go.RowKit Go.Proofs.YtahmgalkliicfaaDoorW.PrintWords Go.Proofs.YtahmgalkliicfaaDoorW.PrintLast Go.Proofs.YtahmgalkliicfaaDoorW.PrintMore
attribute [local go_sem] max2_int min2_int max_two min_two max_three min_three max_four min_four   -- for this text's walks alone
set_option linter.unusedVariables false
set_option linter.unusedSimpArgs false

/-! ### laws_FnExactJournalText: function 5 -/
def laws_FnExactJournalText.j0 : Nat → List (S37) → List (S41) → Bool → Option (Bool)
  | 0, _, _, _ => none
  | k + 1, x0, x6, x34 => if x34 = true then (some false) else ((laws_toDeedS.f k x0).bind fun t364 => ((laws_eqDeedS.f k x6 t364).bind fun t367 => (if t367 = true then (some true) else (some false))))
def laws_FnExactJournalText.f (k : Nat) (l0 : List (S37)) : Option (Bool) := (laws_szDeedS.f l0 1048576).bind fun t353 => (if t353 < 0 then (some true) else ((laws_toDeedS.f k l0).bind fun t354 => ((spec_JournalText.f t354).bind fun bt357 => ((laws_toDeedS.f k l0).bind fun t359 => ((impl_JournalText.f t359).bind fun bt362 => (if bt362.1.toList = bt357.1.toList then (laws_FnExactJournalText.j0 k l0 t359 (bt362.2 != bt357.2)) else (laws_FnExactJournalText.j0 k l0 t359 true)))))))
theorem laws_FnExactJournalText.mono_l : ∀ k, (∀ y0 y1 y2, LeO (laws_FnExactJournalText.j0 k y0 y1 y2) (laws_FnExactJournalText.j0 (k + 1) y0 y1 y2))
  | 0 => fun _ _ _ r h => by simp [laws_FnExactJournalText.j0] at h
  | k + 1 => by
    have ih0 := laws_FnExactJournalText.mono_l k
    · intro y0 y1 y2
      unfold laws_FnExactJournalText.j0
      repeat' first
      | (with_reducible exact ih0 _ _ _)
      | (with_reducible exact laws_eqDeedS.mono _ _ _)
      | (with_reducible exact laws_toDeedS.mono _ _)
      | (with_reducible exact LeO.refl _)
      | (with_reducible exact LeO.none _)
      | (with_reducible refine LeO.ite ?_ ?_)
      | (with_reducible refine LeO.bind ?_ (fun _ => ?_))
      | exact ih0 _ _ _
      | exact laws_eqDeedS.mono _ _ _
      | exact laws_toDeedS.mono _ _
      | exact LeO.none _
      | refine LeO.ite ?_ ?_
      | refine LeO.bind ?_ (fun _ => ?_)
theorem laws_FnExactJournalText.mono : ∀ a0 k, LeO (laws_FnExactJournalText.f k a0) (laws_FnExactJournalText.f (k + 1) a0) := by
  intro a0 k
  have ih0 := laws_FnExactJournalText.mono_l k
  unfold laws_FnExactJournalText.f
  repeat' first
      | (with_reducible exact ih0 _ _ _)
      | (with_reducible exact laws_eqDeedS.mono _ _ _)
      | (with_reducible exact laws_toDeedS.mono _ _)
      | (with_reducible exact LeO.refl _)
      | (with_reducible exact LeO.none _)
      | (with_reducible refine LeO.ite ?_ ?_)
      | (with_reducible refine LeO.bind ?_ (fun _ => ?_))
      | exact ih0 _ _ _
      | exact laws_eqDeedS.mono _ _ _
      | exact laws_toDeedS.mono _ _
      | exact LeO.none _
      | refine LeO.ite ?_ ?_
      | refine LeO.bind ?_ (fun _ => ?_)
set_option maxHeartbeats 8000000 in
set_option maxRecDepth 100000 in
theorem laws_FnExactJournalText.calls (k : Nat) (A0 : Option Addr) (c0 : Nat) (l0 : List (S37)) (r : Bool) (w : World) (hr0 : Kd.C k37 w A0 l0.length l0) (hc0 : l0.length ≤ c0) (hT : Tb.TB w) (h : laws_FnExactJournalText.f k l0 = some r) :
    Calls Tryd.prog 5 #[.slice A0 l0.length c0] w fun e w' => e = .returned (.bool r) ∧ Below w.heap.size w w' := by
  have HT := Aside0.mk hT
  clear hT
  have HR0 := Aside0.mk hr0
  have HC0 := Aside0.mk hc0
  clear hr0 hc0
  have HB := Aside0.mk (Below.refl w.heap.size w)
  have H : ((laws_szDeedS.f l0 1048576).bind fun t353 => (if t353 < 0 then (some true) else ((laws_toDeedS.f k l0).bind fun t354 => ((spec_JournalText.f t354).bind fun bt357 => ((laws_toDeedS.f k l0).bind fun t359 => ((impl_JournalText.f t359).bind fun bt362 => (if bt362.1.toList = bt357.1.toList then (laws_FnExactJournalText.j0 k l0 t359 (bt362.2 != bt357.2)) else (laws_FnExactJournalText.j0 k l0 t359 true)))))))) = some r := h
  clear h
  replace H := Option.bind_eq_some_iff.mp H
  obtain ⟨t353, A20, H⟩ := H
  replace H : (if t353 < 0 then (some true) else ((laws_toDeedS.f k l0).bind fun t354 => ((spec_JournalText.f t354).bind fun bt357 => ((laws_toDeedS.f k l0).bind fun t359 => ((impl_JournalText.f t359).bind fun bt362 => (if bt362.1.toList = bt357.1.toList then (laws_FnExactJournalText.j0 k l0 t359 (bt362.2 != bt357.2)) else (laws_FnExactJournalText.j0 k l0 t359 true))))))) = some r := H
  have A2 := Aside0.mk A20
  clear A20
  by_cases c3 : t353 < 0
  · rw [if_pos c3] at H
    have c3b0 : decide (t353 < 0) = true := decide_eq_true c3
    clear c3
    obtain rfl := Option.some.inj H
    go_enter Tryd.func5, Tryd.ntmps5
    go_wp2_with (first | ((with_reducible refine gate_callee (f := 18) rfl ?_); refine goesL_ (some 11) rfl rfl Tryd.func18 (by kernel_rfl) rfl #[.slice A0 l0.length c0, .int .i64 1048576] rfl (by (try simp only [List.map_toArray, List.map_cons, List.map_nil]); first | done | rfl | (simp only [List.length_drop, List.length_take]; rfl)) ?_; (with_reducible refine (laws_szDeedS.calls _ _ l0 1048576 t353 _ ?side1 ?side2 A2.out).mono ?_); (case side1 => repeat (first | exact HR0.out | (with_reducible refine Kd.C_alloc ?_ _) | (with_reducible refine Kd.C_drewN ?_ _) | (with_reducible refine Kd.C_drew ?_))); (case side2 => exact HC0.out); rintro e w' ⟨rfl, ⟨nd, rfl⟩⟩; refine ⟨_, rfl, ?_⟩))
    go_ret
    exact ⟨by first | rfl | (simp [errW_none, errW_some] <;> rfl) | (simp [*, errW_none, errW_some] <;> rfl), by repeat (first | (with_reducible first | exact HB.out | apply below_alloc | apply pw_below_drewN | apply below_drew1) | exact HB.out)⟩
  · rw [if_neg c3] at H
    have c3b0 : decide (t353 < 0) = false := decide_eq_false c3
    clear c3
    replace H := Option.bind_eq_some_iff.mp H
    obtain ⟨t354, A40, H⟩ := H
    replace H : ((spec_JournalText.f t354).bind fun bt357 => ((laws_toDeedS.f k l0).bind fun t359 => ((impl_JournalText.f t359).bind fun bt362 => (if bt362.1.toList = bt357.1.toList then (laws_FnExactJournalText.j0 k l0 t359 (bt362.2 != bt357.2)) else (laws_FnExactJournalText.j0 k l0 t359 true))))) = some r := H
    have A4 := Aside0.mk A40
    clear A40
    replace H := Option.bind_eq_some_iff.mp H
    obtain ⟨⟨t357, t358⟩, A50, H⟩ := H
    replace H : ((laws_toDeedS.f k l0).bind fun t359 => ((impl_JournalText.f t359).bind fun bt362 => (if bt362.1.toList = t357.toList then (laws_FnExactJournalText.j0 k l0 t359 (bt362.2 != t358)) else (laws_FnExactJournalText.j0 k l0 t359 true)))) = some r := H
    have A5 := Aside0.mk A50
    clear A50
    replace H := Option.bind_eq_some_iff.mp H
    obtain ⟨t359, A60, H⟩ := H
    replace H : ((impl_JournalText.f t359).bind fun bt362 => (if bt362.1.toList = t357.toList then (laws_FnExactJournalText.j0 k l0 t359 (bt362.2 != t358)) else (laws_FnExactJournalText.j0 k l0 t359 true))) = some r := H
    have A6 := Aside0.mk A60
    clear A60
    replace H := Option.bind_eq_some_iff.mp H
    obtain ⟨⟨t362, t363⟩, A70, H⟩ := H
    replace H : (if t362.toList = t357.toList then (laws_FnExactJournalText.j0 k l0 t359 (t363 != t358)) else (laws_FnExactJournalText.j0 k l0 t359 true)) = some r := H
    have A7 := Aside0.mk A70
    clear A70
    have HC8 := Aside0.mk H
    clear H
    go_enter Tryd.func5, Tryd.ntmps5
    go_upto_region 8 with (first | ((with_reducible refine gate_callee (f := 18) rfl ?_); refine goesL_ (some 11) rfl rfl Tryd.func18 (by kernel_rfl) rfl #[.slice A0 l0.length c0, .int .i64 1048576] rfl (by (try simp only [List.map_toArray, List.map_cons, List.map_nil]); first | done | rfl | (simp only [List.length_drop, List.length_take]; rfl)) ?_; (with_reducible refine (laws_szDeedS.calls _ _ l0 1048576 t353 _ ?side1 ?side2 A2.out).mono ?_); (case side1 => repeat (first | exact HR0.out | (with_reducible refine Kd.C_alloc ?_ _) | (with_reducible refine Kd.C_drewN ?_ _) | (with_reducible refine Kd.C_drew ?_))); (case side2 => exact HC0.out); rintro e w' ⟨rfl, ⟨nd, rfl⟩⟩; refine ⟨_, rfl, ?_⟩) | ((with_reducible refine gate_callee (f := 20) rfl ?_); refine goesL_ (some 16) rfl rfl Tryd.func20 (by kernel_rfl) rfl #[.slice A0 l0.length c0] rfl (by (try simp only [List.map_toArray, List.map_cons, List.map_nil]); first | done | rfl | (simp only [List.length_drop, List.length_take]; rfl)) ?_; (with_reducible refine (laws_toDeedS.calls k _ _ l0 t354 _ ?side1 ?side2 A4.out).mono ?_); (case side1 => repeat (first | exact HR0.out | (with_reducible refine Kd.C_alloc ?_ _) | (with_reducible refine Kd.C_drewN ?_ _) | (with_reducible refine Kd.C_drew ?_))); (case side2 => exact HC0.out); rintro e w9 ⟨v355, rfl, ho0, hb⟩; refine ⟨_, rfl, ?_⟩; have n0_ := Aside0.mk (Kd.R_lower ho0 (below_size (by repeat (first | (with_reducible first | exact HB.out | apply below_alloc | apply pw_below_drewN | apply below_drew1) | exact HB.out)))); have n1_ := Aside0.mk (below_step (by repeat (first | (with_reducible first | exact HB.out | apply below_alloc | apply pw_below_drewN | apply below_drew1) | exact HB.out)) hb); clear HB; have HO356 := n0_; have HB := n1_; clear n0_ n1_; (try clear hb); (try clear hb2); (try clear hk); (try clear hi); (try clear ho0); obtain ⟨Ao10, co10, eo10⟩ := Kd.R_slice HO356.out; subst eo10) | ((with_reducible refine gate_callee (f := 19) rfl ?_); refine goesL_ (some 17) rfl rfl Tryd.func19 (by kernel_rfl) rfl #[.slice Ao10 t354.length co10] rfl (by (try simp only [List.map_toArray, List.map_cons, List.map_nil]); first | done | rfl | (simp only [List.length_drop, List.length_take]; rfl)) ?_; (with_reducible refine (spec_JournalText.calls _ _ t354 t357 t358 _ ?side1 ?side2 A5.out).mono ?_); (case side1 => repeat (first | exact (Kd.R_reads' HO356.out).2.2 | (with_reducible refine Kd.C_alloc ?_ _) | (with_reducible refine Kd.C_drewN ?_ _) | (with_reducible refine Kd.C_drew ?_))); (case side2 => exact (Kd.R_reads' HO356.out).2.1); rintro e w11 ⟨rfl, hb⟩; refine ⟨_, rfl, ?_⟩; have n0_ := Aside0.mk (Kd.R_below (by (with_reducible repeat (first | apply Kd.R_alloc | apply Kd.R_drewN | apply Kd.R_drew)); exact HO356.out) hb); have n1_ := Aside0.mk (below_step (by repeat (first | (with_reducible first | exact HB.out | apply below_alloc | apply pw_below_drewN | apply below_drew1) | exact HB.out)) hb); clear HO356; clear HB; have HO356 := n0_; have HB := n1_; clear n0_ n1_; (try clear hb); (try clear hb2); (try clear hk); (try clear hi)) | ((with_reducible refine gate_callee (f := 20) rfl ?_); refine goesL_ (some 21) rfl rfl Tryd.func20 (by kernel_rfl) rfl #[.slice A0 l0.length c0] rfl (by (try simp only [List.map_toArray, List.map_cons, List.map_nil]); first | done | rfl | (simp only [List.length_drop, List.length_take]; rfl)) ?_; (with_reducible refine (laws_toDeedS.calls k _ _ l0 t359 _ ?side1 ?side2 A6.out).mono ?_); (case side1 => repeat (first | exact (Kd.C_below HR0.out HB.out) | (with_reducible refine Kd.C_alloc ?_ _) | (with_reducible refine Kd.C_drewN ?_ _) | (with_reducible refine Kd.C_drew ?_))); (case side2 => exact HC0.out); rintro e w12 ⟨v360, rfl, ho0, hb⟩; refine ⟨_, rfl, ?_⟩; have n0_ := Aside0.mk (Kd.R_elder' (by (with_reducible repeat (first | apply Kd.R_alloc | apply Kd.R_drewN | apply Kd.R_drew)); exact HO356.out) (Kd.R_base ho0) hb); have n1_ := Aside0.mk (Kd.R_lower (Kd.R_new' ho0 (Kd.R_lt (by (with_reducible repeat (first | apply Kd.R_alloc | apply Kd.R_drewN | apply Kd.R_drew)); exact HO356.out))) (below_size (by repeat (first | (with_reducible first | exact HB.out | apply below_alloc | apply pw_below_drewN | apply below_drew1) | exact HB.out)))); have n2_ := Aside0.mk (below_step (by repeat (first | (with_reducible first | exact HB.out | apply below_alloc | apply pw_below_drewN | apply below_drew1) | exact HB.out)) hb); clear HO356; clear HB; have HO356 := n0_; have HO361 := n1_; have HB := n2_; clear n0_ n1_ n2_; (try clear hb); (try clear hb2); (try clear hk); (try clear hi); (try clear ho0); obtain ⟨Ao13, co13, eo13⟩ := Kd.R_slice HO361.out; subst eo13) | ((with_reducible refine gate_callee (f := 21) rfl ?_); refine goesL_ (some 24) rfl rfl Tryd.func21 (by kernel_rfl) rfl #[.slice Ao13 t359.length co13] rfl (by (try simp only [List.map_toArray, List.map_cons, List.map_nil]); first | done | rfl | (simp only [List.length_drop, List.length_take]; rfl)) ?_; (with_reducible refine (impl_JournalText.calls _ _ t359 t362 t363 _ ?side1 ?side2 ?side3 A7.out).mono ?_); (case side1 => repeat (first | exact (Kd.R_reads' HO361.out).2.2 | (with_reducible refine Kd.C_alloc ?_ _) | (with_reducible refine Kd.C_drewN ?_ _) | (with_reducible refine Kd.C_drew ?_))); (case side2 => exact (Kd.R_reads' HO361.out).2.1); (case side3 => first | exact HT.out | exact Tb.TB.below HT.out (by repeat (first | (with_reducible first | exact HB.out | apply below_alloc | apply pw_below_drewN | apply below_drew1) | exact HB.out))); rintro e w14 ⟨rfl, hb⟩; refine ⟨_, rfl, ?_⟩; have n0_ := Aside0.mk (Kd.R_below (by (with_reducible repeat (first | apply Kd.R_alloc | apply Kd.R_drewN | apply Kd.R_drew)); exact HO356.out) hb); have n1_ := Aside0.mk (Kd.R_below (by (with_reducible repeat (first | apply Kd.R_alloc | apply Kd.R_drewN | apply Kd.R_drew)); exact HO361.out) hb); have n2_ := Aside0.mk (below_step (by repeat (first | (with_reducible first | exact HB.out | apply below_alloc | apply pw_below_drewN | apply below_drew1) | exact HB.out)) hb); clear HO356; clear HO361; clear HB; have HO356 := n0_; have HO361 := n1_; have HB := n2_; clear n0_ n1_ n2_; (try clear hb); (try clear hb2); (try clear hk); (try clear hi)))
    (try simp only [Act.put, List.setIfInBounds_toArray, List.set_cons_zero, List.set_cons_succ])
    go_cut [34] (fun v34 wc => ∃ (kq : Nat) (x34_7 : Bool), v34 = .bool x34_7 ∧ Aside0 (laws_FnExactJournalText.j0 kq l0 t359 x34_7 = some r) ∧ Aside0 (kq ≤ k) ∧ Aside0 (Kd.R k41 41 wc w.heap.size (fun _ => True) (.slice Ao13 t359.length co13) t359) ∧ Aside0 (Below w.heap.size w wc))
    case first =>
      have H := HC8.out
      clear HC8
      by_cases c15 : t362.toList = t357.toList
      · rw [if_pos c15] at H
        have c15b0 : (t362.toList == t357.toList) = true := beq_iff_eq.mpr c15
        have c15b1 : (t362.toList != t357.toList) = false := bne_eq_false_iff_eq.mpr c15
        clear c15
        (first | rw [c15b0] | (simp only [i64_w, i32_w]; rw [c15b0]) | skip)
        have H' := Aside0.mk H
        clear H
        go_wp2
        go_meet
        case rel => exact ⟨_, ((t363 != t358)), (by first | rfl | (simp; done) | (simp [*]; done)), H', ⟨by first | omega | exact Nat.le_refl _⟩, ⟨by (with_reducible repeat (first | apply Kd.R_alloc | apply Kd.R_drewN | apply Kd.R_drew)); exact Kd.R_mono HO361.out (fun _ hk => trivial)⟩, ⟨by repeat (first | (with_reducible first | exact HB.out | apply below_alloc | apply pw_below_drewN | apply below_drew1) | exact HB.out)⟩⟩
      · rw [if_neg c15] at H
        have c15b0 : (t362.toList == t357.toList) = false := beq_eq_false_iff_ne.mpr c15
        have c15b1 : (t362.toList != t357.toList) = true := bne_iff_ne.mpr c15
        (first | rw [c15b0] | (simp only [i64_w, i32_w]; rw [c15b0]) | skip)
        have H' := Aside0.mk H
        clear H
        go_wp2
        go_meet
        case rel => exact ⟨_, (true), (by first | rfl | (simp; done) | (simp [*]; done)), H', ⟨by first | omega | exact Nat.le_refl _⟩, ⟨by (with_reducible repeat (first | apply Kd.R_alloc | apply Kd.R_drewN | apply Kd.R_drew)); exact Kd.R_mono HO361.out (fun _ hk => trivial)⟩, ⟨by repeat (first | (with_reducible first | exact HB.out | apply below_alloc | apply pw_below_drewN | apply below_drew1) | exact HB.out)⟩⟩
    case rest =>
      clear HC8
      try clear c1
      try clear c2
      try clear p2
      try clear c3
      try clear c3b0
      try clear c5
      try clear c15
      try clear c15b0
      try clear c15b1
      obtain ⟨kq, x34_7, rfl, HA, HJ7, HO_6, HB⟩ := hcut
      cases kq with
      | zero => exact absurd HA.out (by simp [laws_FnExactJournalText.j0])
      | succ kj7 =>
        have H := HA.out
        clear HA
        simp only [laws_FnExactJournalText.j0] at H
        by_cases c16 : x34_7 = true
        · subst c16
          have H1 : (some false) = some r := by rw [if_pos rfl] at H; exact H
          clear H
          have H := H1
          clear H1
          obtain rfl := Option.some.inj H
          go_wp2
          go_ret
          exact ⟨by first | rfl | (simp [errW_none, errW_some] <;> rfl) | (simp [*, errW_none, errW_some] <;> rfl), by repeat (first | (with_reducible first | exact HB.out | apply below_alloc | apply pw_below_drewN | apply below_drew1) | exact HB.out)⟩
        · replace c16 := Bool.eq_false_iff.mpr c16
          subst c16
          have H1 : ((laws_toDeedS.f kj7 l0).bind fun t364 => ((laws_eqDeedS.f kj7 t359 t364).bind fun t367 => (if t367 = true then (some true) else (some false)))) = some r := by rw [if_neg (show ¬ (false = true) by decide)] at H; exact H
          clear H
          have H := H1
          clear H1
          replace H := Option.bind_eq_some_iff.mp H
          obtain ⟨t364, A170, H⟩ := H
          replace H : ((laws_eqDeedS.f kj7 t359 t364).bind fun t367 => (if t367 = true then (some true) else (some false))) = some r := H
          have A17 := Aside0.mk A170
          clear A170
          replace H := Option.bind_eq_some_iff.mp H
          obtain ⟨t367, A180, H⟩ := H
          replace H : (if t367 = true then (some true) else (some false)) = some r := H
          have A18 := Aside0.mk A180
          clear A180
          by_cases c19 : t367 = true
          · subst c19
            have H1 : (some true) = some r := by rw [if_pos rfl] at H; exact H
            clear H
            have H := H1
            clear H1
            obtain rfl := Option.some.inj H
            go_wp2_with (first | ((with_reducible refine gate_callee (f := 20) rfl ?_); refine goesL_ (some 37) rfl rfl Tryd.func20 (by kernel_rfl) rfl #[.slice A0 l0.length c0] rfl (by (try simp only [List.map_toArray, List.map_cons, List.map_nil]); first | done | rfl | (simp only [List.length_drop, List.length_take]; rfl)) ?_; (with_reducible refine (laws_toDeedS.calls kj7 _ _ l0 t364 _ ?side1 ?side2 A17.out).mono ?_); (case side1 => repeat (first | exact (Kd.C_below HR0.out HB.out) | (with_reducible refine Kd.C_alloc ?_ _) | (with_reducible refine Kd.C_drewN ?_ _) | (with_reducible refine Kd.C_drew ?_))); (case side2 => exact HC0.out); rintro e w20 ⟨v365, rfl, ho0, hb⟩; refine ⟨_, rfl, ?_⟩; have n0_ := Aside0.mk (Kd.R_elder' (by (with_reducible repeat (first | apply Kd.R_alloc | apply Kd.R_drewN | apply Kd.R_drew)); exact HO_6.out) (Kd.R_base ho0) hb); have n1_ := Aside0.mk (Kd.R_lower (Kd.R_new' ho0 (Kd.R_lt (by (with_reducible repeat (first | apply Kd.R_alloc | apply Kd.R_drewN | apply Kd.R_drew)); exact HO_6.out))) (below_size (by repeat (first | (with_reducible first | exact HB.out | apply below_alloc | apply pw_below_drewN | apply below_drew1) | exact HB.out)))); have n2_ := Aside0.mk (below_step (by repeat (first | (with_reducible first | exact HB.out | apply below_alloc | apply pw_below_drewN | apply below_drew1) | exact HB.out)) hb); clear HO_6; clear HB; have HO_6 := n0_; have HO366 := n1_; have HB := n2_; clear n0_ n1_ n2_; (try clear hb); (try clear hb2); (try clear hk); (try clear hi); (try clear ho0); obtain ⟨Ao21, co21, eo21⟩ := Kd.R_slice HO366.out; subst eo21) | ((with_reducible refine gate_callee (f := 22) rfl ?_); refine goesL_ (some 38) rfl rfl Tryd.func22 (by kernel_rfl) rfl #[.slice Ao13 t359.length co13, .slice Ao21 t364.length co21] rfl (by (try simp only [List.map_toArray, List.map_cons, List.map_nil]); first | done | rfl | (simp only [List.length_drop, List.length_take]; rfl)) ?_; (with_reducible refine (laws_eqDeedS.calls kj7 _ _ t359 _ _ t364 true _ ?side1 ?side2 ?side3 ?side4 A18.out).mono ?_); (case side1 => repeat (first | exact (Kd.R_reads' HO_6.out).2.2 | (with_reducible refine Kd.C_alloc ?_ _) | (with_reducible refine Kd.C_drewN ?_ _) | (with_reducible refine Kd.C_drew ?_))); (case side2 => exact (Kd.R_reads' HO_6.out).2.1); (case side3 => repeat (first | exact (Kd.R_reads' HO366.out).2.2 | (with_reducible refine Kd.C_alloc ?_ _) | (with_reducible refine Kd.C_drewN ?_ _) | (with_reducible refine Kd.C_drew ?_))); (case side4 => exact (Kd.R_reads' HO366.out).2.1); rintro e w22 ⟨rfl, hb⟩; refine ⟨_, rfl, ?_⟩; have n0_ := Aside0.mk (Kd.R_below (by (with_reducible repeat (first | apply Kd.R_alloc | apply Kd.R_drewN | apply Kd.R_drew)); exact HO_6.out) hb); have n1_ := Aside0.mk (Kd.R_below (by (with_reducible repeat (first | apply Kd.R_alloc | apply Kd.R_drewN | apply Kd.R_drew)); exact HO366.out) hb); have n2_ := Aside0.mk (below_step (by repeat (first | (with_reducible first | exact HB.out | apply below_alloc | apply pw_below_drewN | apply below_drew1) | exact HB.out)) hb); clear HO_6; clear HO366; clear HB; have HO_6 := n0_; have HO366 := n1_; have HB := n2_; clear n0_ n1_ n2_; (try clear hb); (try clear hb2); (try clear hk); (try clear hi)))
            go_ret
            exact ⟨by first | rfl | (simp [errW_none, errW_some] <;> rfl) | (simp [*, errW_none, errW_some] <;> rfl), by repeat (first | (with_reducible first | exact HB.out | apply below_alloc | apply pw_below_drewN | apply below_drew1) | exact HB.out)⟩
          · replace c19 := Bool.eq_false_iff.mpr c19
            subst c19
            have H1 : (some false) = some r := by rw [if_neg (show ¬ (false = true) by decide)] at H; exact H
            clear H
            have H := H1
            clear H1
            obtain rfl := Option.some.inj H
            go_wp2_with (first | ((with_reducible refine gate_callee (f := 20) rfl ?_); refine goesL_ (some 37) rfl rfl Tryd.func20 (by kernel_rfl) rfl #[.slice A0 l0.length c0] rfl (by (try simp only [List.map_toArray, List.map_cons, List.map_nil]); first | done | rfl | (simp only [List.length_drop, List.length_take]; rfl)) ?_; (with_reducible refine (laws_toDeedS.calls kj7 _ _ l0 t364 _ ?side1 ?side2 A17.out).mono ?_); (case side1 => repeat (first | exact (Kd.C_below HR0.out HB.out) | (with_reducible refine Kd.C_alloc ?_ _) | (with_reducible refine Kd.C_drewN ?_ _) | (with_reducible refine Kd.C_drew ?_))); (case side2 => exact HC0.out); rintro e w23 ⟨v365, rfl, ho0, hb⟩; refine ⟨_, rfl, ?_⟩; have n0_ := Aside0.mk (Kd.R_elder' (by (with_reducible repeat (first | apply Kd.R_alloc | apply Kd.R_drewN | apply Kd.R_drew)); exact HO_6.out) (Kd.R_base ho0) hb); have n1_ := Aside0.mk (Kd.R_lower (Kd.R_new' ho0 (Kd.R_lt (by (with_reducible repeat (first | apply Kd.R_alloc | apply Kd.R_drewN | apply Kd.R_drew)); exact HO_6.out))) (below_size (by repeat (first | (with_reducible first | exact HB.out | apply below_alloc | apply pw_below_drewN | apply below_drew1) | exact HB.out)))); have n2_ := Aside0.mk (below_step (by repeat (first | (with_reducible first | exact HB.out | apply below_alloc | apply pw_below_drewN | apply below_drew1) | exact HB.out)) hb); clear HO_6; clear HB; have HO_6 := n0_; have HO366 := n1_; have HB := n2_; clear n0_ n1_ n2_; (try clear hb); (try clear hb2); (try clear hk); (try clear hi); (try clear ho0); obtain ⟨Ao24, co24, eo24⟩ := Kd.R_slice HO366.out; subst eo24) | ((with_reducible refine gate_callee (f := 22) rfl ?_); refine goesL_ (some 38) rfl rfl Tryd.func22 (by kernel_rfl) rfl #[.slice Ao13 t359.length co13, .slice Ao24 t364.length co24] rfl (by (try simp only [List.map_toArray, List.map_cons, List.map_nil]); first | done | rfl | (simp only [List.length_drop, List.length_take]; rfl)) ?_; (with_reducible refine (laws_eqDeedS.calls kj7 _ _ t359 _ _ t364 false _ ?side1 ?side2 ?side3 ?side4 A18.out).mono ?_); (case side1 => repeat (first | exact (Kd.R_reads' HO_6.out).2.2 | (with_reducible refine Kd.C_alloc ?_ _) | (with_reducible refine Kd.C_drewN ?_ _) | (with_reducible refine Kd.C_drew ?_))); (case side2 => exact (Kd.R_reads' HO_6.out).2.1); (case side3 => repeat (first | exact (Kd.R_reads' HO366.out).2.2 | (with_reducible refine Kd.C_alloc ?_ _) | (with_reducible refine Kd.C_drewN ?_ _) | (with_reducible refine Kd.C_drew ?_))); (case side4 => exact (Kd.R_reads' HO366.out).2.1); rintro e w25 ⟨rfl, hb⟩; refine ⟨_, rfl, ?_⟩; have n0_ := Aside0.mk (Kd.R_below (by (with_reducible repeat (first | apply Kd.R_alloc | apply Kd.R_drewN | apply Kd.R_drew)); exact HO_6.out) hb); have n1_ := Aside0.mk (Kd.R_below (by (with_reducible repeat (first | apply Kd.R_alloc | apply Kd.R_drewN | apply Kd.R_drew)); exact HO366.out) hb); have n2_ := Aside0.mk (below_step (by repeat (first | (with_reducible first | exact HB.out | apply below_alloc | apply pw_below_drewN | apply below_drew1) | exact HB.out)) hb); clear HO_6; clear HO366; clear HB; have HO_6 := n0_; have HO366 := n1_; have HB := n2_; clear n0_ n1_ n2_; (try clear hb); (try clear hb2); (try clear hk); (try clear hi)))
            go_ret
            exact ⟨by first | rfl | (simp [errW_none, errW_some] <;> rfl) | (simp [*, errW_none, errW_some] <;> rfl), by repeat (first | (with_reducible first | exact HB.out | apply below_alloc | apply pw_below_drewN | apply below_drew1) | exact HB.out)⟩

end Go.Proofs.YtahmgalkliicfaaDoor.Q

/- What the laws' own helpers compute on lists of deeds. -/
namespace Go.Proofs.YtahmgalkliicfaaDoor.PuJ
open Go.RowKit Go.Proofs.YtahmgalkliicfaaDoorW.PrintWords Go.Proofs.YtahmgalkliicfaaDoor.Q
abbrev Dl := S37
abbrev Dd := S41
theorem wrap_id {x : Int} (h1 : -9223372036854775808 ≤ x) (h2 : x ≤ 9223372036854775807) : wrap64 x = x := by unfold wrap64; omega
theorem getD_nat {α : Type} (l : List α) (k : Nat) (z : α) (h : k < l.length) : l.getD (k : Int).toNat z = l[k] := by
  simp [List.getD_eq_getElem?_getD, h]
theorem rdD_at (l : List Dd) (k : Nat) (h : k < l.length) : rd_T41 l k = l[k] := getD_nat l k z41 h
theorem rdL_at (l : List Dl) (k : Nat) (h : k < l.length) : rd_T37 l k = l[k] := getD_nat l k z37 h
def convD (x : Dl) : Dd := ⟨x.f0, x.f1, x.f2, x.f3, ⟨x.f4.f0, x.f4.f1⟩, x.f5, x.f6, x.f7⟩
theorem szDeedS_eq (l : List Dl) (h : l.length ≤ 9223372036854775807) : laws_szDeedS.f l 1048576 = some (if l.length ≤ 1048576 then 1048576 - (l.length : Int) else -1) := by
  have e : wrap64 (1048576 - (l.length : Int)) = 1048576 - (l.length : Int) := wrap_id (by omega) (by omega)
  simp only [laws_szDeedS.f, e]
  by_cases hl : l.length ≤ 1048576
  · rw [if_neg (by omega), if_pos hl]
  · rw [if_pos (by omega), if_neg hl]
theorem toDeedS_loop (l : List Dl) (hl : l.length ≤ 1048576) : ∀ (d k i : Nat) (x : List Dd), x.length = l.length → i + d = l.length → d < k → (∀ j, j < i → x[j]? = (l.map convD)[j]?) → laws_toDeedS.l0 k l x i = some (l.map convD) := by
  intro d
  induction d with
  | zero =>
    intro k i x hx hi hk hj
    obtain ⟨k, rfl⟩ : ∃ m, k = m + 1 := ⟨k - 1, by omega⟩
    simp only [laws_toDeedS.l0]
    rw [if_neg (by omega)]
    congr 1
    apply List.ext_getElem?
    intro j
    by_cases h : j < i
    · exact hj j h
    · rw [List.getElem?_eq_none (by omega), List.getElem?_eq_none (by simp; omega)]
  | succ d ih =>
    intro k i x hx hi hk hj
    obtain ⟨k, rfl⟩ : ∃ m, k = m + 1 := ⟨k - 1, by omega⟩
    simp only [laws_toDeedS.l0, laws_toDeed.f, laws_toRing.f, Option.bind_some]
    rw [if_pos (by omega), if_pos (by omega), if_pos (by omega), wrap_id (by omega) (by omega), Int.toNat_natCast, show (i : Int) + 1 = ((i + 1 : Nat) : Int) by omega]
    refine ih k (i + 1) _ (by simp [hx]) (by omega) (by omega) ?_
    intro j hlt
    by_cases h : j = i
    · subst h
      rw [List.getElem?_set_self (by omega), List.getElem?_map, List.getElem?_eq_getElem (by omega), rdL_at l j (by omega)]
      rfl
    · rw [List.getElem?_set_ne (by omega)]; exact hj j (by omega)
theorem toDeedS_eq (l : List Dl) (hl : l.length ≤ 1048576) (k : Nat) (hk : l.length < k) : laws_toDeedS.f k l = some (l.map convD) := by
  simp only [laws_toDeedS.f, Int.toNat_natCast]
  rw [if_pos (by omega), if_pos (by omega)]
  exact toDeedS_loop l hl l.length k 0 _ (by simp) (by omega) hk (by intro j hj; omega)
theorem eqDeedS_loop (l : List Dd) (hl : l.length ≤ 1048576) : ∀ (d k i : Nat), i + d = l.length → d < k → laws_eqDeedS.l0 k l l i = some true := by
  intro d
  induction d with
  | zero =>
    intro k i hi hk
    obtain ⟨k, rfl⟩ : ∃ m, k = m + 1 := ⟨k - 1, by omega⟩
    simp only [laws_eqDeedS.l0]
    rw [if_neg (by omega)]
  | succ d ih =>
    intro k i hi hk
    obtain ⟨k, rfl⟩ : ∃ m, k = m + 1 := ⟨k - 1, by omega⟩
    simp only [laws_eqDeedS.l0, laws_eqDeed.f, laws_eqRing.f, if_true, Option.bind_some]
    rw [if_pos (by omega), if_pos (by omega), if_pos (by omega), wrap_id (by omega) (by omega), show (i : Int) + 1 = ((i + 1 : Nat) : Int) by omega]
    exact ih k (i + 1) (by omega) (by omega)
theorem eqDeedS_eq (l : List Dd) (hl : l.length ≤ 1048576) (k : Nat) (hk : l.length < k) : laws_eqDeedS.f k l l = some true := by
  simp only [laws_eqDeedS.f, if_true]
  exact eqDeedS_loop l hl l.length k 0 (by omega) hk
end Go.Proofs.YtahmgalkliicfaaDoor.PuJ

/- The law on JournalText, plainly. -/
namespace Go.Proofs.YtahmgalkliicfaaDoor.PuJT
open Go.RowKit Go.Proofs.YtahmgalkliicfaaDoorW.PrintWords Go.Proofs.YtahmgalkliicfaaDoor.Q Go.Proofs.YtahmgalkliicfaaDoor.PuJ
theorem law_FnExactJournalText (l : List Dl) (h : l.length ≤ 9223372036854775807) : ∃ k, laws_FnExactJournalText.f k l = some true := by
  refine ⟨l.length + 100 + 1, ?_⟩
  simp only [laws_FnExactJournalText.f, szDeedS_eq l h, Option.bind_some]
  by_cases hl : l.length ≤ 1048576
  · have hm : (l.map convD).length ≤ 1048576 := by simpa using hl
    have hs : spec_JournalText.f (l.map convD) = some (if Hm.deedsB (l.map convD) = true then (PuD.txt (Hl.jn (l.map convD)).2, true) else ((⟨#[]⟩ : ByteArray), false)) := by
      simp only [spec_JournalText.f, spec_l11Deeds.f, Option.bind_some]
      by_cases hd : Hm.deedsB (l.map convD) = true
      · have := hd
        simp only [Hm.deedsB, Bool.and_eq_true, decide_eq_true_eq] at this
        rw [if_pos hd, if_pos hd, spec_l11Journal.f, if_pos ⟨by omega, this.2⟩]; rfl
      · rw [if_neg hd, if_neg hd]
    rw [if_pos hl, if_neg (by omega)]
    simp only [toDeedS_eq l hl (l.length + 100 + 1) (by omega), Option.bind_some, hs, impl_JournalText.f, if_true, bne_self_eq_false]
    simp [laws_FnExactJournalText.j0, toDeedS_eq l hl (l.length + 100) (by omega), eqDeedS_eq _ hm (l.length + 100) (by simp)]
  · rw [if_neg hl]; simp
end Go.Proofs.YtahmgalkliicfaaDoor.PuJT

