/- Parts of the proof that the law of this seat holds: Q29, Q30, PuS, Hi, Q34, Q35, Q36, Q37, Q38, Q39, PuT, Hj. -/
import Derived.Test.YtkkiagoacbhhjaaGUAa
-- made by a patched copy of print.sh: this session's own
namespace Go.Proofs.Ytkkiagoacbhhjaa.Q
open Go.RowKit Go.Proofs.YtkkiagoacbhhjaaW.PrintWords Go.Proofs.YtkkiagoacbhhjaaW.PrintLast Go.Proofs.YtkkiagoacbhhjaaW.PrintMore
attribute [local go_sem] max2_int min2_int max_two min_two max_three min_three max_four min_four   -- for this text's walks alone
set_option linter.unusedVariables false
set_option linter.unusedSimpArgs false

/-! ### laws_eqSightS: function 45 -/
def laws_eqSightS.l0 : Nat → List (S64) → List (S64) → Int → Option (Bool)
  | 0, _, _, _ => none
  | k + 1, x0, x1, x5 => if x5 < (x0.length : Int) then (if 0 ≤ x5 then (if x5 < (x1.length : Int) then ((laws_eqSight.f ((rd_T64 x0 x5).f0) ((rd_T64 x0 x5).f1) ((rd_T64 x0 x5).f2) ((rd_T64 x0 x5).f3) ((rd_T64 x1 x5).f0) ((rd_T64 x1 x5).f1) ((rd_T64 x1 x5).f2) ((rd_T64 x1 x5).f3)).bind fun t207 => (if t207 = true then (laws_eqSightS.l0 k x0 x1 (wrap64 (x5 + 1))) else (some false))) else (none)) else (none)) else (some true)
def laws_eqSightS.f (k : Nat) (l0 : List (S64)) (l1 : List (S64)) : Option (Bool) := if (l0.length : Int) = (l1.length : Int) then (laws_eqSightS.l0 k l0 l1 0) else (some false)
theorem laws_eqSightS.mono_l : ∀ k, (∀ y0 y1 y2, LeO (laws_eqSightS.l0 k y0 y1 y2) (laws_eqSightS.l0 (k + 1) y0 y1 y2))
  | 0 => fun _ _ _ r h => by simp [laws_eqSightS.l0] at h
  | k + 1 => by
    have ih0 := laws_eqSightS.mono_l k
    · intro y0 y1 y2
      unfold laws_eqSightS.l0
      repeat' first
      | (with_reducible exact ih0 _ _ _)
      | (with_reducible exact LeO.refl _)
      | (with_reducible exact LeO.none _)
      | (with_reducible refine LeO.ite ?_ ?_)
      | (with_reducible refine LeO.bind ?_ (fun _ => ?_))
      | exact ih0 _ _ _
      | exact LeO.none _
      | refine LeO.ite ?_ ?_
      | refine LeO.bind ?_ (fun _ => ?_)
theorem laws_eqSightS.mono : ∀ a0 a1 k, LeO (laws_eqSightS.f k a0 a1) (laws_eqSightS.f (k + 1) a0 a1) := by
  intro a0 a1 k
  have ih0 := laws_eqSightS.mono_l k
  unfold laws_eqSightS.f
  repeat' first
      | (with_reducible exact ih0 _ _ _)
      | (with_reducible exact LeO.refl _)
      | (with_reducible exact LeO.none _)
      | (with_reducible refine LeO.ite ?_ ?_)
      | (with_reducible refine LeO.bind ?_ (fun _ => ?_))
      | exact ih0 _ _ _
      | exact LeO.none _
      | refine LeO.ite ?_ ?_
      | refine LeO.bind ?_ (fun _ => ?_)
def laws_eqSightS.T6 : Bool × List (List Nat × List Nat) := (true, [([], []), ([], []), ([0, 1], [0, 1]), ([2], [2]), ([], []), ([], []), ([4, 5], [4, 5]), ([6], [6]), ([3, 7], [3, 7]), ([8], [8])])
def laws_eqSightS.B6 : List Nat := [0, 0, 3, 7, 0, 0, 48, 112, 255, 511]
theorem laws_eqSightS.tab6 : rtab .any (opsOf Try.f45 6) = laws_eqSightS.T6 := by kernel_rfl
theorem laws_eqSightS.bits6 : waitsOk laws_eqSightS.T6.2 laws_eqSightS.B6 = true := by kernel_rfl
set_option maxHeartbeats 8000000 in
set_option maxRecDepth 100000 in
theorem laws_eqSightS.calls (k : Nat) (A0 : Option Addr) (c0 : Nat) (l0 : List (S64)) (A1 : Option Addr) (c1 : Nat) (l1 : List (S64)) (r : Bool) (w : World) (hr0 : Kd.C k64 w A0 l0.length l0) (hc0 : l0.length ≤ c0) (hr1 : Kd.C k64 w A1 l1.length l1) (hc1 : l1.length ≤ c1) (h : laws_eqSightS.f k l0 l1 = some r) :
    Calls Try.prog 45 #[.slice A0 l0.length c0, .slice A1 l1.length c1] w fun e w' => e = .returned (.bool r) ∧ Below w.heap.size w w' := by
  have hu64 := Try.underlying64
  have HR0 := Aside0.mk hr0
  have HC0 := Aside0.mk hc0
  clear hr0 hc0
  have HR1 := Aside0.mk hr1
  have HC1 := Aside0.mk hc1
  clear hr1 hc1
  have HB := Aside0.mk (Below.refl w.heap.size w)
  have H : (if (l0.length : Int) = (l1.length : Int) then (laws_eqSightS.l0 k l0 l1 0) else (some false)) = some r := h
  clear h
  by_cases c3 : (l0.length : Int) = (l1.length : Int)
  · rw [if_pos c3] at H
    have c3b0 : ((l0.length : Int) == (l1.length : Int)) = true := beq_iff_eq.mpr c3
    have c3b1 : ((l0.length : Int) != (l1.length : Int)) = false := bne_eq_false_iff_eq.mpr c3
    have c3b2 : (l0.length == l1.length) = true := by first | simpa using c3 | (simp at c3 ⊢; omega)
    clear c3
    have H' := Aside0.mk H
    clear H
    go_enter Try.func45, Try.ntmps45
    go_wp2
    go_loopg [5] k (fun kq v5 w' => ∃ (x5_1 : Int), v5 = .int .i64 x5_1 ∧ Aside0 (laws_eqSightS.l0 kq l0 l1 x5_1 = some r) ∧ Aside0 (kq ≤ k) ∧ Aside0 (Below w.heap.size w w'))
    case atStart => exact ⟨(0), (by first | rfl | (simp; done) | (simp [*]; done)), H', ⟨Nat.le_refl _⟩, ⟨by repeat (first | (with_reducible first | exact HB.out | apply below_alloc | apply pw_below_drewN | apply below_drew1) | exact HB.out)⟩⟩
    case round =>
      clear H'
      try clear c1
      try clear p2
      try clear c3
      try clear c3b0
      try clear c3b1
      try clear c3b2
      obtain ⟨x5_1, rfl, HA, HK1, HB⟩ := hrel
      cases gk with
      | zero => exact absurd HA.out (by simp [laws_eqSightS.l0])
      | succ k1 =>
        have H := HA.out
        clear HA
        simp only [laws_eqSightS.l0] at H
        by_cases c4 : x5_1 < (l0.length : Int)
        · rw [if_pos c4] at H
          have c4b0 : decide (x5_1 < (l0.length : Int)) = true := decide_eq_true c4
          clear c4
          by_cases c5 : 0 ≤ x5_1
          · rw [if_pos c5] at H
            have c5b0 : decide (0 ≤ x5_1) = true := decide_eq_true c5
            clear c5
            by_cases c6 : x5_1 < (l1.length : Int)
            · rw [if_pos c6] at H
              have c6b0 : decide (x5_1 < (l1.length : Int)) = true := decide_eq_true c6
              clear c6
              replace H := Option.bind_eq_some_iff.mp H
              obtain ⟨t207, A70, H⟩ := H
              replace H : (if t207 = true then (laws_eqSightS.l0 k1 l0 l1 (wrap64 (x5_1 + 1))) else (some false)) = some r := H
              have A7 := Aside0.mk A70
              clear A70
              by_cases c8 : t207 = true
              · subst c8
                have H1 : (laws_eqSightS.l0 k1 l0 l1 (wrap64 (x5_1 + 1))) = some r := by rw [if_pos rfl] at H; exact H
                clear H
                have H := H1
                clear H1
                have H' := Aside0.mk H
                clear H
                try go_wp2
                have n0_ := Aside0.mk (below_drew1 HB.out)
                clear HB
                have HB := n0_
                clear n0_
                have p205 : 0 ≤ (x5_1 : Int) := of_decide_eq_true (by first | (with_reducible assumption) | assumption)
                have q205 : x5_1 < (l0.length : Int) := of_decide_eq_true (by first | (with_reducible assumption) | assumption)
                obtain ⟨ad205, e205, hx205_0, hx205_1, hx205_2, hx205_3⟩ := at_T64 HR0.out x5_1 p205 q205
                have hw205_3 := hx205_3
                have hw205_2 := hx205_2
                have hw205_1 := hx205_1
                have hw205_0 := hx205_0
                cases e205
                replace hx205_0 := (HB.out.cell (World.block_lt_of_cell? w _ hx205_0)).trans hx205_0
                replace hx205_1 := (HB.out.cell (World.block_lt_of_cell? w _ hx205_1)).trans hx205_1
                replace hx205_2 := (HB.out.cell (World.block_lt_of_cell? w _ hx205_2)).trans hx205_2
                replace hx205_3 := (HB.out.cell (World.block_lt_of_cell? w _ hx205_3)).trans hx205_3
                replace p205 := eq_true p205
                replace q205 := eq_true q205
                have p206 : 0 ≤ (x5_1 : Int) := of_decide_eq_true (by first | (with_reducible assumption) | assumption)
                have q206 : x5_1 < (l1.length : Int) := of_decide_eq_true (by first | (with_reducible assumption) | assumption)
                obtain ⟨ad206, e206, hx206_0, hx206_1, hx206_2, hx206_3⟩ := at_T64 HR1.out x5_1 p206 q206
                have hw206_3 := hx206_3
                have hw206_2 := hx206_2
                have hw206_1 := hx206_1
                have hw206_0 := hx206_0
                cases e206
                replace hx206_0 := (HB.out.cell (World.block_lt_of_cell? w _ hx206_0)).trans hx206_0
                replace hx206_1 := (HB.out.cell (World.block_lt_of_cell? w _ hx206_1)).trans hx206_1
                replace hx206_2 := (HB.out.cell (World.block_lt_of_cell? w _ hx206_2)).trans hx206_2
                replace hx206_3 := (HB.out.cell (World.block_lt_of_cell? w _ hx206_3)).trans hx206_3
                replace p206 := eq_true p206
                replace q206 := eq_true q206
                refine start_ (n := 10) (S := fun w' => w'.cell? (ad205.add ((x5_1).toNat * 4)) = some (.int .i64 ((rd_T64 l0 x5_1).f0)) ∧ w'.cell? ⟨(ad205.add ((x5_1).toNat * 4)).block, (ad205.add ((x5_1).toNat * 4)).off + 1, none⟩ = some (.int .i64 ((rd_T64 l0 x5_1).f1)) ∧ w'.cell? ⟨(ad205.add ((x5_1).toNat * 4)).block, (ad205.add ((x5_1).toNat * 4)).off + 2, none⟩ = some (.int .i64 ((rd_T64 l0 x5_1).f2)) ∧ w'.cell? ⟨(ad205.add ((x5_1).toNat * 4)).block, (ad205.add ((x5_1).toNat * 4)).off + 3, none⟩ = some (.int .i64 ((rd_T64 l0 x5_1).f3)) ∧ w'.cell? (ad206.add ((x5_1).toNat * 4)) = some (.int .i64 ((rd_T64 l1 x5_1).f0)) ∧ w'.cell? ⟨(ad206.add ((x5_1).toNat * 4)).block, (ad206.add ((x5_1).toNat * 4)).off + 1, none⟩ = some (.int .i64 ((rd_T64 l1 x5_1).f1)) ∧ w'.cell? ⟨(ad206.add ((x5_1).toNat * 4)).block, (ad206.add ((x5_1).toNat * 4)).off + 2, none⟩ = some (.int .i64 ((rd_T64 l1 x5_1).f2)) ∧ w'.cell? ⟨(ad206.add ((x5_1).toNat * 4)).block, (ad206.add ((x5_1).toNat * 4)).off + 3, none⟩ = some (.int .i64 ((rd_T64 l1 x5_1).f3))) (ds := []) #[false, false, false, false, false, false, false, false, false, false] (by kernel_rfl) rfl rfl ⟨((HB.out.cell (World.block_lt_of_cell? w _ hw205_0)).trans hw205_0), ((HB.out.cell (World.block_lt_of_cell? w _ hw205_1)).trans hw205_1), ((HB.out.cell (World.block_lt_of_cell? w _ hw205_2)).trans hw205_2), ((HB.out.cell (World.block_lt_of_cell? w _ hw205_3)).trans hw205_3), ((HB.out.cell (World.block_lt_of_cell? w _ hw206_0)).trans hw206_0), ((HB.out.cell (World.block_lt_of_cell? w _ hw206_1)).trans hw206_1), ((HB.out.cell (World.block_lt_of_cell? w _ hw206_2)).trans hw206_2), ((HB.out.cell (World.block_lt_of_cell? w _ hw206_3)).trans hw206_3)⟩ (fun hHeld => ?_); refine with_tabW laws_eqSightS.tab6 laws_eqSightS.bits6 (fun HT_ HW_ => ?_)
                generalize wr.drew = w9 at HB hx205_0 hx205_1 hx205_2 hx205_3 hx206_0 hx206_1 hx206_2 hx206_3 hHeld ⊢
                refine pure_ (i := 0) (N := some 17) (v := ?_) (a' := ?_) #[true, false, false, false, false, false, false, false, false, false] rfl rfl (any_of HT_.out (by kernel_rfl)) (fun _ _ _ h => h) (Or.inl ⟨by rfl, ?_⟩) ?_ ?_
                rotate_left
                · intro w'
                  go_simp
                  with_reducible rfl
                rotate_left
                · simp only [Act.put, List.setIfInBounds_toArray, List.set_cons_zero, List.set_cons_succ, i64_w, i32_w]
                  rfl
                refine pure_ (i := 1) (N := some 18) (v := ?_) (a' := ?_) #[true, true, false, false, false, false, false, false, false, false] rfl rfl (any_of HT_.out (by kernel_rfl)) (fun _ _ _ h => h) (Or.inl ⟨by rfl, ?_⟩) ?_ ?_
                rotate_left
                · intro w'
                  go_simp
                  with_reducible rfl
                rotate_left
                · simp only [Act.put, List.setIfInBounds_toArray, List.set_cons_zero, List.set_cons_succ, i64_w, i32_w]
                  rfl
                refine pure_ (i := 2) (N := some 19) (v := ?_) (a' := ?_) #[true, true, true, false, false, false, false, false, false, false] rfl rfl (any_of HT_.out (by kernel_rfl)) (fun _ _ _ h => h) (Or.inl ⟨by rfl, ?_⟩) ?_ ?_
                rotate_left
                · intro w'
                  go_simp
                  with_reducible rfl
                rotate_left
                · simp only [Act.put, List.setIfInBounds_toArray, List.set_cons_zero, List.set_cons_succ, i64_w, i32_w]
                  rfl
                refine pure_ (i := 4) (N := some 21) (v := ?_) (a' := ?_) #[true, true, true, false, true, false, false, false, false, false] rfl rfl (any_of HT_.out (by kernel_rfl)) (fun _ _ _ h => h) (Or.inl ⟨by rfl, ?_⟩) ?_ ?_
                rotate_left
                · intro w'
                  go_simp
                  with_reducible rfl
                rotate_left
                · simp only [Act.put, List.setIfInBounds_toArray, List.set_cons_zero, List.set_cons_succ, i64_w, i32_w]
                  rfl
                refine pure_ (i := 5) (N := some 22) (v := ?_) (a' := ?_) #[true, true, true, false, true, true, false, false, false, false] rfl rfl (any_of HT_.out (by kernel_rfl)) (fun _ _ _ h => h) (Or.inl ⟨by rfl, ?_⟩) ?_ ?_
                rotate_left
                · intro w'
                  go_simp
                  with_reducible rfl
                rotate_left
                · simp only [Act.put, List.setIfInBounds_toArray, List.set_cons_zero, List.set_cons_succ, i64_w, i32_w]
                  rfl
                refine pure_ (i := 6) (N := some 23) (v := ?_) (a' := ?_) #[true, true, true, false, true, true, true, false, false, false] rfl rfl (any_of HT_.out (by kernel_rfl)) (fun _ _ _ h => h) (Or.inl ⟨by rfl, ?_⟩) ?_ ?_
                rotate_left
                · intro w'
                  go_simp
                  with_reducible rfl
                rotate_left
                · simp only [Act.put, List.setIfInBounds_toArray, List.set_cons_zero, List.set_cons_succ, i64_w, i32_w]
                  rfl
                refine take_ (i := 3) (N := some 20) (v := ?_) (a' := ?_) #[true, true, true, true, true, true, true, false, false, false] rfl rfl (take_ofW HT_.out HW_.out (by kernel_rfl)) (fun _ _ _ h => h) (Or.inl ⟨by rfl, ?_⟩) hHeld ?_ ?_
                rotate_left
                · rintro w' ⟨s0, s1, s2, s3, s4, s5, s6, s7⟩
                  go_simp
                  with_reducible rfl
                rotate_left
                · simp only [Act.put, List.setIfInBounds_toArray, List.set_cons_zero, List.set_cons_succ, i64_w, i32_w]
                  rfl
                refine take_ (i := 7) (N := some 24) (v := ?_) (a' := ?_) #[true, true, true, true, true, true, true, true, false, false] rfl rfl (take_ofW HT_.out HW_.out (by kernel_rfl)) (fun _ _ _ h => h) (Or.inl ⟨by rfl, ?_⟩) hHeld ?_ ?_
                rotate_left
                · rintro w' ⟨s0, s1, s2, s3, s4, s5, s6, s7⟩
                  go_simp
                  with_reducible rfl
                rotate_left
                · simp only [Act.put, List.setIfInBounds_toArray, List.set_cons_zero, List.set_cons_succ, i64_w, i32_w]
                  rfl
                refine one_ (i := 8) (N := some 25) #[true, true, true, true, true, true, true, true, true, false] rfl rfl (one_of HT_.out (by kernel_rfl)) (by decide) (fun K hK => ?_)
                refine goes_ Try.func63 (by kernel_rfl) rfl #[.agg #[.int .i64 ((rd_T64 l0 x5_1).f0), .int .i64 ((rd_T64 l0 x5_1).f1), .int .i64 ((rd_T64 l0 x5_1).f2), .int .i64 ((rd_T64 l0 x5_1).f3)], .agg #[.int .i64 ((rd_T64 l1 x5_1).f0), .int .i64 ((rd_T64 l1 x5_1).f1), .int .i64 ((rd_T64 l1 x5_1).f2), .int .i64 ((rd_T64 l1 x5_1).f3)]] (by rfl) rfl rfl (by (try simp only [List.map_toArray, List.map_cons, List.map_nil]); first | done | rfl | (simp only [List.length_drop, List.length_take]; rfl)) ?_
                with_reducible refine (laws_eqSight.calls ((rd_T64 l0 x5_1).f0) ((rd_T64 l0 x5_1).f1) ((rd_T64 l0 x5_1).f2) ((rd_T64 l0 x5_1).f3) ((rd_T64 l1 x5_1).f0) ((rd_T64 l1 x5_1).f1) ((rd_T64 l1 x5_1).f2) ((rd_T64 l1 x5_1).f3) true _ A7.out).mono ?_
                rintro e w10 ⟨rfl, hb⟩
                refine ⟨_, rfl, ?_⟩
                have n0_ := Aside0.mk (below_step (by repeat (first | (with_reducible first | exact HB.out | apply below_alloc | apply pw_below_drewN | apply below_drew1) | exact HB.out)) hb)
                clear HB
                have HB := n0_
                clear n0_
                (try clear hb)
                (try clear hb2)
                (try clear hk)
                (try clear hi)
                refine hK.out _ _ ⟨((HB.out.cell (World.block_lt_of_cell? w _ hw205_0)).trans hw205_0), ((HB.out.cell (World.block_lt_of_cell? w _ hw205_1)).trans hw205_1), ((HB.out.cell (World.block_lt_of_cell? w _ hw205_2)).trans hw205_2), ((HB.out.cell (World.block_lt_of_cell? w _ hw205_3)).trans hw205_3), ((HB.out.cell (World.block_lt_of_cell? w _ hw206_0)).trans hw206_0), ((HB.out.cell (World.block_lt_of_cell? w _ hw206_1)).trans hw206_1), ((HB.out.cell (World.block_lt_of_cell? w _ hw206_2)).trans hw206_2), ((HB.out.cell (World.block_lt_of_cell? w _ hw206_3)).trans hw206_3)⟩ (fun hHeld => ?_)
                clear hK K
                refine norm_ (a' := ?_) ?_ ?_
                rotate_left
                · show Act.put _ (some 25) _ = _
                  simp only [Act.put, List.setIfInBounds_toArray, List.set_cons_zero, List.set_cons_succ, i64_w, i32_w]
                  rfl
                refine pure_ (i := 9) (N := some 26) (v := ?_) (a' := ?_) #[true, true, true, true, true, true, true, true, true, true] rfl rfl (any_of HT_.out (by kernel_rfl)) (fun _ _ _ h => h) (Or.inl ⟨by rfl, ?_⟩) ?_ ?_
                rotate_left
                · intro w'
                  go_simp
                  with_reducible rfl
                rotate_left
                · simp only [Act.put, List.setIfInBounds_toArray, List.set_cons_zero, List.set_cons_succ, i64_w, i32_w]
                  rfl
                refine done_ (done_of HT_.out (by kernel_rfl)) ?_
                try go_wp2
                go_roundg k1
                case measure => have := HK1.out; omega
                case rel => exact ⟨(wrap64 (x5_1 + 1)), (by first | rfl | (simp; done) | (simp [*]; done)), H', ⟨by have := HK1.out; omega⟩, ⟨by repeat (first | (with_reducible first | exact HB.out | apply below_alloc | apply pw_below_drewN | apply below_drew1) | exact HB.out)⟩⟩
              · replace c8 := Bool.eq_false_iff.mpr c8
                subst c8
                have H1 : (some false) = some r := by rw [if_neg (show ¬ (false = true) by decide)] at H; exact H
                clear H
                have H := H1
                clear H1
                obtain rfl := Option.some.inj H
                try go_wp2
                have n0_ := Aside0.mk (below_drew1 HB.out)
                clear HB
                have HB := n0_
                clear n0_
                have p205 : 0 ≤ (x5_1 : Int) := of_decide_eq_true (by first | (with_reducible assumption) | assumption)
                have q205 : x5_1 < (l0.length : Int) := of_decide_eq_true (by first | (with_reducible assumption) | assumption)
                obtain ⟨ad205, e205, hx205_0, hx205_1, hx205_2, hx205_3⟩ := at_T64 HR0.out x5_1 p205 q205
                have hw205_3 := hx205_3
                have hw205_2 := hx205_2
                have hw205_1 := hx205_1
                have hw205_0 := hx205_0
                cases e205
                replace hx205_0 := (HB.out.cell (World.block_lt_of_cell? w _ hx205_0)).trans hx205_0
                replace hx205_1 := (HB.out.cell (World.block_lt_of_cell? w _ hx205_1)).trans hx205_1
                replace hx205_2 := (HB.out.cell (World.block_lt_of_cell? w _ hx205_2)).trans hx205_2
                replace hx205_3 := (HB.out.cell (World.block_lt_of_cell? w _ hx205_3)).trans hx205_3
                replace p205 := eq_true p205
                replace q205 := eq_true q205
                have p206 : 0 ≤ (x5_1 : Int) := of_decide_eq_true (by first | (with_reducible assumption) | assumption)
                have q206 : x5_1 < (l1.length : Int) := of_decide_eq_true (by first | (with_reducible assumption) | assumption)
                obtain ⟨ad206, e206, hx206_0, hx206_1, hx206_2, hx206_3⟩ := at_T64 HR1.out x5_1 p206 q206
                have hw206_3 := hx206_3
                have hw206_2 := hx206_2
                have hw206_1 := hx206_1
                have hw206_0 := hx206_0
                cases e206
                replace hx206_0 := (HB.out.cell (World.block_lt_of_cell? w _ hx206_0)).trans hx206_0
                replace hx206_1 := (HB.out.cell (World.block_lt_of_cell? w _ hx206_1)).trans hx206_1
                replace hx206_2 := (HB.out.cell (World.block_lt_of_cell? w _ hx206_2)).trans hx206_2
                replace hx206_3 := (HB.out.cell (World.block_lt_of_cell? w _ hx206_3)).trans hx206_3
                replace p206 := eq_true p206
                replace q206 := eq_true q206
                refine start_ (n := 10) (S := fun w' => w'.cell? (ad205.add ((x5_1).toNat * 4)) = some (.int .i64 ((rd_T64 l0 x5_1).f0)) ∧ w'.cell? ⟨(ad205.add ((x5_1).toNat * 4)).block, (ad205.add ((x5_1).toNat * 4)).off + 1, none⟩ = some (.int .i64 ((rd_T64 l0 x5_1).f1)) ∧ w'.cell? ⟨(ad205.add ((x5_1).toNat * 4)).block, (ad205.add ((x5_1).toNat * 4)).off + 2, none⟩ = some (.int .i64 ((rd_T64 l0 x5_1).f2)) ∧ w'.cell? ⟨(ad205.add ((x5_1).toNat * 4)).block, (ad205.add ((x5_1).toNat * 4)).off + 3, none⟩ = some (.int .i64 ((rd_T64 l0 x5_1).f3)) ∧ w'.cell? (ad206.add ((x5_1).toNat * 4)) = some (.int .i64 ((rd_T64 l1 x5_1).f0)) ∧ w'.cell? ⟨(ad206.add ((x5_1).toNat * 4)).block, (ad206.add ((x5_1).toNat * 4)).off + 1, none⟩ = some (.int .i64 ((rd_T64 l1 x5_1).f1)) ∧ w'.cell? ⟨(ad206.add ((x5_1).toNat * 4)).block, (ad206.add ((x5_1).toNat * 4)).off + 2, none⟩ = some (.int .i64 ((rd_T64 l1 x5_1).f2)) ∧ w'.cell? ⟨(ad206.add ((x5_1).toNat * 4)).block, (ad206.add ((x5_1).toNat * 4)).off + 3, none⟩ = some (.int .i64 ((rd_T64 l1 x5_1).f3))) (ds := []) #[false, false, false, false, false, false, false, false, false, false] (by kernel_rfl) rfl rfl ⟨((HB.out.cell (World.block_lt_of_cell? w _ hw205_0)).trans hw205_0), ((HB.out.cell (World.block_lt_of_cell? w _ hw205_1)).trans hw205_1), ((HB.out.cell (World.block_lt_of_cell? w _ hw205_2)).trans hw205_2), ((HB.out.cell (World.block_lt_of_cell? w _ hw205_3)).trans hw205_3), ((HB.out.cell (World.block_lt_of_cell? w _ hw206_0)).trans hw206_0), ((HB.out.cell (World.block_lt_of_cell? w _ hw206_1)).trans hw206_1), ((HB.out.cell (World.block_lt_of_cell? w _ hw206_2)).trans hw206_2), ((HB.out.cell (World.block_lt_of_cell? w _ hw206_3)).trans hw206_3)⟩ (fun hHeld => ?_); refine with_tabW laws_eqSightS.tab6 laws_eqSightS.bits6 (fun HT_ HW_ => ?_)
                generalize wr.drew = w11 at HB hx205_0 hx205_1 hx205_2 hx205_3 hx206_0 hx206_1 hx206_2 hx206_3 hHeld ⊢
                refine pure_ (i := 0) (N := some 17) (v := ?_) (a' := ?_) #[true, false, false, false, false, false, false, false, false, false] rfl rfl (any_of HT_.out (by kernel_rfl)) (fun _ _ _ h => h) (Or.inl ⟨by rfl, ?_⟩) ?_ ?_
                rotate_left
                · intro w'
                  go_simp
                  with_reducible rfl
                rotate_left
                · simp only [Act.put, List.setIfInBounds_toArray, List.set_cons_zero, List.set_cons_succ, i64_w, i32_w]
                  rfl
                refine pure_ (i := 1) (N := some 18) (v := ?_) (a' := ?_) #[true, true, false, false, false, false, false, false, false, false] rfl rfl (any_of HT_.out (by kernel_rfl)) (fun _ _ _ h => h) (Or.inl ⟨by rfl, ?_⟩) ?_ ?_
                rotate_left
                · intro w'
                  go_simp
                  with_reducible rfl
                rotate_left
                · simp only [Act.put, List.setIfInBounds_toArray, List.set_cons_zero, List.set_cons_succ, i64_w, i32_w]
                  rfl
                refine pure_ (i := 2) (N := some 19) (v := ?_) (a' := ?_) #[true, true, true, false, false, false, false, false, false, false] rfl rfl (any_of HT_.out (by kernel_rfl)) (fun _ _ _ h => h) (Or.inl ⟨by rfl, ?_⟩) ?_ ?_
                rotate_left
                · intro w'
                  go_simp
                  with_reducible rfl
                rotate_left
                · simp only [Act.put, List.setIfInBounds_toArray, List.set_cons_zero, List.set_cons_succ, i64_w, i32_w]
                  rfl
                refine pure_ (i := 4) (N := some 21) (v := ?_) (a' := ?_) #[true, true, true, false, true, false, false, false, false, false] rfl rfl (any_of HT_.out (by kernel_rfl)) (fun _ _ _ h => h) (Or.inl ⟨by rfl, ?_⟩) ?_ ?_
                rotate_left
                · intro w'
                  go_simp
                  with_reducible rfl
                rotate_left
                · simp only [Act.put, List.setIfInBounds_toArray, List.set_cons_zero, List.set_cons_succ, i64_w, i32_w]
                  rfl
                refine pure_ (i := 5) (N := some 22) (v := ?_) (a' := ?_) #[true, true, true, false, true, true, false, false, false, false] rfl rfl (any_of HT_.out (by kernel_rfl)) (fun _ _ _ h => h) (Or.inl ⟨by rfl, ?_⟩) ?_ ?_
                rotate_left
                · intro w'
                  go_simp
                  with_reducible rfl
                rotate_left
                · simp only [Act.put, List.setIfInBounds_toArray, List.set_cons_zero, List.set_cons_succ, i64_w, i32_w]
                  rfl
                refine pure_ (i := 6) (N := some 23) (v := ?_) (a' := ?_) #[true, true, true, false, true, true, true, false, false, false] rfl rfl (any_of HT_.out (by kernel_rfl)) (fun _ _ _ h => h) (Or.inl ⟨by rfl, ?_⟩) ?_ ?_
                rotate_left
                · intro w'
                  go_simp
                  with_reducible rfl
                rotate_left
                · simp only [Act.put, List.setIfInBounds_toArray, List.set_cons_zero, List.set_cons_succ, i64_w, i32_w]
                  rfl
                refine take_ (i := 3) (N := some 20) (v := ?_) (a' := ?_) #[true, true, true, true, true, true, true, false, false, false] rfl rfl (take_ofW HT_.out HW_.out (by kernel_rfl)) (fun _ _ _ h => h) (Or.inl ⟨by rfl, ?_⟩) hHeld ?_ ?_
                rotate_left
                · rintro w' ⟨s0, s1, s2, s3, s4, s5, s6, s7⟩
                  go_simp
                  with_reducible rfl
                rotate_left
                · simp only [Act.put, List.setIfInBounds_toArray, List.set_cons_zero, List.set_cons_succ, i64_w, i32_w]
                  rfl
                refine take_ (i := 7) (N := some 24) (v := ?_) (a' := ?_) #[true, true, true, true, true, true, true, true, false, false] rfl rfl (take_ofW HT_.out HW_.out (by kernel_rfl)) (fun _ _ _ h => h) (Or.inl ⟨by rfl, ?_⟩) hHeld ?_ ?_
                rotate_left
                · rintro w' ⟨s0, s1, s2, s3, s4, s5, s6, s7⟩
                  go_simp
                  with_reducible rfl
                rotate_left
                · simp only [Act.put, List.setIfInBounds_toArray, List.set_cons_zero, List.set_cons_succ, i64_w, i32_w]
                  rfl
                refine one_ (i := 8) (N := some 25) #[true, true, true, true, true, true, true, true, true, false] rfl rfl (one_of HT_.out (by kernel_rfl)) (by decide) (fun K hK => ?_)
                refine goes_ Try.func63 (by kernel_rfl) rfl #[.agg #[.int .i64 ((rd_T64 l0 x5_1).f0), .int .i64 ((rd_T64 l0 x5_1).f1), .int .i64 ((rd_T64 l0 x5_1).f2), .int .i64 ((rd_T64 l0 x5_1).f3)], .agg #[.int .i64 ((rd_T64 l1 x5_1).f0), .int .i64 ((rd_T64 l1 x5_1).f1), .int .i64 ((rd_T64 l1 x5_1).f2), .int .i64 ((rd_T64 l1 x5_1).f3)]] (by rfl) rfl rfl (by (try simp only [List.map_toArray, List.map_cons, List.map_nil]); first | done | rfl | (simp only [List.length_drop, List.length_take]; rfl)) ?_
                with_reducible refine (laws_eqSight.calls ((rd_T64 l0 x5_1).f0) ((rd_T64 l0 x5_1).f1) ((rd_T64 l0 x5_1).f2) ((rd_T64 l0 x5_1).f3) ((rd_T64 l1 x5_1).f0) ((rd_T64 l1 x5_1).f1) ((rd_T64 l1 x5_1).f2) ((rd_T64 l1 x5_1).f3) false _ A7.out).mono ?_
                rintro e w12 ⟨rfl, hb⟩
                refine ⟨_, rfl, ?_⟩
                have n0_ := Aside0.mk (below_step (by repeat (first | (with_reducible first | exact HB.out | apply below_alloc | apply pw_below_drewN | apply below_drew1) | exact HB.out)) hb)
                clear HB
                have HB := n0_
                clear n0_
                (try clear hb)
                (try clear hb2)
                (try clear hk)
                (try clear hi)
                refine hK.out _ _ ⟨((HB.out.cell (World.block_lt_of_cell? w _ hw205_0)).trans hw205_0), ((HB.out.cell (World.block_lt_of_cell? w _ hw205_1)).trans hw205_1), ((HB.out.cell (World.block_lt_of_cell? w _ hw205_2)).trans hw205_2), ((HB.out.cell (World.block_lt_of_cell? w _ hw205_3)).trans hw205_3), ((HB.out.cell (World.block_lt_of_cell? w _ hw206_0)).trans hw206_0), ((HB.out.cell (World.block_lt_of_cell? w _ hw206_1)).trans hw206_1), ((HB.out.cell (World.block_lt_of_cell? w _ hw206_2)).trans hw206_2), ((HB.out.cell (World.block_lt_of_cell? w _ hw206_3)).trans hw206_3)⟩ (fun hHeld => ?_)
                clear hK K
                refine norm_ (a' := ?_) ?_ ?_
                rotate_left
                · show Act.put _ (some 25) _ = _
                  simp only [Act.put, List.setIfInBounds_toArray, List.set_cons_zero, List.set_cons_succ, i64_w, i32_w]
                  rfl
                refine pure_ (i := 9) (N := some 26) (v := ?_) (a' := ?_) #[true, true, true, true, true, true, true, true, true, true] rfl rfl (any_of HT_.out (by kernel_rfl)) (fun _ _ _ h => h) (Or.inl ⟨by rfl, ?_⟩) ?_ ?_
                rotate_left
                · intro w'
                  go_simp
                  with_reducible rfl
                rotate_left
                · simp only [Act.put, List.setIfInBounds_toArray, List.set_cons_zero, List.set_cons_succ, i64_w, i32_w]
                  rfl
                refine done_ (done_of HT_.out (by kernel_rfl)) ?_
                try go_wp2
                go_ret
                exact ⟨by first | rfl | (simp [errW_none, errW_some] <;> rfl) | (simp [*, errW_none, errW_some] <;> rfl), by repeat (first | (with_reducible first | exact HB.out | apply below_alloc | apply pw_below_drewN | apply below_drew1) | exact HB.out)⟩
            · rw [if_neg c6] at H
              exact absurd H (by simp)
          · rw [if_neg c5] at H
            exact absurd H (by simp)
        · rw [if_neg c4] at H
          have c4b0 : decide (x5_1 < (l0.length : Int)) = false := decide_eq_false c4
          clear c4
          obtain rfl := Option.some.inj H
          go_wp2
          go_ret
          exact ⟨by first | rfl | (simp [errW_none, errW_some] <;> rfl) | (simp [*, errW_none, errW_some] <;> rfl), by repeat (first | (with_reducible first | exact HB.out | apply below_alloc | apply pw_below_drewN | apply below_drew1) | exact HB.out)⟩
  · rw [if_neg c3] at H
    have c3b0 : ((l0.length : Int) == (l1.length : Int)) = false := beq_eq_false_iff_ne.mpr c3
    have c3b1 : ((l0.length : Int) != (l1.length : Int)) = true := bne_iff_ne.mpr c3
    have c3b2 : (l0.length == l1.length) = false := by first | simpa using c3 | (simp at c3 ⊢; omega)
    obtain rfl := Option.some.inj H
    go_enter Try.func45, Try.ntmps45
    go_wp2
    go_ret
    exact ⟨by first | rfl | (simp [errW_none, errW_some] <;> rfl) | (simp [*, errW_none, errW_some] <;> rfl), by repeat (first | (with_reducible first | exact HB.out | apply below_alloc | apply pw_below_drewN | apply below_drew1) | exact HB.out)⟩

end Go.Proofs.Ytkkiagoacbhhjaa.Q

-- made by a patched copy of print.sh: this session's own
namespace Go.Proofs.Ytkkiagoacbhhjaa.Q
open Go.RowKit Go.Proofs.YtkkiagoacbhhjaaW.PrintWords Go.Proofs.YtkkiagoacbhhjaaW.PrintLast Go.Proofs.YtkkiagoacbhhjaaW.PrintMore
attribute [local go_sem] max2_int min2_int max_two min_two max_three min_three max_four min_four   -- for this text's walks alone
set_option linter.unusedVariables false
set_option linter.unusedSimpArgs false

/-! ### laws_eqSurvey: function 18 -/
def laws_eqSurvey.f (k : Nat) (a0_0 : Int) (l0_1 : List (S64)) (a1_0 : Int) (l1_1 : List (S64)) : Option (Bool) := if a0_0 = a1_0 then ((laws_eqSightS.f k l0_1 l1_1).bind fun t210 => (if t210 = true then (some true) else (some false))) else (some false)
theorem laws_eqSurvey.mono : ∀ a0 a1 a2 a3 k, LeO (laws_eqSurvey.f k a0 a1 a2 a3) (laws_eqSurvey.f (k + 1) a0 a1 a2 a3) := by
  intro a0 a1 a2 a3 k
  unfold laws_eqSurvey.f
  repeat' first
      | (with_reducible exact laws_eqSightS.mono _ _ _)
      | (with_reducible exact LeO.refl _)
      | (with_reducible exact LeO.none _)
      | (with_reducible refine LeO.ite ?_ ?_)
      | (with_reducible refine LeO.bind ?_ (fun _ => ?_))
      | exact laws_eqSightS.mono _ _ _
      | exact LeO.none _
      | refine LeO.ite ?_ ?_
      | refine LeO.bind ?_ (fun _ => ?_)
set_option maxHeartbeats 8000000 in
set_option maxRecDepth 100000 in
theorem laws_eqSurvey.calls (k : Nat) (a0_0 : Int) (A0_1 : Option Addr) (c0_1 : Nat) (l0_1 : List (S64)) (a1_0 : Int) (A1_1 : Option Addr) (c1_1 : Nat) (l1_1 : List (S64)) (r : Bool) (w : World) (hr0_1 : Kd.C k64 w A0_1 l0_1.length l0_1) (hc0_1 : l0_1.length ≤ c0_1) (hr1_1 : Kd.C k64 w A1_1 l1_1.length l1_1) (hc1_1 : l1_1.length ≤ c1_1) (h : laws_eqSurvey.f k a0_0 l0_1 a1_0 l1_1 = some r) :
    Calls Try.prog 18 #[.agg #[.int .i64 a0_0, .slice A0_1 l0_1.length c0_1], .agg #[.int .i64 a1_0, .slice A1_1 l1_1.length c1_1]] w fun e w' => e = .returned (.bool r) ∧ Below w.heap.size w w' := by
  have hu39 := Try.underlying39
  have HR0_1 := Aside0.mk hr0_1
  have HC0_1 := Aside0.mk hc0_1
  clear hr0_1 hc0_1
  have HR1_1 := Aside0.mk hr1_1
  have HC1_1 := Aside0.mk hc1_1
  clear hr1_1 hc1_1
  have HB := Aside0.mk (Below.refl w.heap.size w)
  have H : (if a0_0 = a1_0 then ((laws_eqSightS.f k l0_1 l1_1).bind fun t210 => (if t210 = true then (some true) else (some false))) else (some false)) = some r := h
  clear h
  by_cases c3 : a0_0 = a1_0
  · rw [if_pos c3] at H
    have c3b0 : (a0_0 == a1_0) = true := beq_iff_eq.mpr c3
    have c3b1 : (a0_0 != a1_0) = false := bne_eq_false_iff_eq.mpr c3
    clear c3
    replace H := Option.bind_eq_some_iff.mp H
    obtain ⟨t210, A40, H⟩ := H
    replace H : (if t210 = true then (some true) else (some false)) = some r := H
    have A4 := Aside0.mk A40
    clear A40
    by_cases c5 : t210 = true
    · subst c5
      have H1 : (some true) = some r := by rw [if_pos rfl] at H; exact H
      clear H
      have H := H1
      clear H1
      obtain rfl := Option.some.inj H
      go_enter Try.func18, Try.ntmps18
      go_wp2_with (first | ((with_reducible refine gate_dst (N := 2) rfl ?_); refine box_event ?hg (N := 2) ?hd (cs := #[.int .i64 a0_0, .slice A0_1 l0_1.length c0_1]) (t := 39) ?hr ?_; (case hd => rfl); (case hg => rfl); (case hr => first | (go_simp; done) | (go_simp; rfl)); intro gb208 hg w6 hbox hb; have n0_ := Aside0.mk (below_step (by repeat (first | (with_reducible first | exact HB.out | apply below_alloc | apply pw_below_drewN | apply below_drew1) | exact HB.out)) hb); have n1_ := Aside0.mk (hbox); have n2_ := Aside0.mk ((by rw [hg]; exact (below_size (by repeat (first | (with_reducible first | exact HB.out | apply below_alloc | apply pw_below_drewN | apply below_drew1) | exact HB.out))) : w.heap.size ≤ gb208)); have n3_ := Aside0.mk ((by rw [hg]; exact (below_size (by repeat (first | (with_reducible first | exact HB.out | apply below_alloc | apply pw_below_drewN | apply below_drew1) | exact HB.out))) : w.heap.size ≤ gb208)); clear HB; have HB := n0_; have BK208 := n1_; have GW208 := n2_; have GE208 := n3_; clear n0_ n1_ n2_ n3_; clear hb hbox hg) | ((with_reducible refine gate_dst (N := 3) rfl ?_); refine box_event ?hg (N := 3) ?hd (cs := #[.int .i64 a1_0, .slice A1_1 l1_1.length c1_1]) (t := 39) ?hr ?_; (case hd => rfl); (case hg => rfl); (case hr => first | (go_simp; done) | (go_simp; rfl)); intro gb209 hg w7 hbox hb; have n0_ := Aside0.mk (blk_below (g := gb208) (o := .cells #[.int .i64 a0_0, .slice A0_1 l0_1.length c0_1] 39 (0, 0)) (by (with_reducible repeat (first | refine blk_drewN ?_ _ | refine blk_drew ?_ | refine blk_alloc ?_ _)); exact BK208.out) hb); have n1_ := Aside0.mk (below_step (by repeat (first | (with_reducible first | exact HB.out | apply below_alloc | apply pw_below_drewN | apply below_drew1 | refine below_set ?_ GE208.out) | exact HB.out)) hb); have n2_ := Aside0.mk (hbox); have n3_ := Aside0.mk ((by rw [hg]; exact (below_size (by repeat (first | (with_reducible first | exact HB.out | apply below_alloc | apply pw_below_drewN | apply below_drew1 | refine below_set ?_ GE208.out) | exact HB.out))) : w.heap.size ≤ gb209)); have n4_ := Aside0.mk ((by rw [hg]; exact (below_size (by repeat (first | (with_reducible first | exact HB.out | apply below_alloc | apply pw_below_drewN | apply below_drew1 | refine below_set ?_ GE208.out) | exact HB.out))) : w.heap.size ≤ gb209)); have n5_ := Aside0.mk ((by rw [hg]; exact Nat.ne_of_lt (blk_lt (g := gb208) (o := .cells #[.int .i64 a0_0, .slice A0_1 l0_1.length c0_1] 39 (0, 0)) (by (with_reducible repeat (first | refine blk_drewN ?_ _ | refine blk_drew ?_ | refine blk_alloc ?_ _)); exact BK208.out)) : gb208 ≠ gb209)); have n6_ := Aside0.mk ((by rw [hg]; exact Nat.ne_of_gt (blk_lt (g := gb208) (o := .cells #[.int .i64 a0_0, .slice A0_1 l0_1.length c0_1] 39 (0, 0)) (by (with_reducible repeat (first | refine blk_drewN ?_ _ | refine blk_drew ?_ | refine blk_alloc ?_ _)); exact BK208.out)) : gb209 ≠ gb208)); clear BK208; clear HB; have BK208 := n0_; have HB := n1_; have BK209 := n2_; have GW209 := n3_; have GE209 := n4_; have NB208_209 := n5_; have NB209_208 := n6_; clear n0_ n1_ n2_ n3_ n4_ n5_ n6_; clear hb hbox hg; have hnb8 := NB208_209.out; have hnc8 := NB209_208.out; have hcz9_0 : w7.cell? ⟨gb208, 0, none⟩ = some (.int .i64 a0_0) := (blk_cell BK208.out 0).trans rfl; have hcz9_1 : w7.cell? ⟨gb208, 1, none⟩ = some (.slice A0_1 l0_1.length c0_1) := (blk_cell BK208.out 1).trans rfl; have hfz9_0 := blk_frozen BK208.out 0; have hfz9_1 := blk_frozen BK208.out 1; have hcz10_0 : w7.cell? ⟨gb209, 0, none⟩ = some (.int .i64 a1_0) := (blk_cell BK209.out 0).trans rfl; have hcz10_1 : w7.cell? ⟨gb209, 1, none⟩ = some (.slice A1_1 l1_1.length c1_1) := (blk_cell BK209.out 1).trans rfl; have hfz10_0 := blk_frozen BK209.out 0; have hfz10_1 := blk_frozen BK209.out 1) | ((with_reducible refine gate_callee (f := 45) rfl ?_); refine goesL_ (some 14) rfl rfl Try.func45 (by kernel_rfl) rfl #[.slice A0_1 l0_1.length c0_1, .slice A1_1 l1_1.length c1_1] rfl (by (try simp only [List.map_toArray, List.map_cons, List.map_nil]); first | done | rfl | (simp only [List.length_drop, List.length_take]; rfl)) ?_; (with_reducible refine (laws_eqSightS.calls k _ _ l0_1 _ _ l1_1 true _ ?side1 ?side2 ?side3 ?side4 A4.out).mono ?_); (case side1 => repeat (first | exact (Kd.C_below HR0_1.out HB.out) | (with_reducible refine Kd.C_alloc ?_ _) | (with_reducible refine Kd.C_drewN ?_ _) | (with_reducible refine Kd.C_drew ?_))); (case side2 => exact HC0_1.out); (case side3 => repeat (first | exact (Kd.C_below HR1_1.out HB.out) | (with_reducible refine Kd.C_alloc ?_ _) | (with_reducible refine Kd.C_drewN ?_ _) | (with_reducible refine Kd.C_drew ?_))); (case side4 => exact HC1_1.out); rintro e w11 ⟨rfl, hb⟩; refine ⟨_, rfl, ?_⟩; have n0_ := Aside0.mk (blk_below (g := gb208) (o := .cells #[.int .i64 a0_0, .slice A0_1 l0_1.length c0_1] 39 (0, 0)) (by (with_reducible repeat (first | refine blk_drewN ?_ _ | refine blk_drew ?_ | refine blk_alloc ?_ _)); exact BK208.out) hb); have n1_ := Aside0.mk (blk_below (g := gb209) (o := .cells #[.int .i64 a1_0, .slice A1_1 l1_1.length c1_1] 39 (0, 0)) (by (with_reducible repeat (first | refine blk_drewN ?_ _ | refine blk_drew ?_ | refine blk_alloc ?_ _)); exact BK209.out) hb); have n2_ := Aside0.mk (below_step (by repeat (first | (with_reducible first | exact HB.out | apply below_alloc | apply pw_below_drewN | apply below_drew1 | refine below_set ?_ GE208.out | refine below_set ?_ GE209.out) | exact HB.out)) hb); clear BK208; clear BK209; clear HB; have BK208 := n0_; have BK209 := n1_; have HB := n2_; clear n0_ n1_ n2_; (try clear hb); (try clear hb2); (try clear hk); (try clear hi)))
      go_ret
      exact ⟨by first | rfl | (simp [errW_none, errW_some] <;> rfl) | (simp [*, errW_none, errW_some] <;> rfl), by repeat (first | (with_reducible first | exact HB.out | apply below_alloc | apply pw_below_drewN | apply below_drew1 | refine below_set ?_ GE208.out | refine below_set ?_ GE209.out) | exact HB.out)⟩
    · replace c5 := Bool.eq_false_iff.mpr c5
      subst c5
      have H1 : (some false) = some r := by rw [if_neg (show ¬ (false = true) by decide)] at H; exact H
      clear H
      have H := H1
      clear H1
      obtain rfl := Option.some.inj H
      go_enter Try.func18, Try.ntmps18
      go_wp2_with (first | ((with_reducible refine gate_dst (N := 2) rfl ?_); refine box_event ?hg (N := 2) ?hd (cs := #[.int .i64 a0_0, .slice A0_1 l0_1.length c0_1]) (t := 39) ?hr ?_; (case hd => rfl); (case hg => rfl); (case hr => first | (go_simp; done) | (go_simp; rfl)); intro gb208 hg w12 hbox hb; have n0_ := Aside0.mk (below_step (by repeat (first | (with_reducible first | exact HB.out | apply below_alloc | apply pw_below_drewN | apply below_drew1) | exact HB.out)) hb); have n1_ := Aside0.mk (hbox); have n2_ := Aside0.mk ((by rw [hg]; exact (below_size (by repeat (first | (with_reducible first | exact HB.out | apply below_alloc | apply pw_below_drewN | apply below_drew1) | exact HB.out))) : w.heap.size ≤ gb208)); have n3_ := Aside0.mk ((by rw [hg]; exact (below_size (by repeat (first | (with_reducible first | exact HB.out | apply below_alloc | apply pw_below_drewN | apply below_drew1) | exact HB.out))) : w.heap.size ≤ gb208)); clear HB; have HB := n0_; have BK208 := n1_; have GW208 := n2_; have GE208 := n3_; clear n0_ n1_ n2_ n3_; clear hb hbox hg) | ((with_reducible refine gate_dst (N := 3) rfl ?_); refine box_event ?hg (N := 3) ?hd (cs := #[.int .i64 a1_0, .slice A1_1 l1_1.length c1_1]) (t := 39) ?hr ?_; (case hd => rfl); (case hg => rfl); (case hr => first | (go_simp; done) | (go_simp; rfl)); intro gb209 hg w13 hbox hb; have n0_ := Aside0.mk (blk_below (g := gb208) (o := .cells #[.int .i64 a0_0, .slice A0_1 l0_1.length c0_1] 39 (0, 0)) (by (with_reducible repeat (first | refine blk_drewN ?_ _ | refine blk_drew ?_ | refine blk_alloc ?_ _)); exact BK208.out) hb); have n1_ := Aside0.mk (below_step (by repeat (first | (with_reducible first | exact HB.out | apply below_alloc | apply pw_below_drewN | apply below_drew1 | refine below_set ?_ GE208.out) | exact HB.out)) hb); have n2_ := Aside0.mk (hbox); have n3_ := Aside0.mk ((by rw [hg]; exact (below_size (by repeat (first | (with_reducible first | exact HB.out | apply below_alloc | apply pw_below_drewN | apply below_drew1 | refine below_set ?_ GE208.out) | exact HB.out))) : w.heap.size ≤ gb209)); have n4_ := Aside0.mk ((by rw [hg]; exact (below_size (by repeat (first | (with_reducible first | exact HB.out | apply below_alloc | apply pw_below_drewN | apply below_drew1 | refine below_set ?_ GE208.out) | exact HB.out))) : w.heap.size ≤ gb209)); have n5_ := Aside0.mk ((by rw [hg]; exact Nat.ne_of_lt (blk_lt (g := gb208) (o := .cells #[.int .i64 a0_0, .slice A0_1 l0_1.length c0_1] 39 (0, 0)) (by (with_reducible repeat (first | refine blk_drewN ?_ _ | refine blk_drew ?_ | refine blk_alloc ?_ _)); exact BK208.out)) : gb208 ≠ gb209)); have n6_ := Aside0.mk ((by rw [hg]; exact Nat.ne_of_gt (blk_lt (g := gb208) (o := .cells #[.int .i64 a0_0, .slice A0_1 l0_1.length c0_1] 39 (0, 0)) (by (with_reducible repeat (first | refine blk_drewN ?_ _ | refine blk_drew ?_ | refine blk_alloc ?_ _)); exact BK208.out)) : gb209 ≠ gb208)); clear BK208; clear HB; have BK208 := n0_; have HB := n1_; have BK209 := n2_; have GW209 := n3_; have GE209 := n4_; have NB208_209 := n5_; have NB209_208 := n6_; clear n0_ n1_ n2_ n3_ n4_ n5_ n6_; clear hb hbox hg; have hnb14 := NB208_209.out; have hnc14 := NB209_208.out; have hcz15_0 : w13.cell? ⟨gb208, 0, none⟩ = some (.int .i64 a0_0) := (blk_cell BK208.out 0).trans rfl; have hcz15_1 : w13.cell? ⟨gb208, 1, none⟩ = some (.slice A0_1 l0_1.length c0_1) := (blk_cell BK208.out 1).trans rfl; have hfz15_0 := blk_frozen BK208.out 0; have hfz15_1 := blk_frozen BK208.out 1; have hcz16_0 : w13.cell? ⟨gb209, 0, none⟩ = some (.int .i64 a1_0) := (blk_cell BK209.out 0).trans rfl; have hcz16_1 : w13.cell? ⟨gb209, 1, none⟩ = some (.slice A1_1 l1_1.length c1_1) := (blk_cell BK209.out 1).trans rfl; have hfz16_0 := blk_frozen BK209.out 0; have hfz16_1 := blk_frozen BK209.out 1) | ((with_reducible refine gate_callee (f := 45) rfl ?_); refine goesL_ (some 14) rfl rfl Try.func45 (by kernel_rfl) rfl #[.slice A0_1 l0_1.length c0_1, .slice A1_1 l1_1.length c1_1] rfl (by (try simp only [List.map_toArray, List.map_cons, List.map_nil]); first | done | rfl | (simp only [List.length_drop, List.length_take]; rfl)) ?_; (with_reducible refine (laws_eqSightS.calls k _ _ l0_1 _ _ l1_1 false _ ?side1 ?side2 ?side3 ?side4 A4.out).mono ?_); (case side1 => repeat (first | exact (Kd.C_below HR0_1.out HB.out) | (with_reducible refine Kd.C_alloc ?_ _) | (with_reducible refine Kd.C_drewN ?_ _) | (with_reducible refine Kd.C_drew ?_))); (case side2 => exact HC0_1.out); (case side3 => repeat (first | exact (Kd.C_below HR1_1.out HB.out) | (with_reducible refine Kd.C_alloc ?_ _) | (with_reducible refine Kd.C_drewN ?_ _) | (with_reducible refine Kd.C_drew ?_))); (case side4 => exact HC1_1.out); rintro e w17 ⟨rfl, hb⟩; refine ⟨_, rfl, ?_⟩; have n0_ := Aside0.mk (blk_below (g := gb208) (o := .cells #[.int .i64 a0_0, .slice A0_1 l0_1.length c0_1] 39 (0, 0)) (by (with_reducible repeat (first | refine blk_drewN ?_ _ | refine blk_drew ?_ | refine blk_alloc ?_ _)); exact BK208.out) hb); have n1_ := Aside0.mk (blk_below (g := gb209) (o := .cells #[.int .i64 a1_0, .slice A1_1 l1_1.length c1_1] 39 (0, 0)) (by (with_reducible repeat (first | refine blk_drewN ?_ _ | refine blk_drew ?_ | refine blk_alloc ?_ _)); exact BK209.out) hb); have n2_ := Aside0.mk (below_step (by repeat (first | (with_reducible first | exact HB.out | apply below_alloc | apply pw_below_drewN | apply below_drew1 | refine below_set ?_ GE208.out | refine below_set ?_ GE209.out) | exact HB.out)) hb); clear BK208; clear BK209; clear HB; have BK208 := n0_; have BK209 := n1_; have HB := n2_; clear n0_ n1_ n2_; (try clear hb); (try clear hb2); (try clear hk); (try clear hi)))
      go_ret
      exact ⟨by first | rfl | (simp [errW_none, errW_some] <;> rfl) | (simp [*, errW_none, errW_some] <;> rfl), by repeat (first | (with_reducible first | exact HB.out | apply below_alloc | apply pw_below_drewN | apply below_drew1 | refine below_set ?_ GE208.out | refine below_set ?_ GE209.out) | exact HB.out)⟩
  · rw [if_neg c3] at H
    have c3b0 : (a0_0 == a1_0) = false := beq_eq_false_iff_ne.mpr c3
    have c3b1 : (a0_0 != a1_0) = true := bne_iff_ne.mpr c3
    obtain rfl := Option.some.inj H
    go_enter Try.func18, Try.ntmps18
    go_wp2_with (first | ((with_reducible refine gate_dst (N := 2) rfl ?_); refine box_event ?hg (N := 2) ?hd (cs := #[.int .i64 a0_0, .slice A0_1 l0_1.length c0_1]) (t := 39) ?hr ?_; (case hd => rfl); (case hg => rfl); (case hr => first | (go_simp; done) | (go_simp; rfl)); intro gb208 hg w18 hbox hb; have n0_ := Aside0.mk (below_step (by repeat (first | (with_reducible first | exact HB.out | apply below_alloc | apply pw_below_drewN | apply below_drew1) | exact HB.out)) hb); have n1_ := Aside0.mk (hbox); have n2_ := Aside0.mk ((by rw [hg]; exact (below_size (by repeat (first | (with_reducible first | exact HB.out | apply below_alloc | apply pw_below_drewN | apply below_drew1) | exact HB.out))) : w.heap.size ≤ gb208)); have n3_ := Aside0.mk ((by rw [hg]; exact (below_size (by repeat (first | (with_reducible first | exact HB.out | apply below_alloc | apply pw_below_drewN | apply below_drew1) | exact HB.out))) : w.heap.size ≤ gb208)); clear HB; have HB := n0_; have BK208 := n1_; have GW208 := n2_; have GE208 := n3_; clear n0_ n1_ n2_ n3_; clear hb hbox hg) | ((with_reducible refine gate_dst (N := 3) rfl ?_); refine box_event ?hg (N := 3) ?hd (cs := #[.int .i64 a1_0, .slice A1_1 l1_1.length c1_1]) (t := 39) ?hr ?_; (case hd => rfl); (case hg => rfl); (case hr => first | (go_simp; done) | (go_simp; rfl)); intro gb209 hg w19 hbox hb; have n0_ := Aside0.mk (blk_below (g := gb208) (o := .cells #[.int .i64 a0_0, .slice A0_1 l0_1.length c0_1] 39 (0, 0)) (by (with_reducible repeat (first | refine blk_drewN ?_ _ | refine blk_drew ?_ | refine blk_alloc ?_ _)); exact BK208.out) hb); have n1_ := Aside0.mk (below_step (by repeat (first | (with_reducible first | exact HB.out | apply below_alloc | apply pw_below_drewN | apply below_drew1 | refine below_set ?_ GE208.out) | exact HB.out)) hb); have n2_ := Aside0.mk (hbox); have n3_ := Aside0.mk ((by rw [hg]; exact (below_size (by repeat (first | (with_reducible first | exact HB.out | apply below_alloc | apply pw_below_drewN | apply below_drew1 | refine below_set ?_ GE208.out) | exact HB.out))) : w.heap.size ≤ gb209)); have n4_ := Aside0.mk ((by rw [hg]; exact (below_size (by repeat (first | (with_reducible first | exact HB.out | apply below_alloc | apply pw_below_drewN | apply below_drew1 | refine below_set ?_ GE208.out) | exact HB.out))) : w.heap.size ≤ gb209)); have n5_ := Aside0.mk ((by rw [hg]; exact Nat.ne_of_lt (blk_lt (g := gb208) (o := .cells #[.int .i64 a0_0, .slice A0_1 l0_1.length c0_1] 39 (0, 0)) (by (with_reducible repeat (first | refine blk_drewN ?_ _ | refine blk_drew ?_ | refine blk_alloc ?_ _)); exact BK208.out)) : gb208 ≠ gb209)); have n6_ := Aside0.mk ((by rw [hg]; exact Nat.ne_of_gt (blk_lt (g := gb208) (o := .cells #[.int .i64 a0_0, .slice A0_1 l0_1.length c0_1] 39 (0, 0)) (by (with_reducible repeat (first | refine blk_drewN ?_ _ | refine blk_drew ?_ | refine blk_alloc ?_ _)); exact BK208.out)) : gb209 ≠ gb208)); clear BK208; clear HB; have BK208 := n0_; have HB := n1_; have BK209 := n2_; have GW209 := n3_; have GE209 := n4_; have NB208_209 := n5_; have NB209_208 := n6_; clear n0_ n1_ n2_ n3_ n4_ n5_ n6_; clear hb hbox hg; have hnb20 := NB208_209.out; have hnc20 := NB209_208.out; have hcz21_0 : w19.cell? ⟨gb208, 0, none⟩ = some (.int .i64 a0_0) := (blk_cell BK208.out 0).trans rfl; have hcz21_1 : w19.cell? ⟨gb208, 1, none⟩ = some (.slice A0_1 l0_1.length c0_1) := (blk_cell BK208.out 1).trans rfl; have hfz21_0 := blk_frozen BK208.out 0; have hfz21_1 := blk_frozen BK208.out 1; have hcz22_0 : w19.cell? ⟨gb209, 0, none⟩ = some (.int .i64 a1_0) := (blk_cell BK209.out 0).trans rfl; have hcz22_1 : w19.cell? ⟨gb209, 1, none⟩ = some (.slice A1_1 l1_1.length c1_1) := (blk_cell BK209.out 1).trans rfl; have hfz22_0 := blk_frozen BK209.out 0; have hfz22_1 := blk_frozen BK209.out 1))
    go_ret
    exact ⟨by first | rfl | (simp [errW_none, errW_some] <;> rfl) | (simp [*, errW_none, errW_some] <;> rfl), by repeat (first | (with_reducible first | exact HB.out | apply below_alloc | apply pw_below_drewN | apply below_drew1 | refine below_set ?_ GE208.out | refine below_set ?_ GE209.out) | exact HB.out)⟩

end Go.Proofs.Ytkkiagoacbhhjaa.Q

/- What the laws' own helpers compute on surveys: the size that a law lets in, a survey's copy, that a copy equals itself, and the program's ValidSurvey. -/
namespace Go.Proofs.Ytkkiagoacbhhjaa.PuS
open Go.RowKit Go.Proofs.YtkkiagoacbhhjaaW.PrintWords Go.Proofs.Ytkkiagoacbhhjaa.Q

theorem wrap_id {x : Int} (h1 : -9223372036854775808 ≤ x) (h2 : x ≤ 9223372036854775807) : wrap64 x = x := by unfold wrap64; omega
theorem getD_nat {α : Type} (l : List α) (k : Nat) (z : α) (h : k < l.length) : l.getD (k : Int).toNat z = l[k] := by
  simp [List.getD_eq_getElem?_getD, h]
theorem rd64_at (l : List S64) (k : Nat) (h : k < l.length) : rd_T64 l k = l[k] := getD_nat l k z64 h
theorem rd78_at (l : List S78) (k : Nat) (h : k < l.length) : rd_T78 l k = l[k] := getD_nat l k z78 h

def conv (x : S78) : S64 := ⟨x.f0, x.f1, x.f2, x.f3⟩

theorem szSurvey_eq (p : Int) (l : List S78) (h : l.length ≤ 9223372036854775807) : laws_szSurvey.f p l 1048576 = some (if l.length ≤ 1048576 then 1048576 - (l.length : Int) else -1) := by
  have e : wrap64 (1048576 - (l.length : Int)) = 1048576 - (l.length : Int) := wrap_id (by omega) (by omega)
  simp only [laws_szSurvey.f, laws_szSightS.f, e]
  by_cases hl : l.length ≤ 1048576
  · rw [if_neg (by omega), if_pos hl]; simp only [Option.bind_some]; rw [if_neg (by omega)]
  · rw [if_pos (by omega), if_neg hl]; simp

theorem toSightS_loop (l : List S78) (hl : l.length ≤ 1048576) : ∀ (d k i : Nat) (x : List S64), x.length = l.length → i + d = l.length → d < k → (∀ j, j < i → x[j]? = (l.map conv)[j]?) → laws_toSightS.l0 k l x i = some (l.map conv) := by
  intro d
  induction d with
  | zero =>
    intro k i x hx hi hk hj
    obtain ⟨k, rfl⟩ : ∃ m, k = m + 1 := ⟨k - 1, by omega⟩
    simp only [laws_toSightS.l0]
    rw [if_neg (by omega)]
    congr 1
    apply List.ext_getElem?
    intro j
    by_cases h : j < i
    · exact hj j h
    · rw [List.getElem?_eq_none (by omega), List.getElem?_eq_none (by simp; omega)]
  | succ d ih =>
    intro k i x hx hi hk hj
    obtain ⟨k, rfl⟩ : ∃ m, k = m + 1 := ⟨k - 1, by omega⟩
    simp only [laws_toSightS.l0, laws_toSight.f, Option.bind_some]
    rw [if_pos (by omega), if_pos (by omega), if_pos (by omega), wrap_id (by omega) (by omega), Int.toNat_natCast, show (i : Int) + 1 = ((i + 1 : Nat) : Int) by omega]
    refine ih k (i + 1) _ (by simp [hx]) (by omega) (by omega) ?_
    intro j hlt
    by_cases h : j = i
    · subst h
      rw [List.getElem?_set_self (by omega), List.getElem?_map, List.getElem?_eq_getElem (by omega), rd78_at l j (by omega)]
      rfl
    · rw [List.getElem?_set_ne (by omega)]; exact hj j (by omega)

theorem toSurvey_eq (p : Int) (l : List S78) (hl : l.length ≤ 1048576) (k : Nat) (hk : l.length < k) : laws_toSurvey.f k p l = some (p, l.map conv) := by
  have : laws_toSightS.f k l = some (l.map conv) := by
    simp only [laws_toSightS.f, Int.toNat_natCast]
    rw [if_pos (by omega), if_pos (by omega)]
    exact toSightS_loop l hl l.length k 0 _ (by simp) (by omega) hk (by intro j hj; omega)
  simp [laws_toSurvey.f, this]

theorem eqSightS_loop (l : List S64) (hl : l.length ≤ 1048576) : ∀ (d k i : Nat), i + d = l.length → d < k → laws_eqSightS.l0 k l l i = some true := by
  intro d
  induction d with
  | zero =>
    intro k i hi hk
    obtain ⟨k, rfl⟩ : ∃ m, k = m + 1 := ⟨k - 1, by omega⟩
    simp only [laws_eqSightS.l0]
    rw [if_neg (by omega)]
  | succ d ih =>
    intro k i hi hk
    obtain ⟨k, rfl⟩ : ∃ m, k = m + 1 := ⟨k - 1, by omega⟩
    simp only [laws_eqSightS.l0, laws_eqSight.f, if_true, Option.bind_some]
    rw [if_pos (by omega), if_pos (by omega), if_pos (by omega), wrap_id (by omega) (by omega), show (i : Int) + 1 = ((i + 1 : Nat) : Int) by omega]
    exact ih k (i + 1) (by omega) (by omega)

theorem eqSurvey_eq (p : Int) (l : List S64) (hl : l.length ≤ 1048576) (k : Nat) (hk : l.length < k) : laws_eqSurvey.f k p l p l = some true := by
  have : laws_eqSightS.f k l l = some true := by
    simp only [laws_eqSightS.f, if_true]
    exact eqSightS_loop l hl l.length k 0 (by omega) hk
  simp [laws_eqSurvey.f, this]

theorem within_eq (a b c : Int) : impl_within.f a b c = some (Ha.inB b c a) := by
  unfold impl_within.f Ha.inB; split <;> simp_all <;> (intros; omega)

theorem implValid_loop (p : Int) (l : List S64) (hl : l.length ≤ 1048576) : ∀ (d k i : Nat), i + d = l.length → d < k →
    impl_ValidSurvey.l0 k l l.length i p l = some ((l.drop i).all (Hb.sightB p) && (Ha.inB 2 5 p && decide ((l.length : Int) ≤ 8))) := by
  intro d
  induction d with
  | zero =>
    intro k i hi hk
    obtain ⟨k, rfl⟩ : ∃ m, k = m + 1 := ⟨k - 1, by omega⟩
    simp only [impl_ValidSurvey.l0, within_eq, Option.bind_some]
    rw [if_neg (by omega)]
    obtain rfl : i = l.length := by omega
    cases h : Ha.inB 2 5 p <;> simp
  | succ d ih =>
    intro k i hi hk
    obtain ⟨k, rfl⟩ : ∃ m, k = m + 1 := ⟨k - 1, by omega⟩
    have hlt : i < l.length := by omega
    simp only [impl_ValidSurvey.l0, within_eq, Option.bind_some, impl_areWithin.f]
    rw [if_pos (by omega), if_pos (by omega), if_pos (by omega), wrap_id (x := (i : Int) + 1) (by omega) (by omega), show (i : Int) + 1 = ((i + 1 : Nat) : Int) by omega, ih k (i + 1) (by omega) (by omega),
      List.drop_eq_getElem_cons hlt, rd64_at l i hlt]
    generalize l[i] = s
    simp only [List.all_cons, Hb.sightB, Ha.areIn, List.all_nil, Bool.and_true, show (s.f0 == s.f1) = decide (s.f0 = s.f1) from by by_cases e : s.f0 = s.f1 <;> simp [e]]
    cases h0 : Ha.inB 0 (wrap64 (p - 1)) s.f0 <;> cases h1 : Ha.inB 0 (wrap64 (p - 1)) s.f1 <;> cases h3 : Ha.inB (-100) 100 s.f2 <;> cases h4 : Ha.inB 1 3 s.f3 <;> by_cases h2 : s.f0 = s.f1 <;> simp [h2]

theorem implValid_eq (p : Int) (l : List S64) (hl : l.length ≤ 1048576) (k : Nat) (hk : l.length < k) : impl_ValidSurvey.f k p l = some (Hb.surveyB p l) := by
  simp only [impl_ValidSurvey.f]
  have := implValid_loop p l hl l.length k 0 (by omega) hk
  rw [show ((0 : Nat) : Int) = 0 from rfl] at this
  rw [this]
  simp only [List.drop_zero, Hb.surveyB]
  rw [Bool.and_comm]

theorem specValid_eq (p : Int) (l : List S64) : spec_ValidSurvey.f p l = some (Hb.surveyB p l) := by
  simp [spec_ValidSurvey.f, spec_l10Is.f]

end Go.Proofs.Ytkkiagoacbhhjaa.PuS

/- DropSight, the reference's and the program's. -/
namespace Go.Proofs.Ytkkiagoacbhhjaa.Hi
open Go.RowKit Go.Proofs.YtkkiagoacbhhjaaW.PrintWords Go.Proofs.YtkkiagoacbhhjaaW.PrintLast Go.Proofs.YtkkiagoacbhhjaaW.PrintMore Go.Proofs.Ytkkiagoacbhhjaa.Q Go.Proofs.Ytkkiagoacbhhjaa.Ha Go.Proofs.Ytkkiagoacbhhjaa.Hb Go.Proofs.Ytkkiagoacbhhjaa.Hc Go.Proofs.Ytkkiagoacbhhjaa.Hf Go.Proofs.Ytkkiagoacbhhjaa.Hg Go.Proofs.Ytkkiagoacbhhjaa.Hh

def dropOk (pts : Int) (l : List S64) (k : Int) : Bool := surveyB pts l && inB 0 ((l.length : Int) - 1) k
def DropEnds (w : World) (pts : Int) (l : List S64) (k : Int) (e : Ending) (w' : World) : Prop :=
  ∃ v : Value, e = .returned (.tuple #[.agg #[.int .i64 (if dropOk pts l k = true then pts else 0), v], .bool (dropOk pts l k)]) ∧ TS w.heap.size w' v (if dropOk pts l k = true then l.eraseIdx k.toNat else []) ∧ Below w.heap.size w w'
theorem surveyB_len {pts : Int} {l : List S64} (h : surveyB pts l = true) : l.length ≤ 8 := by
  simp only [surveyB, Bool.and_eq_true, decide_eq_true_eq] at h; omega

theorem drop_yes {w w1 : World} {pts : Int} {l : List S64} {k : Int} {r : Nat} {v : Value} (hk : dropOk pts l k = true) (hB : Below w.heap.size w w1) (hr : w.heap.size ≤ r) (hb : w1.heap[r]? = some (.cells #[.int .i64 0, .slice none 0 0] 39 (0, 0))) (ht : TS w.heap.size w1 v (l.eraseIdx k.toNat)) :
    DropEnds w pts l k (.returned (.tuple #[.agg #[.int .i64 pts, v], .bool true])) ((w1.setCell ⟨r, 0, none⟩ (.int .i64 pts)).setCell ⟨r, 1, none⟩ v) :=
  ⟨v, by rw [hk]; rfl, by rw [hk]; exact Kd.R_set (Kd.R_set ht hb (by decide) 0 (.int .i64 pts)) (blk_put hb 0 (.int .i64 pts) rfl) (by decide) 1 v, (hB.setCell (p := ⟨r, 0, none⟩) hr _).setCell (p := ⟨r, 1, none⟩) hr _⟩
theorem drop_no {w w1 : World} {pts : Int} {l : List S64} {k : Int} (hk : dropOk pts l k = false) (hB : Below w.heap.size w w1) :
    DropEnds w pts l k (.returned (.tuple #[.agg #[.int .i64 0, .slice none 0 0], .bool false])) w1 :=
  ⟨.slice none 0 0, by rw [hk]; rfl, by rw [hk]; exact Kd.R_nil _ _ _ _ _, hB⟩

set_option maxHeartbeats 4000000 in
set_option maxRecDepth 100000 in
theorem specDrop_any (pts : Int) (A : Option Addr) (c : Nat) (l : List S64) (k : Int) (w : World) (hr : Kd.C k64 w A l.length l) :
    Calls Try.prog 21 #[.agg #[.int .i64 pts, .slice A l.length c], .int .i64 k] w (DropEnds w pts l k) := by
  have hu64 := Try.underlying64
  have hu39 := Try.underlying39
  have hbx := below_alloc (below_alloc (Below.refl w.heap.size w) (.cells #[.int .i64 pts, .slice A l.length c] 39)) (.cells #[.int .i64 0, .slice none 0 0] 39)
  have HR := Aside0.mk (Kd.C_below hr hbx)
  have HBX := Aside0.mk hbx
  have b0 : (X0 pts A l.length c w).heap[w.heap.size]? = some (.cells #[.int .i64 pts, .slice A l.length c] 39 (0, 0)) := blk_alloc (blk_new w (.cells #[.int .i64 pts, .slice A l.length c] 39)) (.cells #[.int .i64 0, .slice none 0 0] 39)
  have b1 : (X0 pts A l.length c w).heap[w.heap.size + 1]? = some (.cells #[.int .i64 0, .slice none 0 0] 39 (0, 0)) := by
    have := blk_new (w.alloc (.cells #[.int .i64 pts, .slice A l.length c] 39)) (.cells #[.int .i64 0, .slice none 0 0] 39)
    rw [World.size_alloc] at this; exact this
  have HB0 := Aside0.mk b0
  have HB1 := Aside0.mk b1
  clear hr hbx b0 b1
  cases hv : surveyB pts l
  · have HD := Aside0.mk (show dropOk pts l k = false by simp [dropOk, hv])
    have hc := l10Is_any w.heap.size pts A c l (X0 pts A l.length c w) HB0.out HR.out
    rw [hv] at hc
    clear hv
    go_enter Try.func21, Try.ntmps21
    go_wp2_with (first
      | (go_at_call 43; refine hc.mono ?_; rintro e w1 ⟨rfl, h1⟩; have H1 := Aside0.mk h1; have q := blk_below HB1.out h1; have QB := Aside0.mk q; have q2 : w1.cell? ⟨w.heap.size + 1, 0, none⟩ = some (.int .i64 0) := (blk_cell q 0).trans rfl; have q3 : w1.cell? ⟨w.heap.size + 1, 1, none⟩ = some (.slice none 0 0) := (blk_cell q 1).trans rfl; have q4 := blk_frozen q 0; have q5 := blk_frozen q 1; clear h1 q))
    refine bodyPost_ret (results_ct rfl _ _ (w.heap.size + 1) 39 #[.int .i64 0, .slice none 0 0] (0, 0) _ rfl (blk_put (blk_put QB.out 0 (.int .i64 0) rfl) 1 (.slice none 0 0) rfl) Try.underlying39 rfl (by kernel_rfl)) rfl ?_
    exact drop_no HD.out (((below_step HBX.out H1.out).setCell (p := ⟨w.heap.size + 1, 0, none⟩) (Nat.le_succ _) (.int .i64 0)).setCell (p := ⟨w.heap.size + 1, 1, none⟩) (Nat.le_succ _) (.slice none 0 0))
  · have hl := surveyB_len hv
    have hc := l10Is_any w.heap.size pts A c l (X0 pts A l.length c w) HB0.out HR.out
    rw [hv] at hc
    cases hin : inB 0 ((l.length : Int) - 1) k
    · have HD := Aside0.mk (show dropOk pts l k = false by simp [dropOk, hin])
      have HIN := Aside0.mk hin
      clear hv hin
      go_enter Try.func21, Try.ntmps21
      go_wp2_with (first
        | (go_at_call 43; refine hc.mono ?_; rintro e w1 ⟨rfl, h1⟩; have H1 := Aside0.mk h1; have q := blk_below HB1.out h1; have QB := Aside0.mk q; have q1 : w1.cell? ⟨w.heap.size, 1, none⟩ = some (.slice A l.length c) := (blk_cell (blk_below HB0.out h1) 1).trans rfl; have q2 : w1.cell? ⟨w.heap.size + 1, 0, none⟩ = some (.int .i64 0) := (blk_cell q 0).trans rfl; have q3 : w1.cell? ⟨w.heap.size + 1, 1, none⟩ = some (.slice none 0 0) := (blk_cell q 1).trans rfl; have q4 := blk_frozen q 0; have q5 := blk_frozen q 1; clear h1 q)
        | (go_at_call 48; refine (l00In_any _ _ _ _).mono ?_; rintro e w2 ⟨rfl, rfl⟩; rw [HIN.out]))
      refine bodyPost_ret (results_ct rfl _ _ (w.heap.size + 1) 39 #[.int .i64 0, .slice none 0 0] (0, 0) _ rfl (blk_put (blk_put QB.out 0 (.int .i64 0) rfl) 1 (.slice none 0 0) rfl) Try.underlying39 rfl (by kernel_rfl)) rfl ?_
      exact drop_no HD.out (((below_step HBX.out H1.out).setCell (p := ⟨w.heap.size + 1, 0, none⟩) (Nat.le_succ _) (.int .i64 0)).setCell (p := ⟨w.heap.size + 1, 1, none⟩) (Nat.le_succ _) (.slice none 0 0))
    · have HD := Aside0.mk (show dropOk pts l k = true by simp [dropOk, hin, hv])
      have HIN := Aside0.mk hin
      have hk0 : 0 ≤ k ∧ k < l.length := by simp [inB] at hin; omega
      obtain ⟨k, rfl⟩ : ∃ j : Nat, k = (j : Int) := ⟨k.toNat, by omega⟩
      have hkl : k < l.length := by omega
      clear hv hin hk0
      go_enter Try.func21, Try.ntmps21
      go_wp2_with (first
        | (go_at_call 43; refine hc.mono ?_; rintro e w1 ⟨rfl, h1⟩; have H1 := Aside0.mk h1; have QB0 := Aside0.mk (blk_below HB0.out h1); have QB := Aside0.mk (blk_below HB1.out h1); have q1 : w1.cell? ⟨w.heap.size, 1, none⟩ = some (.slice A l.length c) := (blk_cell (blk_below HB0.out h1) 1).trans rfl; have R1 := Aside0.mk (Kd.C_below HR.out h1); clear h1)
        | (go_at_call 48; refine (l00In_any _ _ _ _).mono ?_; rintro e w2 ⟨rfl, rfl⟩; rw [HIN.out])
        | (go_at_call 49; refine (l10Drop_any w.heap.size pts A c l k hkl (by omega) _ QB0.out R1.out).mono ?_; rintro e w3 ⟨v, rfl, h3, h4⟩; obtain ⟨Av, cv, rfl⟩ := Kd.R_slice h3; have H3 := Aside0.mk h3; have H4 := Aside0.mk h4; have q := blk_below QB.out h4; have Q := Aside0.mk q; have q2 : w3.cell? ⟨w.heap.size + 1, 0, none⟩ = some (.int .i64 0) := (blk_cell q 0).trans rfl; have q3 : w3.cell? ⟨w.heap.size + 1, 1, none⟩ = some (.slice none 0 0) := (blk_cell q 1).trans rfl; have q4 := blk_frozen q 0; have q5 := blk_frozen q 1; clear h3 h4 q))
      refine bodyPost_ret (results_ct rfl _ _ (w.heap.size + 1) 39 #[.int .i64 pts, .slice Av (l.eraseIdx k).length cv] (0, 0) _ rfl (blk_put (blk_put Q.out 0 (.int .i64 pts) rfl) 1 (.slice Av (l.eraseIdx k).length cv) rfl) Try.underlying39 rfl (by kernel_rfl)) rfl ?_
      exact drop_yes HD.out (below_step (below_step HBX.out H1.out) H4.out) (Nat.le_succ _) Q.out (Kd.R_lower H3.out (below_step HBX.out H1.out).size)
theorem within_any (n lo hi : Int) (w : World) : Calls Try.prog 39 #[.int .i64 n, .int .i64 lo, .int .i64 hi] w fun e w' => e = .returned (.bool (inB lo hi n)) ∧ w' = w := by
  by_cases h : lo ≤ n
  · have h' : decide (lo ≤ n) = true := by simpa using h
    go_enter Try.func39, Try.ntmps39
    go_wp2
    go_ret
    exact ⟨ret_bool (by simp [inB, h]), rfl⟩
  · have h' : decide (lo ≤ n) = false := by simpa using h
    go_enter Try.func39, Try.ntmps39
    go_wp2
    go_ret
    exact ⟨ret_bool (by simp [inB]; omega), rfl⟩

set_option maxHeartbeats 4000000 in
set_option maxRecDepth 100000 in
theorem implDrop_any (pts : Int) (A : Option Addr) (c : Nat) (l : List S64) (k : Int) (w : World) (hr : Kd.C k64 w A l.length l) (hcc : l.length ≤ c) (hlm : l.length ≤ 1048576) :
    Calls Try.prog 22 #[.agg #[.int .i64 pts, .slice A l.length c], .int .i64 k] w (DropEnds w pts l k) := by
  have hu64 := Try.underlying64
  have hu39 := Try.underlying39
  have hbx := below_alloc (below_alloc (Below.refl w.heap.size w) (.cells #[.int .i64 pts, .slice A l.length c] 39)) (.cells #[.int .i64 0, .slice none 0 0] 39)
  have HR := Aside0.mk (Kd.C_below hr hbx)
  have HBX := Aside0.mk hbx
  have b0 : (X0 pts A l.length c w).heap[w.heap.size]? = some (.cells #[.int .i64 pts, .slice A l.length c] 39 (0, 0)) := blk_alloc (blk_new w (.cells #[.int .i64 pts, .slice A l.length c] 39)) (.cells #[.int .i64 0, .slice none 0 0] 39)
  have b1 : (X0 pts A l.length c w).heap[w.heap.size + 1]? = some (.cells #[.int .i64 0, .slice none 0 0] 39 (0, 0)) := by
    have := blk_new (w.alloc (.cells #[.int .i64 pts, .slice A l.length c] 39)) (.cells #[.int .i64 0, .slice none 0 0] 39)
    rw [World.size_alloc] at this; exact this
  have HB0 := Aside0.mk b0
  have HB1 := Aside0.mk b1
  clear hr hbx b0 b1
  cases hv : surveyB pts l
  · have HD := Aside0.mk (show dropOk pts l k = false by simp [dropOk, hv])
    have hc := impl_ValidSurvey.calls (l.length + 1) pts A c l _ (X0 pts A l.length c w) HR.out hcc (Go.Proofs.Ytkkiagoacbhhjaa.PuS.implValid_eq pts l hlm (l.length + 1) (by omega))
    rw [hv] at hc
    clear hv
    go_enter Try.func22, Try.ntmps22
    go_wp2_with (first
      | (go_at_call 17; refine hc.mono ?_; rintro e w1 ⟨rfl, h1⟩; have H1 := Aside0.mk h1; have q := blk_below HB1.out h1; have QB := Aside0.mk q; have q2 : w1.cell? ⟨w.heap.size + 1, 0, none⟩ = some (.int .i64 0) := (blk_cell q 0).trans rfl; have q3 : w1.cell? ⟨w.heap.size + 1, 1, none⟩ = some (.slice none 0 0) := (blk_cell q 1).trans rfl; have q4 := blk_frozen q 0; have q5 := blk_frozen q 1; clear h1 q))
    refine bodyPost_ret (results_ct rfl _ _ (w.heap.size + 1) 39 #[.int .i64 0, .slice none 0 0] (0, 0) _ rfl (blk_put (blk_put QB.out 0 (.int .i64 0) rfl) 1 (.slice none 0 0) rfl) Try.underlying39 rfl (by kernel_rfl)) rfl ?_
    exact drop_no HD.out (((below_step HBX.out H1.out).setCell (p := ⟨w.heap.size + 1, 0, none⟩) (Nat.le_succ _) (.int .i64 0)).setCell (p := ⟨w.heap.size + 1, 1, none⟩) (Nat.le_succ _) (.slice none 0 0))
  · have hl := surveyB_len hv
    have hc := impl_ValidSurvey.calls (l.length + 1) pts A c l _ (X0 pts A l.length c w) HR.out hcc (Go.Proofs.Ytkkiagoacbhhjaa.PuS.implValid_eq pts l hlm (l.length + 1) (by omega))
    rw [hv] at hc
    cases hin : inB 0 ((l.length : Int) - 1) k
    · have HD := Aside0.mk (show dropOk pts l k = false by simp [dropOk, hin])
      have HIN := Aside0.mk hin
      clear hv hin
      go_enter Try.func22, Try.ntmps22
      go_wp2_with (first
        | (go_at_call 17; refine hc.mono ?_; rintro e w1 ⟨rfl, h1⟩; have H1 := Aside0.mk h1; have q := blk_below HB1.out h1; have QB := Aside0.mk q; have q0 : w1.cell? ⟨w.heap.size, 0, none⟩ = some (.int .i64 pts) := (blk_cell (blk_below HB0.out h1) 0).trans rfl; have q1 : w1.cell? ⟨w.heap.size, 1, none⟩ = some (.slice A l.length c) := (blk_cell (blk_below HB0.out h1) 1).trans rfl; have q2 : w1.cell? ⟨w.heap.size + 1, 0, none⟩ = some (.int .i64 0) := (blk_cell q 0).trans rfl; have q3 : w1.cell? ⟨w.heap.size + 1, 1, none⟩ = some (.slice none 0 0) := (blk_cell q 1).trans rfl; have q4 := blk_frozen q 0; have q5 := blk_frozen q 1; clear h1 q)
        | (go_at_call 39; refine (within_any _ _ _ _).mono ?_; rintro e w2 ⟨rfl, rfl⟩; rw [HIN.out]))
      refine bodyPost_ret (results_ct rfl _ _ (w.heap.size + 1) 39 #[.int .i64 0, .slice none 0 0] (0, 0) _ rfl (blk_put (blk_put QB.out 0 (.int .i64 0) rfl) 1 (.slice none 0 0) rfl) Try.underlying39 rfl (by kernel_rfl)) rfl ?_
      exact drop_no HD.out (((below_step HBX.out H1.out).setCell (p := ⟨w.heap.size + 1, 0, none⟩) (Nat.le_succ _) (.int .i64 0)).setCell (p := ⟨w.heap.size + 1, 1, none⟩) (Nat.le_succ _) (.slice none 0 0))
    · have HD := Aside0.mk (show dropOk pts l k = true by simp [dropOk, hin, hv])
      have HIN := Aside0.mk hin
      have hk0 : 0 ≤ k ∧ k < l.length := by simp [inB] at hin; omega
      obtain ⟨k, rfl⟩ : ∃ j : Nat, k = (j : Int) := ⟨k.toNat, by omega⟩
      have hkl : k < l.length := by omega
      clear hv hin hk0
      go_enter Try.func22, Try.ntmps22
      go_wp2_with (first
        | (go_at_call 17; refine hc.mono ?_; rintro e w1 ⟨rfl, h1⟩; have H1 := Aside0.mk h1; have QB0 := Aside0.mk (blk_below HB0.out h1); have QB := Aside0.mk (blk_below HB1.out h1); have q0 : w1.cell? ⟨w.heap.size, 0, none⟩ = some (.int .i64 pts) := (blk_cell (blk_below HB0.out h1) 0).trans rfl; have q1 : w1.cell? ⟨w.heap.size, 1, none⟩ = some (.slice A l.length c) := (blk_cell (blk_below HB0.out h1) 1).trans rfl; have R1 := Aside0.mk (Kd.C_below HR.out h1); clear h1)
        | (go_at_call 39; refine (within_any _ _ _ _).mono ?_; rintro e w2 ⟨rfl, rfl⟩; rw [HIN.out])
        | (go_at_call 50; refine (without_any pts A c l k hkl (by omega) _ R1.out).mono ?_; rintro e w3 ⟨v, rfl, h3, h4⟩; obtain ⟨Av, cv, rfl⟩ := Kd.R_slice h3; have H3 := Aside0.mk h3; have H4 := Aside0.mk h4; have q := blk_below QB.out h4; have Q := Aside0.mk q; have q2 : w3.cell? ⟨w.heap.size + 1, 0, none⟩ = some (.int .i64 0) := (blk_cell q 0).trans rfl; have q3 : w3.cell? ⟨w.heap.size + 1, 1, none⟩ = some (.slice none 0 0) := (blk_cell q 1).trans rfl; have q4 := blk_frozen q 0; have q5 := blk_frozen q 1; clear h3 h4 q))
      refine bodyPost_ret (results_ct rfl _ _ (w.heap.size + 1) 39 #[.int .i64 pts, .slice Av (l.eraseIdx k).length cv] (0, 0) _ rfl (blk_put (blk_put Q.out 0 (.int .i64 pts) rfl) 1 (.slice Av (l.eraseIdx k).length cv) rfl) Try.underlying39 rfl (by kernel_rfl)) rfl ?_
      exact drop_yes HD.out (below_step (below_step HBX.out H1.out) H4.out) (Nat.le_succ _) Q.out (Kd.R_lower H3.out (below_step HBX.out H1.out).size)
end Go.Proofs.Ytkkiagoacbhhjaa.Hi

-- made by a patched copy of print.sh: this session's own
namespace Go.Proofs.Ytkkiagoacbhhjaa.Q
open Go.RowKit Go.Proofs.YtkkiagoacbhhjaaW.PrintWords Go.Proofs.YtkkiagoacbhhjaaW.PrintLast Go.Proofs.YtkkiagoacbhhjaaW.PrintMore
attribute [local go_sem] max2_int min2_int max_two min_two max_three min_three max_four min_four   -- for this text's walks alone
set_option linter.unusedVariables false
set_option linter.unusedSimpArgs false

/-! ### spec_l10Tree: function 53 -/
def spec_l10Tree.f (s0_0 : Int) (s0_1 : List (S64)) : Option (List Int × List Int × Bool × Int) :=
  if Hb.surveyB s0_0 s0_1 = true then (if (Hd.treeS s0_0 s0_1).part.all (· == 0) = true then some ((Hd.treeS s0_0 s0_1).out, (Hd.treeS s0_0 s0_1).hts, true, s0_0) else some ([], [], false, s0_0)) else none
theorem spec_l10Tree.calls (g : Nat) (s0_0 : Int) (s0_1 : List (S64)) (r1 : List Int) (r2 : List Int) (r3 : Bool) (r4 : Int) (w0 w : World) (hI : IsS39 w0 w g s0_0 s0_1) (hB : Below w0.heap.size w0 w) (h : spec_l10Tree.f s0_0 s0_1 = some (r1, r2, r3, r4)) :
    Calls Try.prog 53 #[.pointer (some ⟨g, 0, none⟩)] w fun e w' => ∃ v0_ v1_ : Value, e = .returned (.tuple #[v0_, v1_, .bool r3]) ∧ Kd.R (Kd.int .i64) 2 w' w.heap.size (fun k_ => some k_ ≠ (v1_ : Value).ownBlock) v0_ r1 ∧ Kd.R (Kd.int .i64) 2 w' w.heap.size (fun k_ => some k_ ≠ (v0_ : Value).ownBlock) v1_ r2 ∧ IsS39 w0 w' g r4 s0_1 ∧ Below w0.heap.size w0 w' ∧ KeepBut w w' g none := by
  unfold spec_l10Tree.f at h
  by_cases hv : Hb.surveyB s0_0 s0_1 = true
  · rw [if_pos hv] at h
    obtain ⟨A1, c1, hb, hg, hr⟩ := hI
    refine (Hd.l10Tree_any g s0_0 A1 c1 s0_1 w hb (Kd.C_below hr hB) hv).mono ?_
    rintro e w' ⟨v0, v1, ok, rfl, hok, t0, t1, ne, hw⟩
    have hres : r1 = (if ok then (Hd.treeS s0_0 s0_1).out else []) ∧ r2 = (if ok then (Hd.treeS s0_0 s0_1).hts else []) ∧ r3 = ok ∧ r4 = s0_0 := by
      subst hok
      by_cases ha : (Hd.treeS s0_0 s0_1).part.all (· == 0) = true
      · rw [if_pos ha] at h; simp only [Option.some.injEq, Prod.mk.injEq] at h; obtain ⟨rfl, rfl, rfl, rfl⟩ := h; simp [ha]
      · rw [if_neg ha] at h; simp only [Option.some.injEq, Prod.mk.injEq] at h; obtain ⟨rfl, rfl, rfl, rfl⟩ := h; simp [ha]
    obtain ⟨rfl, rfl, rfl, rfl⟩ := hres
    exact ⟨v0, v1, rfl, Kd.R_reok rfl t0 (fun k hk e => ne k hk e.symm), Kd.R_reok rfl t1 (fun k hk e => ne.symm k hk e.symm), IsS39.below ⟨A1, c1, hb, hg, hr⟩ hw, below_then hB hB.size hw, KeepBut.of_below hw g none⟩
  · rw [if_neg hv] at h; cases h

end Go.Proofs.Ytkkiagoacbhhjaa.Q

-- made by a patched copy of print.sh: this session's own
namespace Go.Proofs.Ytkkiagoacbhhjaa.Q
open Go.RowKit Go.Proofs.YtkkiagoacbhhjaaW.PrintWords Go.Proofs.YtkkiagoacbhhjaaW.PrintLast Go.Proofs.YtkkiagoacbhhjaaW.PrintMore
attribute [local go_sem] max2_int min2_int max_two min_two max_three min_three max_four min_four   -- for this text's walks alone
set_option linter.unusedVariables false
set_option linter.unusedSimpArgs false

/-! ### spec_l10Whole: function 46 -/
def spec_l10Whole.f (s0_0 : Int) (s0_1 : List (S64)) : Option (Bool × Int) := (spec_l10Is.f s0_0 s0_1).bind fun bt229 => (if bt229.1 = true then ((spec_l10Tree.f bt229.2 s0_1).bind fun bt231 => (some (bt231.2.2.1, bt231.2.2.2))) else (some (false, bt229.2)))
set_option maxHeartbeats 8000000 in
set_option maxRecDepth 100000 in
theorem spec_l10Whole.calls (g : Nat) (s0_0 : Int) (s0_1 : List (S64)) (r1 : Bool) (r2 : Int) (w0 w : World) (hI : IsS39 w0 w g s0_0 s0_1) (hB : Below w0.heap.size w0 w) (h : spec_l10Whole.f s0_0 s0_1 = some (r1, r2)) :
    Calls Try.prog 46 #[.pointer (some ⟨g, 0, none⟩)] w fun e w' => e = .returned (.bool r1) ∧ IsS39 w0 w' g r2 s0_1 ∧ Below w0.heap.size w0 w' ∧ KeepBut w w' g none := by
  have HI0 := Aside0.mk hI
  have HK := Aside0.mk (KeepBut.refl w g none)
  have HL := Aside0.mk hB.size
  clear hI
  have HW0 := Aside0.mk hB.size
  have HB := Aside0.mk hB
  clear hB
  have H : ((spec_l10Is.f s0_0 s0_1).bind fun bt229 => (if bt229.1 = true then ((spec_l10Tree.f bt229.2 s0_1).bind fun bt231 => (some (bt231.2.2.1, bt231.2.2.2))) else (some (false, bt229.2)))) = some (r1, r2) := h
  clear h
  replace H := Option.bind_eq_some_iff.mp H
  obtain ⟨⟨t229, t230⟩, A20, H⟩ := H
  replace H : (if t229 = true then ((spec_l10Tree.f t230 s0_1).bind fun bt231 => (some (bt231.2.2.1, bt231.2.2.2))) else (some (false, t230))) = some (r1, r2) := H
  have A2 := Aside0.mk A20
  clear A20
  by_cases c3 : t229 = true
  · subst c3
    have H1 : ((spec_l10Tree.f t230 s0_1).bind fun bt231 => (some (bt231.2.2.1, bt231.2.2.2))) = some (r1, r2) := by rw [if_pos rfl] at H; exact H
    clear H
    have H := H1
    clear H1
    replace H := Option.bind_eq_some_iff.mp H
    obtain ⟨⟨t231, t234, t237, t238⟩, A40, H⟩ := H
    replace H : (some (t237, t238)) = some (r1, r2) := H
    have A4 := Aside0.mk A40
    clear A40
    simp only [Option.some.injEq, Prod.mk.injEq] at H
    obtain ⟨rfl, rfl⟩ := H
    go_enter Try.func46, Try.ntmps46
    go_wp2_with (first | ((with_reducible refine gate_callee (f := 43) rfl ?_); refine goesL_ (some 7) rfl rfl Try.func43 (by kernel_rfl) rfl #[.pointer (some ⟨g, 0, none⟩)] rfl (by (try simp only [List.map_toArray, List.map_cons, List.map_nil]); first | done | rfl | (simp only [List.length_drop, List.length_take]; rfl)) ?_; (with_reducible refine (spec_l10Is.calls g s0_0 s0_1 true t230 w0 _ ?side1 ?side2 A2.out).mono ?_); (case side1 => repeat (first | (with_reducible first | exact HI0.out | apply IsS39.alloc | apply IsS39.drewN | apply IsS39.drew | apply IsS39.set_0) | exact HI0.out)); (case side2 => repeat (first | (with_reducible first | exact HB.out | apply below_alloc | apply pw_below_drewN | apply below_drew1 | refine below_set ?_ (IsS39.ge HI0.out)) | exact HB.out)); rintro e w5 ⟨rfl, hi, hb, hk⟩; refine ⟨_, rfl, ?_⟩; have n0_ := Aside0.mk (KeepBut.trans (by repeat (first | (with_reducible first | exact HK.out | apply KeepBut.set_ | apply keep_drewN | apply keep_drew | apply keep_alloc) | exact HK.out)) hk (.inl rfl)); have n1_ := Aside0.mk (hb); have n2_ := Aside0.mk (hi); clear HK; clear HB; clear HI0; have HK := n0_; have HB := n1_; have HI0 := n2_; clear n0_ n1_ n2_; (try clear hb); (try clear hb2); (try clear hk); (try clear hi)) | ((with_reducible refine gate_callee (f := 53) rfl ?_); refine goesL_ (some 11) rfl rfl Try.func53 (by kernel_rfl) rfl #[.pointer (some ⟨g, 0, none⟩)] rfl (by (try simp only [List.map_toArray, List.map_cons, List.map_nil]); first | done | rfl | (simp only [List.length_drop, List.length_take]; rfl)) ?_; (with_reducible refine (spec_l10Tree.calls g t230 s0_1 t231 t234 t237 t238 w0 _ ?side1 ?side2 A4.out).mono ?_); (case side1 => repeat (first | (with_reducible first | exact HI0.out | apply IsS39.alloc | apply IsS39.drewN | apply IsS39.drew | apply IsS39.set_0) | exact HI0.out)); (case side2 => repeat (first | (with_reducible first | exact HB.out | apply below_alloc | apply pw_below_drewN | apply below_drew1 | refine below_set ?_ (IsS39.ge HI0.out)) | exact HB.out)); rintro e w6 ⟨v232, v235, rfl, ho0, ho1, hi, hb, hk⟩; refine ⟨_, rfl, ?_⟩; have n0_ := Aside0.mk (Kd.R_lower ho0 (keep_size (w := w) (g := g) (row := none) (by repeat (first | (with_reducible first | exact HK.out | apply KeepBut.set_ | apply keep_drewN | apply keep_drew | apply keep_alloc) | exact HK.out)))); have n1_ := Aside0.mk (Kd.R_lower ho1 (keep_size (w := w) (g := g) (row := none) (by repeat (first | (with_reducible first | exact HK.out | apply KeepBut.set_ | apply keep_drewN | apply keep_drew | apply keep_alloc) | exact HK.out)))); have n2_ := Aside0.mk (KeepBut.trans (by repeat (first | (with_reducible first | exact HK.out | apply KeepBut.set_ | apply keep_drewN | apply keep_drew | apply keep_alloc) | exact HK.out)) hk (.inl rfl)); have n3_ := Aside0.mk (hb); have n4_ := Aside0.mk (hi); clear HK; clear HB; clear HI0; have HO233 := n0_; have HO236 := n1_; have HK := n2_; have HB := n3_; have HI0 := n4_; clear n0_ n1_ n2_ n3_ n4_; (try clear hb); (try clear hb2); (try clear hk); (try clear hi); (try clear ho0); (try clear ho1)))
    go_ret
    exact ⟨by first | rfl | (simp [errW_none, errW_some] <;> rfl) | (simp [*, errW_none, errW_some] <;> rfl), by repeat (first | (with_reducible first | exact HI0.out | apply IsS39.alloc | apply IsS39.drewN | apply IsS39.drew | apply IsS39.set_0) | exact HI0.out), by repeat (first | (with_reducible first | exact HB.out | apply below_alloc | apply pw_below_drewN | apply below_drew1 | refine below_set ?_ (IsS39.ge HI0.out)) | exact HB.out), by repeat (first | (with_reducible first | exact HK.out | apply KeepBut.set_ | apply keep_drewN | apply keep_drew | apply keep_alloc) | exact HK.out)⟩
  · replace c3 := Bool.eq_false_iff.mpr c3
    subst c3
    have H1 : (some (false, t230)) = some (r1, r2) := by rw [if_neg (show ¬ (false = true) by decide)] at H; exact H
    clear H
    have H := H1
    clear H1
    simp only [Option.some.injEq, Prod.mk.injEq] at H
    obtain ⟨rfl, rfl⟩ := H
    go_enter Try.func46, Try.ntmps46
    go_wp2_with (first | ((with_reducible refine gate_callee (f := 43) rfl ?_); refine goesL_ (some 7) rfl rfl Try.func43 (by kernel_rfl) rfl #[.pointer (some ⟨g, 0, none⟩)] rfl (by (try simp only [List.map_toArray, List.map_cons, List.map_nil]); first | done | rfl | (simp only [List.length_drop, List.length_take]; rfl)) ?_; (with_reducible refine (spec_l10Is.calls g s0_0 s0_1 false t230 w0 _ ?side1 ?side2 A2.out).mono ?_); (case side1 => repeat (first | (with_reducible first | exact HI0.out | apply IsS39.alloc | apply IsS39.drewN | apply IsS39.drew | apply IsS39.set_0) | exact HI0.out)); (case side2 => repeat (first | (with_reducible first | exact HB.out | apply below_alloc | apply pw_below_drewN | apply below_drew1 | refine below_set ?_ (IsS39.ge HI0.out)) | exact HB.out)); rintro e w7 ⟨rfl, hi, hb, hk⟩; refine ⟨_, rfl, ?_⟩; have n0_ := Aside0.mk (KeepBut.trans (by repeat (first | (with_reducible first | exact HK.out | apply KeepBut.set_ | apply keep_drewN | apply keep_drew | apply keep_alloc) | exact HK.out)) hk (.inl rfl)); have n1_ := Aside0.mk (hb); have n2_ := Aside0.mk (hi); clear HK; clear HB; clear HI0; have HK := n0_; have HB := n1_; have HI0 := n2_; clear n0_ n1_ n2_; (try clear hb); (try clear hb2); (try clear hk); (try clear hi)))
    go_ret
    exact ⟨by first | rfl | (simp [errW_none, errW_some] <;> rfl) | (simp [*, errW_none, errW_some] <;> rfl), by repeat (first | (with_reducible first | exact HI0.out | apply IsS39.alloc | apply IsS39.drewN | apply IsS39.drew | apply IsS39.set_0) | exact HI0.out), by repeat (first | (with_reducible first | exact HB.out | apply below_alloc | apply pw_below_drewN | apply below_drew1 | refine below_set ?_ (IsS39.ge HI0.out)) | exact HB.out), by repeat (first | (with_reducible first | exact HK.out | apply KeepBut.set_ | apply keep_drewN | apply keep_drew | apply keep_alloc) | exact HK.out)⟩

end Go.Proofs.Ytkkiagoacbhhjaa.Q

-- made by a patched copy of print.sh: this session's own
namespace Go.Proofs.Ytkkiagoacbhhjaa.Q
open Go.RowKit Go.Proofs.YtkkiagoacbhhjaaW.PrintWords Go.Proofs.YtkkiagoacbhhjaaW.PrintLast Go.Proofs.YtkkiagoacbhhjaaW.PrintMore
attribute [local go_sem] max2_int min2_int max_two min_two max_three min_three max_four min_four   -- for this text's walks alone
set_option linter.unusedVariables false
set_option linter.unusedSimpArgs false

/-! ### spec_IsConnected: function 19 -/
def spec_IsConnected.f (a0_0 : Int) (l0_1 : List (S64)) : Option (Bool) := (spec_l10Whole.f a0_0 l0_1).bind fun bt240 => (some bt240.1)
set_option maxHeartbeats 8000000 in
set_option maxRecDepth 100000 in
theorem spec_IsConnected.calls (a0_0 : Int) (A0_1 : Option Addr) (c0_1 : Nat) (l0_1 : List (S64)) (r : Bool) (w : World) (hr0_1 : Kd.C k64 w A0_1 l0_1.length l0_1) (hc0_1 : l0_1.length ≤ c0_1) (h : spec_IsConnected.f a0_0 l0_1 = some r) :
    Calls Try.prog 19 #[.agg #[.int .i64 a0_0, .slice A0_1 l0_1.length c0_1]] w fun e w' => e = .returned (.bool r) ∧ Below w.heap.size w w' := by
  have hu39 := Try.underlying39
  have HR0_1 := Aside0.mk hr0_1
  have HC0_1 := Aside0.mk hc0_1
  clear hr0_1 hc0_1
  have HB := Aside0.mk (Below.refl w.heap.size w)
  have H : ((spec_l10Whole.f a0_0 l0_1).bind fun bt240 => (some bt240.1)) = some r := h
  clear h
  replace H := Option.bind_eq_some_iff.mp H
  obtain ⟨⟨t240, t241⟩, A20, H⟩ := H
  replace H : (some t240) = some r := H
  have A2 := Aside0.mk A20
  clear A20
  obtain rfl := Option.some.inj H
  go_enter Try.func19, Try.ntmps19
  go_wp2_with (first | ((with_reducible refine gate_dst (N := 1) rfl ?_); refine box_event ?hg (N := 1) ?hd (cs := #[.int .i64 a0_0, .slice A0_1 l0_1.length c0_1]) (t := 39) ?hr ?_; (case hd => rfl); (case hg => rfl); (case hr => first | (go_simp; done) | (go_simp; rfl)); intro gb239 hg w3 hbox hb; have n0_ := Aside0.mk (below_step (by repeat (first | (with_reducible first | exact HB.out | apply below_alloc | apply pw_below_drewN | apply below_drew1) | exact HB.out)) hb); have n1_ := Aside0.mk ((by rw [hg]; exact (below_size (by repeat (first | (with_reducible first | exact HB.out | apply below_alloc | apply pw_below_drewN | apply below_drew1) | exact HB.out))) : w.heap.size ≤ gb239)); have n2_ := Aside0.mk ((by rw [hg]; exact (below_size (by repeat (first | (with_reducible first | exact HB.out | apply below_alloc | apply pw_below_drewN | apply below_drew1) | exact HB.out))) : w.heap.size ≤ gb239)); have n3_ := Aside0.mk ((⟨A0_1, c0_1, hbox, (by rw [hg]; exact (below_size (by repeat (first | (with_reducible first | exact HB.out | apply below_alloc | apply pw_below_drewN | apply below_drew1) | exact HB.out)))), HR0_1.out⟩ : IsS39 w w3 gb239 a0_0 l0_1)); clear HB; have HB := n0_; have GW239 := n1_; have GE239 := n2_; have HI239 := n3_; clear n0_ n1_ n2_ n3_; clear hb hbox hg) | ((with_reducible refine gate_callee (f := 46) rfl ?_); refine goesL_ (some 3) rfl rfl Try.func46 (by kernel_rfl) rfl #[.pointer (some ⟨gb239, 0, none⟩)] rfl (by (try simp only [List.map_toArray, List.map_cons, List.map_nil]); first | done | rfl | (simp only [List.length_drop, List.length_take]; rfl)) ?_; (with_reducible refine (spec_l10Whole.calls gb239 a0_0 l0_1 t240 t241 w _ ?side1 ?side2 A2.out).mono ?_); (case side1 => repeat (first | (with_reducible first | exact HI239.out | apply IsS39.alloc | apply IsS39.drewN | apply IsS39.drew | apply IsS39.set_0) | exact HI239.out)); (case side2 => repeat (first | (with_reducible first | exact HB.out | apply below_alloc | apply pw_below_drewN | apply below_drew1 | refine below_set ?_ (IsS39.ge HI239.out)) | exact HB.out)); rintro e w4 ⟨rfl, hi, hb, hk⟩; refine ⟨_, rfl, ?_⟩; have n0_ := Aside0.mk (hb); have n1_ := Aside0.mk (hi); clear HB; clear HI239; have HB := n0_; have HI239 := n1_; clear n0_ n1_; (try clear hb); (try clear hb2); (try clear hk); (try clear hi)))
  go_ret
  exact ⟨by first | rfl | (simp [errW_none, errW_some] <;> rfl) | (simp [*, errW_none, errW_some] <;> rfl), by repeat (first | (with_reducible first | exact HB.out | apply below_alloc | apply pw_below_drewN | apply below_drew1 | refine below_set ?_ (IsS39.ge HI239.out)) | exact HB.out)⟩

end Go.Proofs.Ytkkiagoacbhhjaa.Q

-- made by a patched copy of print.sh: this session's own
namespace Go.Proofs.Ytkkiagoacbhhjaa.Q
open Go.RowKit Go.Proofs.YtkkiagoacbhhjaaW.PrintWords Go.Proofs.YtkkiagoacbhhjaaW.PrintLast Go.Proofs.YtkkiagoacbhhjaaW.PrintMore
attribute [local go_sem] max2_int min2_int max_two min_two max_three min_three max_four min_four   -- for this text's walks alone
set_option linter.unusedVariables false
set_option linter.unusedSimpArgs false

/-! ### impl_Survey_tree: function 54 -/
mutual
def impl_Survey_tree.l0 : Nat → List Int → List Int → Int → Int → Int → List (S64) → Option (List Int × List Int)
  | 0, _, _, _, _, _, _ => none
  | k + 1, x4, x5, x15, x16, x274000, x274001 => if x16 < x15 then (if x5.length < 17592186044416 then (impl_Survey_tree.l0 k x4 (x5 ++ [x16]) x15 (wrap64 (x16 + 1)) x274000 x274001) else (none)) else (impl_Survey_tree.l1 k x4 x5 x274001 (x274001.length : Int) 0)
def impl_Survey_tree.l1 : Nat → List Int → List Int → List (S64) → Int → Int → Option (List Int × List Int)
  | 0, _, _, _, _, _ => none
  | k + 1, x4, x5, x25, x26, x27 => if x27 < x26 then (if 0 ≤ x27 then (if x27 < (x25.length : Int) then (if 0 ≤ ((rd_T64 x25 x27).f0) then (if ((rd_T64 x25 x27).f0) < (x5.length : Int) then (if 0 ≤ ((rd_T64 x25 x27).f1) then (if ((rd_T64 x25 x27).f1) < (x5.length : Int) then (if (rd x5 ((rd_T64 x25 x27).f0)) = (rd x5 ((rd_T64 x25 x27).f1)) then (impl_Survey_tree.l1 k x4 x5 x25 x26 (wrap64 (x27 + 1))) else (if x4.length < 17592186044416 then (impl_Survey_tree.l2 k (x4 ++ [x27]) x5 (rd x5 ((rd_T64 x25 x27).f0)) (rd x5 ((rd_T64 x25 x27).f1)) x25 x26 x27 (x5.length : Int) 0) else (none))) else (none)) else (none)) else (none)) else (none)) else (none)) else (none)) else (some (x4, x5))
def impl_Survey_tree.l2 : Nat → List Int → List Int → Int → Int → List (S64) → Int → Int → Int → Int → Option (List Int × List Int)
  | 0, _, _, _, _, _, _, _, _, _ => none
  | k + 1, x4, x5, x9, x10, x25, x26, x27, x50, x51 => if x51 < x50 then (if 0 ≤ x51 then (if x51 < (x5.length : Int) then (if (rd x5 x51) = x10 then (impl_Survey_tree.l2 k x4 (x5.set (x51 : Int).toNat x9) x9 x10 x25 x26 x27 x50 (wrap64 (x51 + 1))) else (impl_Survey_tree.l2 k x4 x5 x9 x10 x25 x26 x27 x50 (wrap64 (x51 + 1)))) else (none)) else (none)) else (impl_Survey_tree.l1 k x4 x5 x25 x26 (wrap64 (x27 + 1)))
end
def impl_Survey_tree.f (k : Nat) (a0_0 : Int) (l0_1 : List (S64)) : Option (List Int × List Int) := impl_Survey_tree.l0 k (([] : List Int)) (([] : List Int)) a0_0 0 a0_0 l0_1
theorem impl_Survey_tree.mono_l : ∀ k, (∀ y0 y1 y2 y3 y4 y5, LeO (impl_Survey_tree.l0 k y0 y1 y2 y3 y4 y5) (impl_Survey_tree.l0 (k + 1) y0 y1 y2 y3 y4 y5)) ∧ (∀ y0 y1 y2 y3 y4, LeO (impl_Survey_tree.l1 k y0 y1 y2 y3 y4) (impl_Survey_tree.l1 (k + 1) y0 y1 y2 y3 y4)) ∧ (∀ y0 y1 y2 y3 y4 y5 y6 y7 y8, LeO (impl_Survey_tree.l2 k y0 y1 y2 y3 y4 y5 y6 y7 y8) (impl_Survey_tree.l2 (k + 1) y0 y1 y2 y3 y4 y5 y6 y7 y8))
  | 0 => ⟨fun _ _ _ _ _ _ r h => by simp [impl_Survey_tree.l0] at h, fun _ _ _ _ _ r h => by simp [impl_Survey_tree.l1] at h, fun _ _ _ _ _ _ _ _ _ r h => by simp [impl_Survey_tree.l2] at h⟩
  | k + 1 => by
    obtain ⟨ih0, ih1, ih2⟩ := impl_Survey_tree.mono_l k
    refine ⟨?_, ?_, ?_⟩
    · intro y0 y1 y2 y3 y4 y5
      unfold impl_Survey_tree.l0
      repeat' first
      | (with_reducible exact ih0 _ _ _ _ _ _)
      | (with_reducible exact ih1 _ _ _ _ _)
      | (with_reducible exact ih2 _ _ _ _ _ _ _ _ _)
      | (with_reducible exact LeO.refl _)
      | (with_reducible exact LeO.none _)
      | (with_reducible refine LeO.ite ?_ ?_)
      | (with_reducible refine LeO.bind ?_ (fun _ => ?_))
      | exact ih0 _ _ _ _ _ _
      | exact ih1 _ _ _ _ _
      | exact ih2 _ _ _ _ _ _ _ _ _
      | exact LeO.none _
      | refine LeO.ite ?_ ?_
      | refine LeO.bind ?_ (fun _ => ?_)
    · intro y0 y1 y2 y3 y4
      unfold impl_Survey_tree.l1
      repeat' first
      | (with_reducible exact ih0 _ _ _ _ _ _)
      | (with_reducible exact ih1 _ _ _ _ _)
      | (with_reducible exact ih2 _ _ _ _ _ _ _ _ _)
      | (with_reducible exact LeO.refl _)
      | (with_reducible exact LeO.none _)
      | (with_reducible refine LeO.ite ?_ ?_)
      | (with_reducible refine LeO.bind ?_ (fun _ => ?_))
      | exact ih0 _ _ _ _ _ _
      | exact ih1 _ _ _ _ _
      | exact ih2 _ _ _ _ _ _ _ _ _
      | exact LeO.none _
      | refine LeO.ite ?_ ?_
      | refine LeO.bind ?_ (fun _ => ?_)
    · intro y0 y1 y2 y3 y4 y5 y6 y7 y8
      unfold impl_Survey_tree.l2
      repeat' first
      | (with_reducible exact ih0 _ _ _ _ _ _)
      | (with_reducible exact ih1 _ _ _ _ _)
      | (with_reducible exact ih2 _ _ _ _ _ _ _ _ _)
      | (with_reducible exact LeO.refl _)
      | (with_reducible exact LeO.none _)
      | (with_reducible refine LeO.ite ?_ ?_)
      | (with_reducible refine LeO.bind ?_ (fun _ => ?_))
      | exact ih0 _ _ _ _ _ _
      | exact ih1 _ _ _ _ _
      | exact ih2 _ _ _ _ _ _ _ _ _
      | exact LeO.none _
      | refine LeO.ite ?_ ?_
      | refine LeO.bind ?_ (fun _ => ?_)
theorem impl_Survey_tree.mono : ∀ a0 a1 k, LeO (impl_Survey_tree.f k a0 a1) (impl_Survey_tree.f (k + 1) a0 a1) := by
  intro a0 a1 k
  obtain ⟨ih0, ih1, ih2⟩ := impl_Survey_tree.mono_l k
  unfold impl_Survey_tree.f
  repeat' first
      | (with_reducible exact ih0 _ _ _ _ _ _)
      | (with_reducible exact ih1 _ _ _ _ _)
      | (with_reducible exact ih2 _ _ _ _ _ _ _ _ _)
      | (with_reducible exact LeO.refl _)
      | (with_reducible exact LeO.none _)
      | (with_reducible refine LeO.ite ?_ ?_)
      | (with_reducible refine LeO.bind ?_ (fun _ => ?_))
      | exact ih0 _ _ _ _ _ _
      | exact ih1 _ _ _ _ _
      | exact ih2 _ _ _ _ _ _ _ _ _
      | exact LeO.none _
      | refine LeO.ite ?_ ?_
      | refine LeO.bind ?_ (fun _ => ?_)
set_option maxHeartbeats 8000000 in
set_option maxRecDepth 100000 in
theorem impl_Survey_tree.calls (k : Nat) (a0_0 : Int) (A0_1 : Option Addr) (c0_1 : Nat) (l0_1 : List (S64)) (r1 : List Int) (r2 : List Int) (w : World) (hr0_1 : Kd.C k64 w A0_1 l0_1.length l0_1) (hc0_1 : l0_1.length ≤ c0_1) (h : impl_Survey_tree.f k a0_0 l0_1 = some (r1, r2)) :
    Calls Try.prog 54 #[.agg #[.int .i64 a0_0, .slice A0_1 l0_1.length c0_1]] w fun e w' => ∃ v0_ v1_ : Value, e = .returned (.tuple #[v0_, v1_]) ∧ Kd.R (Kd.int .i64) 2 w' w.heap.size (fun k_ => some k_ ≠ (v1_ : Value).ownBlock) v0_ r1 ∧ Kd.R (Kd.int .i64) 2 w' w.heap.size (fun k_ => some k_ ≠ (v0_ : Value).ownBlock) v1_ r2 ∧ Below w.heap.size w w' := by
  have hu39 := Try.underlying39
  have hu64 := Try.underlying64
  have HR0_1 := Aside0.mk hr0_1
  have HC0_1 := Aside0.mk hc0_1
  clear hr0_1 hc0_1
  have HB := Aside0.mk (Below.refl w.heap.size w)
  have H : (impl_Survey_tree.l0 k (([] : List Int)) (([] : List Int)) a0_0 0 a0_0 l0_1) = some (r1, r2) := h
  clear h
  obtain ⟨y274, hy274⟩ : ∃ y_ : List Int, y_ = (([] : List Int)) := ⟨_, rfl⟩
  replace H : (impl_Survey_tree.l0 k y274 (([] : List Int)) a0_0 0 a0_0 l0_1) = some (r1, r2) := by first | (rw [hy274]; with_reducible exact H) | (have H2_ := (Option.bind_some _ _).symm.trans H; rw [hy274]; with_reducible exact H2_) | (have H2_ := (Option.bind_some _ _).symm.trans H; with_reducible exact H2_) | with_reducible exact H | (rw [hy274]; exact H) | exact H
  have Ny274 := Aside0.mk hy274
  clear hy274
  obtain ⟨y277, hy277⟩ : ∃ y_ : List Int, y_ = (([] : List Int)) := ⟨_, rfl⟩
  replace H : (impl_Survey_tree.l0 k y274 y277 a0_0 0 a0_0 l0_1) = some (r1, r2) := by first | (rw [hy277]; with_reducible exact H) | (have H2_ := (Option.bind_some _ _).symm.trans H; rw [hy277]; with_reducible exact H2_) | (have H2_ := (Option.bind_some _ _).symm.trans H; with_reducible exact H2_) | with_reducible exact H | (rw [hy277]; exact H) | exact H
  have Ny277 := Aside0.mk hy277
  clear hy277
  have H' := Aside0.mk H
  clear H
  go_enter Try.func54, Try.ntmps54
  go_wp2_with (first | ((with_reducible refine gate_dst (N := 1) rfl ?_); refine box_event ?hg (N := 1) ?hd (cs := #[.int .i64 a0_0, .slice A0_1 l0_1.length c0_1]) (t := 39) ?hr ?_; (case hd => rfl); (case hg => rfl); (case hr => first | (go_simp; done) | (go_simp; rfl)); intro gb273 hg w2 hbox hb; have n0_ := Aside0.mk (below_step (by repeat (first | (with_reducible first | exact HB.out | apply below_alloc | apply pw_below_drewN | apply below_drew1) | exact HB.out)) hb); have n1_ := Aside0.mk (hbox); have n2_ := Aside0.mk ((by rw [hg]; exact (below_size (by repeat (first | (with_reducible first | exact HB.out | apply below_alloc | apply pw_below_drewN | apply below_drew1) | exact HB.out))) : w.heap.size ≤ gb273)); have n3_ := Aside0.mk ((by rw [hg]; exact (below_size (by repeat (first | (with_reducible first | exact HB.out | apply below_alloc | apply pw_below_drewN | apply below_drew1) | exact HB.out))) : w.heap.size ≤ gb273)); clear HB; have HB := n0_; have BK273 := n1_; have GW273 := n2_; have GE273 := n3_; clear n0_ n1_ n2_ n3_; clear hb hbox hg) | ((with_reducible refine gate_dst (N := 12) rfl ?_); refine Kd.R_lit (Kd.int .i64) _ 2 ?hg (N := 12) ?hd (xs := ([] : List Int)) (inner := []) (ok := fun _ => True) (okp := fun _ => True) ?hr ?hp (fun _ hk => hk) trivial (Below.refl _ _) (Nat.le_refl _) (by simp) ?_; (case hd => rfl); (case hg => rfl); (case hr => first | (go_simp; done) | (go_simp; rfl)); (case hp => exact (Reps.none _ _)); intro v275 w3 ho4 hb hg_ hnew_; clear hg_ hnew_; (first | rw [← Ny274.out] at ho4 | (simp only [Int.reduceToNat] at ho4; rw [← Ny274.out] at ho4)); have n0_ := Aside0.mk (Kd.R_lower ho4 (below_size (by repeat (first | (with_reducible first | exact HB.out | apply below_alloc | apply pw_below_drewN | apply below_drew1 | refine below_set ?_ GE273.out) | exact HB.out)))); have n1_ := Aside0.mk (blk_below (g := gb273) (o := .cells #[.int .i64 a0_0, .slice A0_1 l0_1.length c0_1] 39 (0, 0)) (by (with_reducible repeat (first | refine blk_drewN ?_ _ | refine blk_drew ?_ | refine blk_alloc ?_ _)); exact BK273.out) hb); have n2_ := Aside0.mk (below_step (by repeat (first | (with_reducible first | exact HB.out | apply below_alloc | apply pw_below_drewN | apply below_drew1 | refine below_set ?_ GE273.out) | exact HB.out)) hb); clear BK273; clear HB; have HO276 := n0_; have BK273 := n1_; have HB := n2_; clear n0_ n1_ n2_; clear hb ho4) | ((with_reducible refine gate_dst (N := 13) rfl ?_); refine Kd.R_lit (Kd.int .i64) _ 2 ?hg (N := 13) ?hd (xs := ([] : List Int)) (inner := []) (ok := fun _ => True) (okp := fun _ => True) ?hr ?hp (fun _ hk => hk) trivial (Below.refl _ _) (Nat.le_refl _) (by simp) ?_; (case hd => rfl); (case hg => rfl); (case hr => first | (go_simp; done) | (go_simp; rfl)); (case hp => exact (Reps.none _ _)); intro v278 w5 ho6 hb hg_ hnew_; clear hg_ hnew_; (first | rw [← Ny277.out] at ho6 | (simp only [Int.reduceToNat] at ho6; rw [← Ny277.out] at ho6)); have n0_ := Aside0.mk (Kd.R_elder' (by (with_reducible repeat (first | apply Kd.R_alloc | apply Kd.R_drewN | apply Kd.R_drew)); exact HO276.out) (Kd.R_base ho6) hb); have n1_ := Aside0.mk (Kd.R_lower (Kd.R_new' ho6 (Kd.R_lt (by (with_reducible repeat (first | apply Kd.R_alloc | apply Kd.R_drewN | apply Kd.R_drew)); exact HO276.out))) (below_size (by repeat (first | (with_reducible first | exact HB.out | apply below_alloc | apply pw_below_drewN | apply below_drew1 | refine below_set ?_ GE273.out) | exact HB.out)))); have n2_ := Aside0.mk (blk_below (g := gb273) (o := .cells #[.int .i64 a0_0, .slice A0_1 l0_1.length c0_1] 39 (0, 0)) (by (with_reducible repeat (first | refine blk_drewN ?_ _ | refine blk_drew ?_ | refine blk_alloc ?_ _)); exact BK273.out) hb); have n3_ := Aside0.mk (below_step (by repeat (first | (with_reducible first | exact HB.out | apply below_alloc | apply pw_below_drewN | apply below_drew1 | refine below_set ?_ GE273.out) | exact HB.out)) hb); clear HO276; clear BK273; clear HB; have HO276 := n0_; have HO279 := n1_; have BK273 := n2_; have HB := n3_; clear n0_ n1_ n2_ n3_; clear hb ho6; have hcz7_0 : w5.cell? ⟨gb273, 0, none⟩ = some (.int .i64 a0_0) := (blk_cell BK273.out 0).trans rfl; have hcz7_1 : w5.cell? ⟨gb273, 1, none⟩ = some (.slice A0_1 l0_1.length c0_1) := (blk_cell BK273.out 1).trans rfl; have hfz7_0 := blk_frozen BK273.out 0; have hfz7_1 := blk_frozen BK273.out 1))
  repeat (go_quiet (first | ((with_reducible refine gate_dst (N := 1) rfl ?_); refine box_event ?hg (N := 1) ?hd (cs := #[.int .i64 a0_0, .slice A0_1 l0_1.length c0_1]) (t := 39) ?hr ?_; (case hd => rfl); (case hg => rfl); (case hr => first | (go_simp; done) | (go_simp; rfl)); intro gb273 hg w2 hbox hb; have n0_ := Aside0.mk (below_step (by repeat (first | (with_reducible first | exact HB.out | apply below_alloc | apply pw_below_drewN | apply below_drew1) | exact HB.out)) hb); have n1_ := Aside0.mk (hbox); have n2_ := Aside0.mk ((by rw [hg]; exact (below_size (by repeat (first | (with_reducible first | exact HB.out | apply below_alloc | apply pw_below_drewN | apply below_drew1) | exact HB.out))) : w.heap.size ≤ gb273)); have n3_ := Aside0.mk ((by rw [hg]; exact (below_size (by repeat (first | (with_reducible first | exact HB.out | apply below_alloc | apply pw_below_drewN | apply below_drew1) | exact HB.out))) : w.heap.size ≤ gb273)); clear HB; have HB := n0_; have BK273 := n1_; have GW273 := n2_; have GE273 := n3_; clear n0_ n1_ n2_ n3_; clear hb hbox hg) | ((with_reducible refine gate_dst (N := 12) rfl ?_); refine Kd.R_lit (Kd.int .i64) _ 2 ?hg (N := 12) ?hd (xs := ([] : List Int)) (inner := []) (ok := fun _ => True) (okp := fun _ => True) ?hr ?hp (fun _ hk => hk) trivial (Below.refl _ _) (Nat.le_refl _) (by simp) ?_; (case hd => rfl); (case hg => rfl); (case hr => first | (go_simp; done) | (go_simp; rfl)); (case hp => exact (Reps.none _ _)); intro v275 w3 ho4 hb hg_ hnew_; clear hg_ hnew_; (first | rw [← Ny274.out] at ho4 | (simp only [Int.reduceToNat] at ho4; rw [← Ny274.out] at ho4)); have n0_ := Aside0.mk (Kd.R_lower ho4 (below_size (by repeat (first | (with_reducible first | exact HB.out | apply below_alloc | apply pw_below_drewN | apply below_drew1 | refine below_set ?_ GE273.out) | exact HB.out)))); have n1_ := Aside0.mk (blk_below (g := gb273) (o := .cells #[.int .i64 a0_0, .slice A0_1 l0_1.length c0_1] 39 (0, 0)) (by (with_reducible repeat (first | refine blk_drewN ?_ _ | refine blk_drew ?_ | refine blk_alloc ?_ _)); exact BK273.out) hb); have n2_ := Aside0.mk (below_step (by repeat (first | (with_reducible first | exact HB.out | apply below_alloc | apply pw_below_drewN | apply below_drew1 | refine below_set ?_ GE273.out) | exact HB.out)) hb); clear BK273; clear HB; have HO276 := n0_; have BK273 := n1_; have HB := n2_; clear n0_ n1_ n2_; clear hb ho4) | ((with_reducible refine gate_dst (N := 13) rfl ?_); refine Kd.R_lit (Kd.int .i64) _ 2 ?hg (N := 13) ?hd (xs := ([] : List Int)) (inner := []) (ok := fun _ => True) (okp := fun _ => True) ?hr ?hp (fun _ hk => hk) trivial (Below.refl _ _) (Nat.le_refl _) (by simp) ?_; (case hd => rfl); (case hg => rfl); (case hr => first | (go_simp; done) | (go_simp; rfl)); (case hp => exact (Reps.none _ _)); intro v278 w5 ho6 hb hg_ hnew_; clear hg_ hnew_; (first | rw [← Ny277.out] at ho6 | (simp only [Int.reduceToNat] at ho6; rw [← Ny277.out] at ho6)); have n0_ := Aside0.mk (Kd.R_elder' (by (with_reducible repeat (first | apply Kd.R_alloc | apply Kd.R_drewN | apply Kd.R_drew)); exact HO276.out) (Kd.R_base ho6) hb); have n1_ := Aside0.mk (Kd.R_lower (Kd.R_new' ho6 (Kd.R_lt (by (with_reducible repeat (first | apply Kd.R_alloc | apply Kd.R_drewN | apply Kd.R_drew)); exact HO276.out))) (below_size (by repeat (first | (with_reducible first | exact HB.out | apply below_alloc | apply pw_below_drewN | apply below_drew1 | refine below_set ?_ GE273.out) | exact HB.out)))); have n2_ := Aside0.mk (blk_below (g := gb273) (o := .cells #[.int .i64 a0_0, .slice A0_1 l0_1.length c0_1] 39 (0, 0)) (by (with_reducible repeat (first | refine blk_drewN ?_ _ | refine blk_drew ?_ | refine blk_alloc ?_ _)); exact BK273.out) hb); have n3_ := Aside0.mk (below_step (by repeat (first | (with_reducible first | exact HB.out | apply below_alloc | apply pw_below_drewN | apply below_drew1 | refine below_set ?_ GE273.out) | exact HB.out)) hb); clear HO276; clear BK273; clear HB; have HO276 := n0_; have HO279 := n1_; have BK273 := n2_; have HB := n3_; clear n0_ n1_ n2_ n3_; clear hb ho6; have hcz7_0 : w5.cell? ⟨gb273, 0, none⟩ = some (.int .i64 a0_0) := (blk_cell BK273.out 0).trans rfl; have hcz7_1 : w5.cell? ⟨gb273, 1, none⟩ = some (.slice A0_1 l0_1.length c0_1) := (blk_cell BK273.out 1).trans rfl; have hfz7_0 := blk_frozen BK273.out 0; have hfz7_1 := blk_frozen BK273.out 1)); try go_wp2_with (first | ((with_reducible refine gate_dst (N := 1) rfl ?_); refine box_event ?hg (N := 1) ?hd (cs := #[.int .i64 a0_0, .slice A0_1 l0_1.length c0_1]) (t := 39) ?hr ?_; (case hd => rfl); (case hg => rfl); (case hr => first | (go_simp; done) | (go_simp; rfl)); intro gb273 hg w2 hbox hb; have n0_ := Aside0.mk (below_step (by repeat (first | (with_reducible first | exact HB.out | apply below_alloc | apply pw_below_drewN | apply below_drew1) | exact HB.out)) hb); have n1_ := Aside0.mk (hbox); have n2_ := Aside0.mk ((by rw [hg]; exact (below_size (by repeat (first | (with_reducible first | exact HB.out | apply below_alloc | apply pw_below_drewN | apply below_drew1) | exact HB.out))) : w.heap.size ≤ gb273)); have n3_ := Aside0.mk ((by rw [hg]; exact (below_size (by repeat (first | (with_reducible first | exact HB.out | apply below_alloc | apply pw_below_drewN | apply below_drew1) | exact HB.out))) : w.heap.size ≤ gb273)); clear HB; have HB := n0_; have BK273 := n1_; have GW273 := n2_; have GE273 := n3_; clear n0_ n1_ n2_ n3_; clear hb hbox hg) | ((with_reducible refine gate_dst (N := 12) rfl ?_); refine Kd.R_lit (Kd.int .i64) _ 2 ?hg (N := 12) ?hd (xs := ([] : List Int)) (inner := []) (ok := fun _ => True) (okp := fun _ => True) ?hr ?hp (fun _ hk => hk) trivial (Below.refl _ _) (Nat.le_refl _) (by simp) ?_; (case hd => rfl); (case hg => rfl); (case hr => first | (go_simp; done) | (go_simp; rfl)); (case hp => exact (Reps.none _ _)); intro v275 w3 ho4 hb hg_ hnew_; clear hg_ hnew_; (first | rw [← Ny274.out] at ho4 | (simp only [Int.reduceToNat] at ho4; rw [← Ny274.out] at ho4)); have n0_ := Aside0.mk (Kd.R_lower ho4 (below_size (by repeat (first | (with_reducible first | exact HB.out | apply below_alloc | apply pw_below_drewN | apply below_drew1 | refine below_set ?_ GE273.out) | exact HB.out)))); have n1_ := Aside0.mk (blk_below (g := gb273) (o := .cells #[.int .i64 a0_0, .slice A0_1 l0_1.length c0_1] 39 (0, 0)) (by (with_reducible repeat (first | refine blk_drewN ?_ _ | refine blk_drew ?_ | refine blk_alloc ?_ _)); exact BK273.out) hb); have n2_ := Aside0.mk (below_step (by repeat (first | (with_reducible first | exact HB.out | apply below_alloc | apply pw_below_drewN | apply below_drew1 | refine below_set ?_ GE273.out) | exact HB.out)) hb); clear BK273; clear HB; have HO276 := n0_; have BK273 := n1_; have HB := n2_; clear n0_ n1_ n2_; clear hb ho4) | ((with_reducible refine gate_dst (N := 13) rfl ?_); refine Kd.R_lit (Kd.int .i64) _ 2 ?hg (N := 13) ?hd (xs := ([] : List Int)) (inner := []) (ok := fun _ => True) (okp := fun _ => True) ?hr ?hp (fun _ hk => hk) trivial (Below.refl _ _) (Nat.le_refl _) (by simp) ?_; (case hd => rfl); (case hg => rfl); (case hr => first | (go_simp; done) | (go_simp; rfl)); (case hp => exact (Reps.none _ _)); intro v278 w5 ho6 hb hg_ hnew_; clear hg_ hnew_; (first | rw [← Ny277.out] at ho6 | (simp only [Int.reduceToNat] at ho6; rw [← Ny277.out] at ho6)); have n0_ := Aside0.mk (Kd.R_elder' (by (with_reducible repeat (first | apply Kd.R_alloc | apply Kd.R_drewN | apply Kd.R_drew)); exact HO276.out) (Kd.R_base ho6) hb); have n1_ := Aside0.mk (Kd.R_lower (Kd.R_new' ho6 (Kd.R_lt (by (with_reducible repeat (first | apply Kd.R_alloc | apply Kd.R_drewN | apply Kd.R_drew)); exact HO276.out))) (below_size (by repeat (first | (with_reducible first | exact HB.out | apply below_alloc | apply pw_below_drewN | apply below_drew1 | refine below_set ?_ GE273.out) | exact HB.out)))); have n2_ := Aside0.mk (blk_below (g := gb273) (o := .cells #[.int .i64 a0_0, .slice A0_1 l0_1.length c0_1] 39 (0, 0)) (by (with_reducible repeat (first | refine blk_drewN ?_ _ | refine blk_drew ?_ | refine blk_alloc ?_ _)); exact BK273.out) hb); have n3_ := Aside0.mk (below_step (by repeat (first | (with_reducible first | exact HB.out | apply below_alloc | apply pw_below_drewN | apply below_drew1 | refine below_set ?_ GE273.out) | exact HB.out)) hb); clear HO276; clear BK273; clear HB; have HO276 := n0_; have HO279 := n1_; have BK273 := n2_; have HB := n3_; clear n0_ n1_ n2_ n3_; clear hb ho6; have hcz7_0 : w5.cell? ⟨gb273, 0, none⟩ = some (.int .i64 a0_0) := (blk_cell BK273.out 0).trans rfl; have hcz7_1 : w5.cell? ⟨gb273, 1, none⟩ = some (.slice A0_1 l0_1.length c0_1) := (blk_cell BK273.out 1).trans rfl; have hfz7_0 := blk_frozen BK273.out 0; have hfz7_1 := blk_frozen BK273.out 1)))
  go_loopg [5, 16] k (fun kq v5 v16 w' => ∃ (x5_1 : List Int) (x16_1 : Int), v16 = .int .i64 x16_1 ∧ Aside0 (impl_Survey_tree.l0 kq y274 x5_1 a0_0 x16_1 a0_0 l0_1 = some (r1, r2)) ∧ Aside0 (kq ≤ k) ∧ Aside0 (Kd.R (Kd.int .i64) 2 w' w.heap.size (fun k_ => some k_ ≠ (v5 : Value).ownBlock) v275 y274) ∧ Aside0 (Kd.R (Kd.int .i64) 2 w' w.heap.size (fun k_ => some k_ ≠ (v275 : Value).ownBlock) v5 x5_1) ∧ Aside0 (w'.heap[gb273]? = some (.cells #[.int .i64 a0_0, (.slice A0_1 l0_1.length c0_1)] 39 (0, 0))) ∧ Aside0 (Below w.heap.size w w'))
  case atStart => exact ⟨(y277), (0), (by first | rfl | (simp; done) | (simp [*]; done)), H', ⟨Nat.le_refl _⟩, ⟨by (with_reducible repeat (first | apply Kd.R_alloc | apply Kd.R_drewN | apply Kd.R_drew)); exact Kd.R_mono HO276.out (fun _ hk => hk.2)⟩, ⟨by (with_reducible repeat (first | apply Kd.R_alloc | apply Kd.R_drewN | apply Kd.R_drew)); exact Kd.R_mono HO279.out (fun _ hk => hk.2)⟩, ⟨by (with_reducible repeat (first | refine blk_drewN ?_ _ | refine blk_drew ?_ | refine blk_alloc ?_ _)); exact BK273.out⟩, ⟨by repeat (first | (with_reducible first | exact HB.out | apply below_alloc | apply pw_below_drewN | apply below_drew1 | refine below_set ?_ GE273.out) | exact HB.out)⟩⟩
  case round =>
    clear H'
    try clear p2
    try clear c5
    try clear hcz7_0
    try clear hcz7_1
    try clear hfz7_0
    try clear hfz7_1
    obtain ⟨x5_1, x16_1, rfl, HA, HK1, HO_4, HO_5, BK273, HB⟩ := hrel
    cases gk with
    | zero => exact absurd HA.out (by simp [impl_Survey_tree.l0])
    | succ k1 =>
      have H := HA.out
      clear HA
      simp only [impl_Survey_tree.l0] at H
      by_cases c8 : x16_1 < a0_0
      · rw [if_pos c8] at H
        have c8b0 : decide (x16_1 < a0_0) = true := decide_eq_true c8
        clear c8
        by_cases c9 : x5_1.length < 17592186044416
        · rw [if_pos c9] at H
          have LMc9 := Aside0.mk c9
          clear c9
          obtain ⟨y280, hy280⟩ : ∃ y_ : List Int, y_ = (x5_1 ++ [x16_1]) := ⟨_, rfl⟩
          replace H : (impl_Survey_tree.l0 k1 y274 y280 a0_0 (wrap64 (x16_1 + 1)) a0_0 l0_1) = some (r1, r2) := by first | (rw [hy280]; with_reducible exact H) | (have H2_ := (Option.bind_some _ _).symm.trans H; rw [hy280]; with_reducible exact H2_) | (have H2_ := (Option.bind_some _ _).symm.trans H; with_reducible exact H2_) | with_reducible exact H | (rw [hy280]; exact H) | exact H
          have Ny280 := Aside0.mk hy280
          clear hy280
          have H' := Aside0.mk H
          clear H
          go_wp2_with (first | ((with_reducible refine gate_builtin (b := .append) (xs := #[.tmp 19, .tmp 21]) rfl ?_); at_builtin; refine Kd.R_append (Kd.int .i64) (w0 := w) w.heap.size rfl (.tmp 19) (.tmp 21) 47 2 (.int .i64 0) 8 rfl Try.underlying47 info2 rfl (by decide) (by omega) u5 x5_1 x16_1 [.int .i64 x16_1] (fun k_ => some k_ ≠ (v275 : Value).ownBlock) (fun _ => False) rfl rfl ?aP (fun _ hk => hk.elim) ?aF ?aO ?aB ?aS ?aL ?_; (case aP => exact rfl); (case aB => exact (by repeat (first | (with_reducible first | exact HB.out | apply below_alloc | apply pw_below_drewN | apply below_drew1 | refine below_set ?_ GE273.out) | exact HB.out))); (case aF => exact (fun k_ hk => Kd.fresh' (Kd.R_lt (by (with_reducible repeat (first | apply Kd.R_alloc | apply Kd.R_drewN | apply Kd.R_drew)); exact HO_4.out)) k_ hk)); (case aO => exact (by (with_reducible repeat (first | apply Kd.R_alloc | apply Kd.R_drewN | apply Kd.R_drew)); exact HO_5.out)); (case aS => exact (below_size (by repeat (first | (with_reducible first | exact HB.out | apply below_alloc | apply pw_below_drewN | apply below_drew1 | refine below_set ?_ GE273.out) | exact HB.out)))); (case aL => have := LMc9.out; omega); intro v281 w10 ho hb hg hat; rw [← Ny280.out] at ho; have n0_ := Aside0.mk (Kd.R_after (ok := (fun _ => True)) (by (with_reducible repeat (first | apply Kd.R_alloc | apply Kd.R_drewN | apply Kd.R_drew)); exact Kd.R_mono HO_4.out (fun _ hk => ⟨trivial, hk⟩)) hg hat); have n1_ := Aside0.mk (blk_grown (g := gb273) (o := .cells #[.int .i64 a0_0, .slice A0_1 l0_1.length c0_1] 39 (0, 0)) (by (with_reducible repeat (first | refine blk_drewN ?_ _ | refine blk_drew ?_ | refine blk_alloc ?_ _)); exact BK273.out) hg (Kd.R_ne HO_5.out BK273.out (by decide))); have n2_ := Aside0.mk (hb); have n3_ := Aside0.mk (ho); clear HO_4; clear BK273; clear HB; clear HO_5; have HO_4 := n0_; have BK273 := n1_; have HB := n2_; have HO282 := n3_; clear n0_ n1_ n2_ n3_; clear ho hb hg hat))
          repeat (go_quiet (first | ((with_reducible refine gate_builtin (b := .append) (xs := #[.tmp 19, .tmp 21]) rfl ?_); at_builtin; refine Kd.R_append (Kd.int .i64) (w0 := w) w.heap.size rfl (.tmp 19) (.tmp 21) 47 2 (.int .i64 0) 8 rfl Try.underlying47 info2 rfl (by decide) (by omega) u5 x5_1 x16_1 [.int .i64 x16_1] (fun k_ => some k_ ≠ (v275 : Value).ownBlock) (fun _ => False) rfl rfl ?aP (fun _ hk => hk.elim) ?aF ?aO ?aB ?aS ?aL ?_; (case aP => exact rfl); (case aB => exact (by repeat (first | (with_reducible first | exact HB.out | apply below_alloc | apply pw_below_drewN | apply below_drew1 | refine below_set ?_ GE273.out) | exact HB.out))); (case aF => exact (fun k_ hk => Kd.fresh' (Kd.R_lt (by (with_reducible repeat (first | apply Kd.R_alloc | apply Kd.R_drewN | apply Kd.R_drew)); exact HO_4.out)) k_ hk)); (case aO => exact (by (with_reducible repeat (first | apply Kd.R_alloc | apply Kd.R_drewN | apply Kd.R_drew)); exact HO_5.out)); (case aS => exact (below_size (by repeat (first | (with_reducible first | exact HB.out | apply below_alloc | apply pw_below_drewN | apply below_drew1 | refine below_set ?_ GE273.out) | exact HB.out)))); (case aL => have := LMc9.out; omega); intro v281 w10 ho hb hg hat; rw [← Ny280.out] at ho; have n0_ := Aside0.mk (Kd.R_after (ok := (fun _ => True)) (by (with_reducible repeat (first | apply Kd.R_alloc | apply Kd.R_drewN | apply Kd.R_drew)); exact Kd.R_mono HO_4.out (fun _ hk => ⟨trivial, hk⟩)) hg hat); have n1_ := Aside0.mk (blk_grown (g := gb273) (o := .cells #[.int .i64 a0_0, .slice A0_1 l0_1.length c0_1] 39 (0, 0)) (by (with_reducible repeat (first | refine blk_drewN ?_ _ | refine blk_drew ?_ | refine blk_alloc ?_ _)); exact BK273.out) hg (Kd.R_ne HO_5.out BK273.out (by decide))); have n2_ := Aside0.mk (hb); have n3_ := Aside0.mk (ho); clear HO_4; clear BK273; clear HB; clear HO_5; have HO_4 := n0_; have BK273 := n1_; have HB := n2_; have HO282 := n3_; clear n0_ n1_ n2_ n3_; clear ho hb hg hat)); try go_wp2_with (first | ((with_reducible refine gate_builtin (b := .append) (xs := #[.tmp 19, .tmp 21]) rfl ?_); at_builtin; refine Kd.R_append (Kd.int .i64) (w0 := w) w.heap.size rfl (.tmp 19) (.tmp 21) 47 2 (.int .i64 0) 8 rfl Try.underlying47 info2 rfl (by decide) (by omega) u5 x5_1 x16_1 [.int .i64 x16_1] (fun k_ => some k_ ≠ (v275 : Value).ownBlock) (fun _ => False) rfl rfl ?aP (fun _ hk => hk.elim) ?aF ?aO ?aB ?aS ?aL ?_; (case aP => exact rfl); (case aB => exact (by repeat (first | (with_reducible first | exact HB.out | apply below_alloc | apply pw_below_drewN | apply below_drew1 | refine below_set ?_ GE273.out) | exact HB.out))); (case aF => exact (fun k_ hk => Kd.fresh' (Kd.R_lt (by (with_reducible repeat (first | apply Kd.R_alloc | apply Kd.R_drewN | apply Kd.R_drew)); exact HO_4.out)) k_ hk)); (case aO => exact (by (with_reducible repeat (first | apply Kd.R_alloc | apply Kd.R_drewN | apply Kd.R_drew)); exact HO_5.out)); (case aS => exact (below_size (by repeat (first | (with_reducible first | exact HB.out | apply below_alloc | apply pw_below_drewN | apply below_drew1 | refine below_set ?_ GE273.out) | exact HB.out)))); (case aL => have := LMc9.out; omega); intro v281 w10 ho hb hg hat; rw [← Ny280.out] at ho; have n0_ := Aside0.mk (Kd.R_after (ok := (fun _ => True)) (by (with_reducible repeat (first | apply Kd.R_alloc | apply Kd.R_drewN | apply Kd.R_drew)); exact Kd.R_mono HO_4.out (fun _ hk => ⟨trivial, hk⟩)) hg hat); have n1_ := Aside0.mk (blk_grown (g := gb273) (o := .cells #[.int .i64 a0_0, .slice A0_1 l0_1.length c0_1] 39 (0, 0)) (by (with_reducible repeat (first | refine blk_drewN ?_ _ | refine blk_drew ?_ | refine blk_alloc ?_ _)); exact BK273.out) hg (Kd.R_ne HO_5.out BK273.out (by decide))); have n2_ := Aside0.mk (hb); have n3_ := Aside0.mk (ho); clear HO_4; clear BK273; clear HB; clear HO_5; have HO_4 := n0_; have BK273 := n1_; have HB := n2_; have HO282 := n3_; clear n0_ n1_ n2_ n3_; clear ho hb hg hat)))
          go_roundg k1
          case measure => have := HK1.out; omega
          case rel => exact ⟨(y280), (wrap64 (x16_1 + 1)), (by first | rfl | (simp; done) | (simp [*]; done)), H', ⟨by have := HK1.out; omega⟩, ⟨by (with_reducible repeat (first | apply Kd.R_alloc | apply Kd.R_drewN | apply Kd.R_drew)); exact Kd.R_mono HO_4.out (fun _ hk => hk.2)⟩, ⟨by (with_reducible repeat (first | apply Kd.R_alloc | apply Kd.R_drewN | apply Kd.R_drew)); exact HO282.out⟩, ⟨by (with_reducible repeat (first | refine blk_drewN ?_ _ | refine blk_drew ?_ | refine blk_alloc ?_ _)); exact BK273.out⟩, ⟨by repeat (first | (with_reducible first | exact HB.out | apply below_alloc | apply pw_below_drewN | apply below_drew1 | refine below_set ?_ GE273.out) | exact HB.out)⟩⟩
        · rw [if_neg c9] at H
          exact absurd H (by simp)
      · rw [if_neg c8] at H
        have c8b0 : decide (x16_1 < a0_0) = false := decide_eq_false c8
        clear c8
        have H' := Aside0.mk H
        clear H
        have hcz11_0 : wr.cell? ⟨gb273, 0, none⟩ = some (.int .i64 a0_0) := (blk_cell BK273.out 0).trans rfl
        have hcz11_1 : wr.cell? ⟨gb273, 1, none⟩ = some (.slice A0_1 l0_1.length c0_1) := (blk_cell BK273.out 1).trans rfl
        have hfz11_0 := blk_frozen BK273.out 0
        have hfz11_1 := blk_frozen BK273.out 1
        go_wp2
        repeat (go_quiet (fail); try go_wp2)
        go_loopg [4, 27] k1 (fun kq v4 v27 w' => ∃ (x4_2 : List Int) (x5_2 : List Int) (x27_2 : Int), v27 = .int .i64 x27_2 ∧ Aside0 (impl_Survey_tree.l1 kq x4_2 x5_2 l0_1 (l0_1.length : Int) x27_2 = some (r1, r2)) ∧ Aside0 (kq ≤ k1) ∧ Aside0 (Kd.R (Kd.int .i64) 2 w' w.heap.size (fun k_ => some k_ ≠ (u5 : Value).ownBlock) v4 x4_2) ∧ Aside0 (Kd.R (Kd.int .i64) 2 w' w.heap.size (fun k_ => some k_ ≠ (v4 : Value).ownBlock) u5 x5_2) ∧ Aside0 (w'.heap[gb273]? = some (.cells #[.int .i64 a0_0, (.slice A0_1 l0_1.length c0_1)] 39 (0, 0))) ∧ Aside0 (Below w.heap.size w w'))
        case atStart => exact ⟨(y274), (x5_1), (0), (by first | rfl | (simp; done) | (simp [*]; done)), H', ⟨Nat.le_refl _⟩, ⟨by (with_reducible repeat (first | apply Kd.R_alloc | apply Kd.R_drewN | apply Kd.R_drew)); exact HO_4.out⟩, ⟨by (with_reducible repeat (first | apply Kd.R_alloc | apply Kd.R_drewN | apply Kd.R_drew)); exact HO_5.out⟩, ⟨by (with_reducible repeat (first | refine blk_drewN ?_ _ | refine blk_drew ?_ | refine blk_alloc ?_ _)); exact BK273.out⟩, ⟨by repeat (first | (with_reducible first | exact HB.out | apply below_alloc | apply pw_below_drewN | apply below_drew1 | refine below_set ?_ GE273.out) | exact HB.out)⟩⟩
        case round =>
          clear H'
          try clear p2
          try clear c5
          try clear p6
          try clear c8
          try clear c8b0
          try clear c9
          try clear hcz11_0
          try clear hcz11_1
          try clear hcz7_0
          try clear hcz7_1
          try clear hfz11_0
          try clear hfz11_1
          try clear hfz7_0
          try clear hfz7_1
          try clear p2
          obtain ⟨x4_2, x5_2, x27_2, rfl, HA, HK2, HO_4, HO_5, BK273, HB⟩ := hrel
          cases gk with
          | zero => exact absurd HA.out (by simp [impl_Survey_tree.l1])
          | succ k2 =>
            have H := HA.out
            clear HA
            simp only [impl_Survey_tree.l1] at H
            by_cases c12 : x27_2 < (l0_1.length : Int)
            · rw [if_pos c12] at H
              have c12b0 : decide (x27_2 < (l0_1.length : Int)) = true := decide_eq_true c12
              clear c12
              by_cases c13 : 0 ≤ x27_2
              · rw [if_pos c13] at H
                have c13b0 : decide (0 ≤ x27_2) = true := decide_eq_true c13
                clear c13
                by_cases c14 : x27_2 < (l0_1.length : Int)
                · rw [if_pos c14] at H
                  have c14b0 : decide (x27_2 < (l0_1.length : Int)) = true := decide_eq_true c14
                  clear c14
                  by_cases c15 : 0 ≤ ((rd_T64 l0_1 x27_2).f0)
                  · rw [if_pos c15] at H
                    have c15b0 : decide (0 ≤ ((rd_T64 l0_1 x27_2).f0)) = true := decide_eq_true c15
                    clear c15
                    by_cases c16 : ((rd_T64 l0_1 x27_2).f0) < (x5_2.length : Int)
                    · rw [if_pos c16] at H
                      have c16b0 : decide (((rd_T64 l0_1 x27_2).f0) < (x5_2.length : Int)) = true := decide_eq_true c16
                      clear c16
                      by_cases c17 : 0 ≤ ((rd_T64 l0_1 x27_2).f1)
                      · rw [if_pos c17] at H
                        have c17b0 : decide (0 ≤ ((rd_T64 l0_1 x27_2).f1)) = true := decide_eq_true c17
                        clear c17
                        by_cases c18 : ((rd_T64 l0_1 x27_2).f1) < (x5_2.length : Int)
                        · rw [if_pos c18] at H
                          have c18b0 : decide (((rd_T64 l0_1 x27_2).f1) < (x5_2.length : Int)) = true := decide_eq_true c18
                          clear c18
                          by_cases c19 : (rd x5_2 ((rd_T64 l0_1 x27_2).f0)) = (rd x5_2 ((rd_T64 l0_1 x27_2).f1))
                          · rw [if_pos c19] at H
                            have c19b0 : ((rd x5_2 ((rd_T64 l0_1 x27_2).f0)) == (rd x5_2 ((rd_T64 l0_1 x27_2).f1))) = true := beq_iff_eq.mpr c19
                            have c19b1 : ((rd x5_2 ((rd_T64 l0_1 x27_2).f0)) != (rd x5_2 ((rd_T64 l0_1 x27_2).f1))) = false := bne_eq_false_iff_eq.mpr c19
                            clear c19
                            have H' := Aside0.mk H
                            clear H
                            have p283 : 0 ≤ (x27_2 : Int) := of_decide_eq_true (by first | (with_reducible assumption) | assumption)
                            have q283 : x27_2 < (l0_1.length : Int) := of_decide_eq_true (by first | (with_reducible assumption) | assumption)
                            obtain ⟨ad283, e283, hx283_0, hx283_1, hx283_2, hx283_3⟩ := at_T64 HR0_1.out x27_2 p283 q283
                            cases e283
                            replace hx283_0 := (HB.out.cell (World.block_lt_of_cell? w _ hx283_0)).trans hx283_0
                            replace hx283_1 := (HB.out.cell (World.block_lt_of_cell? w _ hx283_1)).trans hx283_1
                            replace hx283_2 := (HB.out.cell (World.block_lt_of_cell? w _ hx283_2)).trans hx283_2
                            replace hx283_3 := (HB.out.cell (World.block_lt_of_cell? w _ hx283_3)).trans hx283_3
                            replace p283 := eq_true p283
                            replace q283 := eq_true q283
                            go_wp2_with (first | ((with_reducible refine gate_dst (N := 8) rfl ?_); refine box_event ?hg (N := 8) ?hd (cs := #[.int .i64 0, .int .i64 0, .int .i64 0, .int .i64 0]) (t := 64) ?hr ?_; (case hd => rfl); (case hg => rfl); (case hr => first | (go_simp; done) | (go_simp; rfl)); intro gb284 hg w20 hbox hb; have n0_ := Aside0.mk (Kd.R_below (by (with_reducible repeat (first | apply Kd.R_alloc | apply Kd.R_drewN | apply Kd.R_drew)); exact HO_4.out) hb); have n1_ := Aside0.mk (Kd.R_below (by (with_reducible repeat (first | apply Kd.R_alloc | apply Kd.R_drewN | apply Kd.R_drew)); exact HO_5.out) hb); have n2_ := Aside0.mk (blk_below (g := gb273) (o := .cells #[.int .i64 a0_0, .slice (some ad283) l0_1.length c0_1] 39 (0, 0)) (by (with_reducible repeat (first | refine blk_drewN ?_ _ | refine blk_drew ?_ | refine blk_alloc ?_ _)); exact BK273.out) hb); have n3_ := Aside0.mk (below_step (by repeat (first | (with_reducible first | exact HB.out | apply below_alloc | apply pw_below_drewN | apply below_drew1 | refine below_set ?_ GE273.out) | exact HB.out)) hb); have n4_ := Aside0.mk (hbox); have n5_ := Aside0.mk ((by rw [hg]; exact (below_size (by repeat (first | (with_reducible first | exact HB.out | apply below_alloc | apply pw_below_drewN | apply below_drew1 | refine below_set ?_ GE273.out) | exact HB.out))) : w.heap.size ≤ gb284)); have n6_ := Aside0.mk ((by rw [hg]; exact (below_size (by repeat (first | (with_reducible first | exact HB.out | apply below_alloc | apply pw_below_drewN | apply below_drew1 | refine below_set ?_ GE273.out) | exact HB.out))) : w.heap.size ≤ gb284)); have n7_ := Aside0.mk ((by rw [hg]; exact Nat.ne_of_lt (blk_lt (g := gb273) (o := .cells #[.int .i64 a0_0, .slice (some ad283) l0_1.length c0_1] 39 (0, 0)) (by (with_reducible repeat (first | refine blk_drewN ?_ _ | refine blk_drew ?_ | refine blk_alloc ?_ _)); exact BK273.out)) : gb273 ≠ gb284)); have n8_ := Aside0.mk ((by rw [hg]; exact Nat.ne_of_gt (blk_lt (g := gb273) (o := .cells #[.int .i64 a0_0, .slice (some ad283) l0_1.length c0_1] 39 (0, 0)) (by (with_reducible repeat (first | refine blk_drewN ?_ _ | refine blk_drew ?_ | refine blk_alloc ?_ _)); exact BK273.out)) : gb284 ≠ gb273)); clear HO_4; clear HO_5; clear BK273; clear HB; have HO_4 := n0_; have HO_5 := n1_; have BK273 := n2_; have HB := n3_; have BK284 := n4_; have GW284 := n5_; have GE284 := n6_; have NB273_284 := n7_; have NB284_273 := n8_; clear n0_ n1_ n2_ n3_ n4_ n5_ n6_ n7_ n8_; clear hb hbox hg; have hnb21 := NB284_273.out; have hnc21 := NB273_284.out; have hcz22_0 : w20.cell? ⟨gb284, 0, none⟩ = some (.int .i64 0) := (blk_cell BK284.out 0).trans rfl; have hcz22_1 : w20.cell? ⟨gb284, 1, none⟩ = some (.int .i64 0) := (blk_cell BK284.out 1).trans rfl; have hcz22_2 : w20.cell? ⟨gb284, 2, none⟩ = some (.int .i64 0) := (blk_cell BK284.out 2).trans rfl; have hcz22_3 : w20.cell? ⟨gb284, 3, none⟩ = some (.int .i64 0) := (blk_cell BK284.out 3).trans rfl; have hfz22_0 := blk_frozen BK284.out 0; have hfz22_1 := blk_frozen BK284.out 1; have hfz22_2 := blk_frozen BK284.out 2; have hfz22_3 := blk_frozen BK284.out 3; obtain ⟨Ao23, co23, eo23⟩ := Kd.R_slice HO_5.out; subst eo23; have p285 : 0 ≤ (((rd_T64 l0_1 x27_2).f0) : Int) := of_decide_eq_true (by first | (with_reducible assumption) | assumption); have q285 : ((rd_T64 l0_1 x27_2).f0) < (x5_2.length : Int) := of_decide_eq_true (by first | (with_reducible assumption) | assumption); obtain ⟨ad285, e285, hx285_0⟩ := Kd.at_int (Kd.R_reads' HO_5.out).2.2 ((rd_T64 l0_1 x27_2).f0) p285 q285; cases e285; have hn285_0 : ad285.block ≠ gb284 := Kd.own_blk (Kd.R_ne HO_5.out BK284.out (by decide)); have hn285_1 : ad285.block ≠ gb284 := Kd.own_blk (Kd.R_ne HO_5.out BK284.out (by decide)); have hn285_2 : ad285.block ≠ gb284 := Kd.own_blk (Kd.R_ne HO_5.out BK284.out (by decide)); have hn285_3 : ad285.block ≠ gb284 := Kd.own_blk (Kd.R_ne HO_5.out BK284.out (by decide)); replace hx285_0 := (cell_far (p := ⟨gb284, 0, none⟩) (by first | (rw [add_block]; exact hn285_0) | (show (Addr.add _ _).block ≠ _; rw [add_block]; exact hn285_0) | exact hn285_0) (.int .i64 ((rd_T64 l0_1 x27_2).f0))).trans hx285_0; replace hx285_0 := (cell_far (p := ⟨gb284, 1, none⟩) (by first | (rw [add_block]; exact hn285_1) | (show (Addr.add _ _).block ≠ _; rw [add_block]; exact hn285_1) | exact hn285_1) (.int .i64 ((rd_T64 l0_1 x27_2).f1))).trans hx285_0; replace hx285_0 := (cell_far (p := ⟨gb284, 2, none⟩) (by first | (rw [add_block]; exact hn285_2) | (show (Addr.add _ _).block ≠ _; rw [add_block]; exact hn285_2) | exact hn285_2) (.int .i64 ((rd_T64 l0_1 x27_2).f2))).trans hx285_0; replace hx285_0 := (cell_far (p := ⟨gb284, 3, none⟩) (by first | (rw [add_block]; exact hn285_3) | (show (Addr.add _ _).block ≠ _; rw [add_block]; exact hn285_3) | exact hn285_3) (.int .i64 ((rd_T64 l0_1 x27_2).f3))).trans hx285_0; (try have hy285_0 := fun (n_ : Nat) => (show ((((((w20.drewN n_).setCell ⟨gb284, 0, none⟩ (.int .i64 ((rd_T64 l0_1 x27_2).f0))).setCell ⟨gb284, 1, none⟩ (.int .i64 ((rd_T64 l0_1 x27_2).f1))).setCell ⟨gb284, 2, none⟩ (.int .i64 ((rd_T64 l0_1 x27_2).f2))).setCell ⟨gb284, 3, none⟩ (.int .i64 ((rd_T64 l0_1 x27_2).f3)))).cell? _ = some _ from hx285_0)); clear hn285_0; clear hn285_1; clear hn285_2; clear hn285_3; replace p285 := eq_true p285; replace q285 := eq_true q285; have p286 : 0 ≤ (((rd_T64 l0_1 x27_2).f1) : Int) := of_decide_eq_true (by first | (with_reducible assumption) | assumption); have q286 : ((rd_T64 l0_1 x27_2).f1) < (x5_2.length : Int) := of_decide_eq_true (by first | (with_reducible assumption) | assumption); obtain ⟨ad286, e286, hx286_0⟩ := Kd.at_int (Kd.R_reads' HO_5.out).2.2 ((rd_T64 l0_1 x27_2).f1) p286 q286; obtain rfl : ad285 = ad286 := (by injection e286); have hn286_0 : ad285.block ≠ gb284 := Kd.own_blk (Kd.R_ne HO_5.out BK284.out (by decide)); have hn286_1 : ad285.block ≠ gb284 := Kd.own_blk (Kd.R_ne HO_5.out BK284.out (by decide)); have hn286_2 : ad285.block ≠ gb284 := Kd.own_blk (Kd.R_ne HO_5.out BK284.out (by decide)); have hn286_3 : ad285.block ≠ gb284 := Kd.own_blk (Kd.R_ne HO_5.out BK284.out (by decide)); replace hx286_0 := (cell_far (p := ⟨gb284, 0, none⟩) (by first | (rw [add_block]; exact hn286_0) | (show (Addr.add _ _).block ≠ _; rw [add_block]; exact hn286_0) | exact hn286_0) (.int .i64 ((rd_T64 l0_1 x27_2).f0))).trans hx286_0; replace hx286_0 := (cell_far (p := ⟨gb284, 1, none⟩) (by first | (rw [add_block]; exact hn286_1) | (show (Addr.add _ _).block ≠ _; rw [add_block]; exact hn286_1) | exact hn286_1) (.int .i64 ((rd_T64 l0_1 x27_2).f1))).trans hx286_0; replace hx286_0 := (cell_far (p := ⟨gb284, 2, none⟩) (by first | (rw [add_block]; exact hn286_2) | (show (Addr.add _ _).block ≠ _; rw [add_block]; exact hn286_2) | exact hn286_2) (.int .i64 ((rd_T64 l0_1 x27_2).f2))).trans hx286_0; replace hx286_0 := (cell_far (p := ⟨gb284, 3, none⟩) (by first | (rw [add_block]; exact hn286_3) | (show (Addr.add _ _).block ≠ _; rw [add_block]; exact hn286_3) | exact hn286_3) (.int .i64 ((rd_T64 l0_1 x27_2).f3))).trans hx286_0; (try have hy286_0 := fun (n_ : Nat) => (show ((((((w20.drewN n_).setCell ⟨gb284, 0, none⟩ (.int .i64 ((rd_T64 l0_1 x27_2).f0))).setCell ⟨gb284, 1, none⟩ (.int .i64 ((rd_T64 l0_1 x27_2).f1))).setCell ⟨gb284, 2, none⟩ (.int .i64 ((rd_T64 l0_1 x27_2).f2))).setCell ⟨gb284, 3, none⟩ (.int .i64 ((rd_T64 l0_1 x27_2).f3)))).cell? _ = some _ from hx286_0)); clear hn286_0; clear hn286_1; clear hn286_2; clear hn286_3; replace p286 := eq_true p286; replace q286 := eq_true q286))
                            repeat (go_quiet (first | ((with_reducible refine gate_dst (N := 8) rfl ?_); refine box_event ?hg (N := 8) ?hd (cs := #[.int .i64 0, .int .i64 0, .int .i64 0, .int .i64 0]) (t := 64) ?hr ?_; (case hd => rfl); (case hg => rfl); (case hr => first | (go_simp; done) | (go_simp; rfl)); intro gb284 hg w20 hbox hb; have n0_ := Aside0.mk (Kd.R_below (by (with_reducible repeat (first | apply Kd.R_alloc | apply Kd.R_drewN | apply Kd.R_drew)); exact HO_4.out) hb); have n1_ := Aside0.mk (Kd.R_below (by (with_reducible repeat (first | apply Kd.R_alloc | apply Kd.R_drewN | apply Kd.R_drew)); exact HO_5.out) hb); have n2_ := Aside0.mk (blk_below (g := gb273) (o := .cells #[.int .i64 a0_0, .slice (some ad283) l0_1.length c0_1] 39 (0, 0)) (by (with_reducible repeat (first | refine blk_drewN ?_ _ | refine blk_drew ?_ | refine blk_alloc ?_ _)); exact BK273.out) hb); have n3_ := Aside0.mk (below_step (by repeat (first | (with_reducible first | exact HB.out | apply below_alloc | apply pw_below_drewN | apply below_drew1 | refine below_set ?_ GE273.out) | exact HB.out)) hb); have n4_ := Aside0.mk (hbox); have n5_ := Aside0.mk ((by rw [hg]; exact (below_size (by repeat (first | (with_reducible first | exact HB.out | apply below_alloc | apply pw_below_drewN | apply below_drew1 | refine below_set ?_ GE273.out) | exact HB.out))) : w.heap.size ≤ gb284)); have n6_ := Aside0.mk ((by rw [hg]; exact (below_size (by repeat (first | (with_reducible first | exact HB.out | apply below_alloc | apply pw_below_drewN | apply below_drew1 | refine below_set ?_ GE273.out) | exact HB.out))) : w.heap.size ≤ gb284)); have n7_ := Aside0.mk ((by rw [hg]; exact Nat.ne_of_lt (blk_lt (g := gb273) (o := .cells #[.int .i64 a0_0, .slice (some ad283) l0_1.length c0_1] 39 (0, 0)) (by (with_reducible repeat (first | refine blk_drewN ?_ _ | refine blk_drew ?_ | refine blk_alloc ?_ _)); exact BK273.out)) : gb273 ≠ gb284)); have n8_ := Aside0.mk ((by rw [hg]; exact Nat.ne_of_gt (blk_lt (g := gb273) (o := .cells #[.int .i64 a0_0, .slice (some ad283) l0_1.length c0_1] 39 (0, 0)) (by (with_reducible repeat (first | refine blk_drewN ?_ _ | refine blk_drew ?_ | refine blk_alloc ?_ _)); exact BK273.out)) : gb284 ≠ gb273)); clear HO_4; clear HO_5; clear BK273; clear HB; have HO_4 := n0_; have HO_5 := n1_; have BK273 := n2_; have HB := n3_; have BK284 := n4_; have GW284 := n5_; have GE284 := n6_; have NB273_284 := n7_; have NB284_273 := n8_; clear n0_ n1_ n2_ n3_ n4_ n5_ n6_ n7_ n8_; clear hb hbox hg; have hnb21 := NB284_273.out; have hnc21 := NB273_284.out; have hcz22_0 : w20.cell? ⟨gb284, 0, none⟩ = some (.int .i64 0) := (blk_cell BK284.out 0).trans rfl; have hcz22_1 : w20.cell? ⟨gb284, 1, none⟩ = some (.int .i64 0) := (blk_cell BK284.out 1).trans rfl; have hcz22_2 : w20.cell? ⟨gb284, 2, none⟩ = some (.int .i64 0) := (blk_cell BK284.out 2).trans rfl; have hcz22_3 : w20.cell? ⟨gb284, 3, none⟩ = some (.int .i64 0) := (blk_cell BK284.out 3).trans rfl; have hfz22_0 := blk_frozen BK284.out 0; have hfz22_1 := blk_frozen BK284.out 1; have hfz22_2 := blk_frozen BK284.out 2; have hfz22_3 := blk_frozen BK284.out 3; obtain ⟨Ao23, co23, eo23⟩ := Kd.R_slice HO_5.out; subst eo23; have p285 : 0 ≤ (((rd_T64 l0_1 x27_2).f0) : Int) := of_decide_eq_true (by first | (with_reducible assumption) | assumption); have q285 : ((rd_T64 l0_1 x27_2).f0) < (x5_2.length : Int) := of_decide_eq_true (by first | (with_reducible assumption) | assumption); obtain ⟨ad285, e285, hx285_0⟩ := Kd.at_int (Kd.R_reads' HO_5.out).2.2 ((rd_T64 l0_1 x27_2).f0) p285 q285; cases e285; have hn285_0 : ad285.block ≠ gb284 := Kd.own_blk (Kd.R_ne HO_5.out BK284.out (by decide)); have hn285_1 : ad285.block ≠ gb284 := Kd.own_blk (Kd.R_ne HO_5.out BK284.out (by decide)); have hn285_2 : ad285.block ≠ gb284 := Kd.own_blk (Kd.R_ne HO_5.out BK284.out (by decide)); have hn285_3 : ad285.block ≠ gb284 := Kd.own_blk (Kd.R_ne HO_5.out BK284.out (by decide)); replace hx285_0 := (cell_far (p := ⟨gb284, 0, none⟩) (by first | (rw [add_block]; exact hn285_0) | (show (Addr.add _ _).block ≠ _; rw [add_block]; exact hn285_0) | exact hn285_0) (.int .i64 ((rd_T64 l0_1 x27_2).f0))).trans hx285_0; replace hx285_0 := (cell_far (p := ⟨gb284, 1, none⟩) (by first | (rw [add_block]; exact hn285_1) | (show (Addr.add _ _).block ≠ _; rw [add_block]; exact hn285_1) | exact hn285_1) (.int .i64 ((rd_T64 l0_1 x27_2).f1))).trans hx285_0; replace hx285_0 := (cell_far (p := ⟨gb284, 2, none⟩) (by first | (rw [add_block]; exact hn285_2) | (show (Addr.add _ _).block ≠ _; rw [add_block]; exact hn285_2) | exact hn285_2) (.int .i64 ((rd_T64 l0_1 x27_2).f2))).trans hx285_0; replace hx285_0 := (cell_far (p := ⟨gb284, 3, none⟩) (by first | (rw [add_block]; exact hn285_3) | (show (Addr.add _ _).block ≠ _; rw [add_block]; exact hn285_3) | exact hn285_3) (.int .i64 ((rd_T64 l0_1 x27_2).f3))).trans hx285_0; (try have hy285_0 := fun (n_ : Nat) => (show ((((((w20.drewN n_).setCell ⟨gb284, 0, none⟩ (.int .i64 ((rd_T64 l0_1 x27_2).f0))).setCell ⟨gb284, 1, none⟩ (.int .i64 ((rd_T64 l0_1 x27_2).f1))).setCell ⟨gb284, 2, none⟩ (.int .i64 ((rd_T64 l0_1 x27_2).f2))).setCell ⟨gb284, 3, none⟩ (.int .i64 ((rd_T64 l0_1 x27_2).f3)))).cell? _ = some _ from hx285_0)); clear hn285_0; clear hn285_1; clear hn285_2; clear hn285_3; replace p285 := eq_true p285; replace q285 := eq_true q285; have p286 : 0 ≤ (((rd_T64 l0_1 x27_2).f1) : Int) := of_decide_eq_true (by first | (with_reducible assumption) | assumption); have q286 : ((rd_T64 l0_1 x27_2).f1) < (x5_2.length : Int) := of_decide_eq_true (by first | (with_reducible assumption) | assumption); obtain ⟨ad286, e286, hx286_0⟩ := Kd.at_int (Kd.R_reads' HO_5.out).2.2 ((rd_T64 l0_1 x27_2).f1) p286 q286; obtain rfl : ad285 = ad286 := (by injection e286); have hn286_0 : ad285.block ≠ gb284 := Kd.own_blk (Kd.R_ne HO_5.out BK284.out (by decide)); have hn286_1 : ad285.block ≠ gb284 := Kd.own_blk (Kd.R_ne HO_5.out BK284.out (by decide)); have hn286_2 : ad285.block ≠ gb284 := Kd.own_blk (Kd.R_ne HO_5.out BK284.out (by decide)); have hn286_3 : ad285.block ≠ gb284 := Kd.own_blk (Kd.R_ne HO_5.out BK284.out (by decide)); replace hx286_0 := (cell_far (p := ⟨gb284, 0, none⟩) (by first | (rw [add_block]; exact hn286_0) | (show (Addr.add _ _).block ≠ _; rw [add_block]; exact hn286_0) | exact hn286_0) (.int .i64 ((rd_T64 l0_1 x27_2).f0))).trans hx286_0; replace hx286_0 := (cell_far (p := ⟨gb284, 1, none⟩) (by first | (rw [add_block]; exact hn286_1) | (show (Addr.add _ _).block ≠ _; rw [add_block]; exact hn286_1) | exact hn286_1) (.int .i64 ((rd_T64 l0_1 x27_2).f1))).trans hx286_0; replace hx286_0 := (cell_far (p := ⟨gb284, 2, none⟩) (by first | (rw [add_block]; exact hn286_2) | (show (Addr.add _ _).block ≠ _; rw [add_block]; exact hn286_2) | exact hn286_2) (.int .i64 ((rd_T64 l0_1 x27_2).f2))).trans hx286_0; replace hx286_0 := (cell_far (p := ⟨gb284, 3, none⟩) (by first | (rw [add_block]; exact hn286_3) | (show (Addr.add _ _).block ≠ _; rw [add_block]; exact hn286_3) | exact hn286_3) (.int .i64 ((rd_T64 l0_1 x27_2).f3))).trans hx286_0; (try have hy286_0 := fun (n_ : Nat) => (show ((((((w20.drewN n_).setCell ⟨gb284, 0, none⟩ (.int .i64 ((rd_T64 l0_1 x27_2).f0))).setCell ⟨gb284, 1, none⟩ (.int .i64 ((rd_T64 l0_1 x27_2).f1))).setCell ⟨gb284, 2, none⟩ (.int .i64 ((rd_T64 l0_1 x27_2).f2))).setCell ⟨gb284, 3, none⟩ (.int .i64 ((rd_T64 l0_1 x27_2).f3)))).cell? _ = some _ from hx286_0)); clear hn286_0; clear hn286_1; clear hn286_2; clear hn286_3; replace p286 := eq_true p286; replace q286 := eq_true q286)); try go_wp2_with (first | ((with_reducible refine gate_dst (N := 8) rfl ?_); refine box_event ?hg (N := 8) ?hd (cs := #[.int .i64 0, .int .i64 0, .int .i64 0, .int .i64 0]) (t := 64) ?hr ?_; (case hd => rfl); (case hg => rfl); (case hr => first | (go_simp; done) | (go_simp; rfl)); intro gb284 hg w20 hbox hb; have n0_ := Aside0.mk (Kd.R_below (by (with_reducible repeat (first | apply Kd.R_alloc | apply Kd.R_drewN | apply Kd.R_drew)); exact HO_4.out) hb); have n1_ := Aside0.mk (Kd.R_below (by (with_reducible repeat (first | apply Kd.R_alloc | apply Kd.R_drewN | apply Kd.R_drew)); exact HO_5.out) hb); have n2_ := Aside0.mk (blk_below (g := gb273) (o := .cells #[.int .i64 a0_0, .slice (some ad283) l0_1.length c0_1] 39 (0, 0)) (by (with_reducible repeat (first | refine blk_drewN ?_ _ | refine blk_drew ?_ | refine blk_alloc ?_ _)); exact BK273.out) hb); have n3_ := Aside0.mk (below_step (by repeat (first | (with_reducible first | exact HB.out | apply below_alloc | apply pw_below_drewN | apply below_drew1 | refine below_set ?_ GE273.out) | exact HB.out)) hb); have n4_ := Aside0.mk (hbox); have n5_ := Aside0.mk ((by rw [hg]; exact (below_size (by repeat (first | (with_reducible first | exact HB.out | apply below_alloc | apply pw_below_drewN | apply below_drew1 | refine below_set ?_ GE273.out) | exact HB.out))) : w.heap.size ≤ gb284)); have n6_ := Aside0.mk ((by rw [hg]; exact (below_size (by repeat (first | (with_reducible first | exact HB.out | apply below_alloc | apply pw_below_drewN | apply below_drew1 | refine below_set ?_ GE273.out) | exact HB.out))) : w.heap.size ≤ gb284)); have n7_ := Aside0.mk ((by rw [hg]; exact Nat.ne_of_lt (blk_lt (g := gb273) (o := .cells #[.int .i64 a0_0, .slice (some ad283) l0_1.length c0_1] 39 (0, 0)) (by (with_reducible repeat (first | refine blk_drewN ?_ _ | refine blk_drew ?_ | refine blk_alloc ?_ _)); exact BK273.out)) : gb273 ≠ gb284)); have n8_ := Aside0.mk ((by rw [hg]; exact Nat.ne_of_gt (blk_lt (g := gb273) (o := .cells #[.int .i64 a0_0, .slice (some ad283) l0_1.length c0_1] 39 (0, 0)) (by (with_reducible repeat (first | refine blk_drewN ?_ _ | refine blk_drew ?_ | refine blk_alloc ?_ _)); exact BK273.out)) : gb284 ≠ gb273)); clear HO_4; clear HO_5; clear BK273; clear HB; have HO_4 := n0_; have HO_5 := n1_; have BK273 := n2_; have HB := n3_; have BK284 := n4_; have GW284 := n5_; have GE284 := n6_; have NB273_284 := n7_; have NB284_273 := n8_; clear n0_ n1_ n2_ n3_ n4_ n5_ n6_ n7_ n8_; clear hb hbox hg; have hnb21 := NB284_273.out; have hnc21 := NB273_284.out; have hcz22_0 : w20.cell? ⟨gb284, 0, none⟩ = some (.int .i64 0) := (blk_cell BK284.out 0).trans rfl; have hcz22_1 : w20.cell? ⟨gb284, 1, none⟩ = some (.int .i64 0) := (blk_cell BK284.out 1).trans rfl; have hcz22_2 : w20.cell? ⟨gb284, 2, none⟩ = some (.int .i64 0) := (blk_cell BK284.out 2).trans rfl; have hcz22_3 : w20.cell? ⟨gb284, 3, none⟩ = some (.int .i64 0) := (blk_cell BK284.out 3).trans rfl; have hfz22_0 := blk_frozen BK284.out 0; have hfz22_1 := blk_frozen BK284.out 1; have hfz22_2 := blk_frozen BK284.out 2; have hfz22_3 := blk_frozen BK284.out 3; obtain ⟨Ao23, co23, eo23⟩ := Kd.R_slice HO_5.out; subst eo23; have p285 : 0 ≤ (((rd_T64 l0_1 x27_2).f0) : Int) := of_decide_eq_true (by first | (with_reducible assumption) | assumption); have q285 : ((rd_T64 l0_1 x27_2).f0) < (x5_2.length : Int) := of_decide_eq_true (by first | (with_reducible assumption) | assumption); obtain ⟨ad285, e285, hx285_0⟩ := Kd.at_int (Kd.R_reads' HO_5.out).2.2 ((rd_T64 l0_1 x27_2).f0) p285 q285; cases e285; have hn285_0 : ad285.block ≠ gb284 := Kd.own_blk (Kd.R_ne HO_5.out BK284.out (by decide)); have hn285_1 : ad285.block ≠ gb284 := Kd.own_blk (Kd.R_ne HO_5.out BK284.out (by decide)); have hn285_2 : ad285.block ≠ gb284 := Kd.own_blk (Kd.R_ne HO_5.out BK284.out (by decide)); have hn285_3 : ad285.block ≠ gb284 := Kd.own_blk (Kd.R_ne HO_5.out BK284.out (by decide)); replace hx285_0 := (cell_far (p := ⟨gb284, 0, none⟩) (by first | (rw [add_block]; exact hn285_0) | (show (Addr.add _ _).block ≠ _; rw [add_block]; exact hn285_0) | exact hn285_0) (.int .i64 ((rd_T64 l0_1 x27_2).f0))).trans hx285_0; replace hx285_0 := (cell_far (p := ⟨gb284, 1, none⟩) (by first | (rw [add_block]; exact hn285_1) | (show (Addr.add _ _).block ≠ _; rw [add_block]; exact hn285_1) | exact hn285_1) (.int .i64 ((rd_T64 l0_1 x27_2).f1))).trans hx285_0; replace hx285_0 := (cell_far (p := ⟨gb284, 2, none⟩) (by first | (rw [add_block]; exact hn285_2) | (show (Addr.add _ _).block ≠ _; rw [add_block]; exact hn285_2) | exact hn285_2) (.int .i64 ((rd_T64 l0_1 x27_2).f2))).trans hx285_0; replace hx285_0 := (cell_far (p := ⟨gb284, 3, none⟩) (by first | (rw [add_block]; exact hn285_3) | (show (Addr.add _ _).block ≠ _; rw [add_block]; exact hn285_3) | exact hn285_3) (.int .i64 ((rd_T64 l0_1 x27_2).f3))).trans hx285_0; (try have hy285_0 := fun (n_ : Nat) => (show ((((((w20.drewN n_).setCell ⟨gb284, 0, none⟩ (.int .i64 ((rd_T64 l0_1 x27_2).f0))).setCell ⟨gb284, 1, none⟩ (.int .i64 ((rd_T64 l0_1 x27_2).f1))).setCell ⟨gb284, 2, none⟩ (.int .i64 ((rd_T64 l0_1 x27_2).f2))).setCell ⟨gb284, 3, none⟩ (.int .i64 ((rd_T64 l0_1 x27_2).f3)))).cell? _ = some _ from hx285_0)); clear hn285_0; clear hn285_1; clear hn285_2; clear hn285_3; replace p285 := eq_true p285; replace q285 := eq_true q285; have p286 : 0 ≤ (((rd_T64 l0_1 x27_2).f1) : Int) := of_decide_eq_true (by first | (with_reducible assumption) | assumption); have q286 : ((rd_T64 l0_1 x27_2).f1) < (x5_2.length : Int) := of_decide_eq_true (by first | (with_reducible assumption) | assumption); obtain ⟨ad286, e286, hx286_0⟩ := Kd.at_int (Kd.R_reads' HO_5.out).2.2 ((rd_T64 l0_1 x27_2).f1) p286 q286; obtain rfl : ad285 = ad286 := (by injection e286); have hn286_0 : ad285.block ≠ gb284 := Kd.own_blk (Kd.R_ne HO_5.out BK284.out (by decide)); have hn286_1 : ad285.block ≠ gb284 := Kd.own_blk (Kd.R_ne HO_5.out BK284.out (by decide)); have hn286_2 : ad285.block ≠ gb284 := Kd.own_blk (Kd.R_ne HO_5.out BK284.out (by decide)); have hn286_3 : ad285.block ≠ gb284 := Kd.own_blk (Kd.R_ne HO_5.out BK284.out (by decide)); replace hx286_0 := (cell_far (p := ⟨gb284, 0, none⟩) (by first | (rw [add_block]; exact hn286_0) | (show (Addr.add _ _).block ≠ _; rw [add_block]; exact hn286_0) | exact hn286_0) (.int .i64 ((rd_T64 l0_1 x27_2).f0))).trans hx286_0; replace hx286_0 := (cell_far (p := ⟨gb284, 1, none⟩) (by first | (rw [add_block]; exact hn286_1) | (show (Addr.add _ _).block ≠ _; rw [add_block]; exact hn286_1) | exact hn286_1) (.int .i64 ((rd_T64 l0_1 x27_2).f1))).trans hx286_0; replace hx286_0 := (cell_far (p := ⟨gb284, 2, none⟩) (by first | (rw [add_block]; exact hn286_2) | (show (Addr.add _ _).block ≠ _; rw [add_block]; exact hn286_2) | exact hn286_2) (.int .i64 ((rd_T64 l0_1 x27_2).f2))).trans hx286_0; replace hx286_0 := (cell_far (p := ⟨gb284, 3, none⟩) (by first | (rw [add_block]; exact hn286_3) | (show (Addr.add _ _).block ≠ _; rw [add_block]; exact hn286_3) | exact hn286_3) (.int .i64 ((rd_T64 l0_1 x27_2).f3))).trans hx286_0; (try have hy286_0 := fun (n_ : Nat) => (show ((((((w20.drewN n_).setCell ⟨gb284, 0, none⟩ (.int .i64 ((rd_T64 l0_1 x27_2).f0))).setCell ⟨gb284, 1, none⟩ (.int .i64 ((rd_T64 l0_1 x27_2).f1))).setCell ⟨gb284, 2, none⟩ (.int .i64 ((rd_T64 l0_1 x27_2).f2))).setCell ⟨gb284, 3, none⟩ (.int .i64 ((rd_T64 l0_1 x27_2).f3)))).cell? _ = some _ from hx286_0)); clear hn286_0; clear hn286_1; clear hn286_2; clear hn286_3; replace p286 := eq_true p286; replace q286 := eq_true q286)))
                            go_roundg k2
                            case measure => have := HK1.out; have := HK2.out; omega
                            case rel => exact ⟨(x4_2), (x5_2), (wrap64 (x27_2 + 1)), (by first | rfl | (simp; done) | (simp [*]; done)), H', ⟨by have := HK1.out; have := HK2.out; omega⟩, ⟨by (with_reducible repeat (first | apply Kd.R_alloc | apply Kd.R_drewN | apply Kd.R_drew)); exact Kd.R_mono (Kd.R_far (p := ⟨gb284, 3, none⟩) (Kd.R_far (p := ⟨gb284, 2, none⟩) (Kd.R_far (p := ⟨gb284, 1, none⟩) (Kd.R_far (p := ⟨gb284, 0, none⟩) (Kd.R_types HO_4.out BK284.out (by decide)) (fun _ hk => hk.2) (.int .i64 ((rd_T64 l0_1 x27_2).f0))) (fun _ hk => hk.2) (.int .i64 ((rd_T64 l0_1 x27_2).f1))) (fun _ hk => hk.2) (.int .i64 ((rd_T64 l0_1 x27_2).f2))) (fun _ hk => hk.2) (.int .i64 ((rd_T64 l0_1 x27_2).f3))) (fun _ hk => hk.1)⟩, ⟨by (with_reducible repeat (first | apply Kd.R_alloc | apply Kd.R_drewN | apply Kd.R_drew)); exact Kd.R_mono (Kd.R_far (p := ⟨gb284, 3, none⟩) (Kd.R_far (p := ⟨gb284, 2, none⟩) (Kd.R_far (p := ⟨gb284, 1, none⟩) (Kd.R_far (p := ⟨gb284, 0, none⟩) (Kd.R_types HO_5.out BK284.out (by decide)) (fun _ hk => hk.2) (.int .i64 ((rd_T64 l0_1 x27_2).f0))) (fun _ hk => hk.2) (.int .i64 ((rd_T64 l0_1 x27_2).f1))) (fun _ hk => hk.2) (.int .i64 ((rd_T64 l0_1 x27_2).f2))) (fun _ hk => hk.2) (.int .i64 ((rd_T64 l0_1 x27_2).f3))) (fun _ hk => hk.1)⟩, ⟨by (with_reducible repeat (first | refine blk_drewN ?_ _ | refine blk_drew ?_ | refine blk_alloc ?_ _)); refine blk_far ?_ NB273_284.out _; (with_reducible repeat (first | refine blk_drewN ?_ _ | refine blk_drew ?_ | refine blk_alloc ?_ _)); refine blk_far ?_ NB273_284.out _; (with_reducible repeat (first | refine blk_drewN ?_ _ | refine blk_drew ?_ | refine blk_alloc ?_ _)); refine blk_far ?_ NB273_284.out _; (with_reducible repeat (first | refine blk_drewN ?_ _ | refine blk_drew ?_ | refine blk_alloc ?_ _)); refine blk_far ?_ NB273_284.out _; (with_reducible repeat (first | refine blk_drewN ?_ _ | refine blk_drew ?_ | refine blk_alloc ?_ _)); exact BK273.out⟩, ⟨by repeat (first | (with_reducible first | exact HB.out | apply below_alloc | apply pw_below_drewN | apply below_drew1 | refine below_set ?_ GE273.out | refine below_set ?_ GE284.out) | exact HB.out)⟩⟩
                          · rw [if_neg c19] at H
                            have c19b0 : ((rd x5_2 ((rd_T64 l0_1 x27_2).f0)) == (rd x5_2 ((rd_T64 l0_1 x27_2).f1))) = false := beq_eq_false_iff_ne.mpr c19
                            have c19b1 : ((rd x5_2 ((rd_T64 l0_1 x27_2).f0)) != (rd x5_2 ((rd_T64 l0_1 x27_2).f1))) = true := bne_iff_ne.mpr c19
                            by_cases c24 : x4_2.length < 17592186044416
                            · rw [if_pos c24] at H
                              have LMc24 := Aside0.mk c24
                              clear c24
                              obtain ⟨y287, hy287⟩ : ∃ y_ : List Int, y_ = (x4_2 ++ [x27_2]) := ⟨_, rfl⟩
                              replace H : (impl_Survey_tree.l2 k2 y287 x5_2 (rd x5_2 ((rd_T64 l0_1 x27_2).f0)) (rd x5_2 ((rd_T64 l0_1 x27_2).f1)) l0_1 (l0_1.length : Int) x27_2 (x5_2.length : Int) 0) = some (r1, r2) := by first | (rw [hy287]; with_reducible exact H) | (have H2_ := (Option.bind_some _ _).symm.trans H; rw [hy287]; with_reducible exact H2_) | (have H2_ := (Option.bind_some _ _).symm.trans H; with_reducible exact H2_) | with_reducible exact H | (rw [hy287]; exact H) | exact H
                              have Ny287 := Aside0.mk hy287
                              clear hy287
                              have H' := Aside0.mk H
                              clear H
                              have p283 : 0 ≤ (x27_2 : Int) := of_decide_eq_true (by first | (with_reducible assumption) | assumption)
                              have q283 : x27_2 < (l0_1.length : Int) := of_decide_eq_true (by first | (with_reducible assumption) | assumption)
                              obtain ⟨ad283, e283, hx283_0, hx283_1, hx283_2, hx283_3⟩ := at_T64 HR0_1.out x27_2 p283 q283
                              cases e283
                              replace hx283_0 := (HB.out.cell (World.block_lt_of_cell? w _ hx283_0)).trans hx283_0
                              replace hx283_1 := (HB.out.cell (World.block_lt_of_cell? w _ hx283_1)).trans hx283_1
                              replace hx283_2 := (HB.out.cell (World.block_lt_of_cell? w _ hx283_2)).trans hx283_2
                              replace hx283_3 := (HB.out.cell (World.block_lt_of_cell? w _ hx283_3)).trans hx283_3
                              replace p283 := eq_true p283
                              replace q283 := eq_true q283
                              go_wp2_with (first | ((with_reducible refine gate_dst (N := 8) rfl ?_); refine box_event ?hg (N := 8) ?hd (cs := #[.int .i64 0, .int .i64 0, .int .i64 0, .int .i64 0]) (t := 64) ?hr ?_; (case hd => rfl); (case hg => rfl); (case hr => first | (go_simp; done) | (go_simp; rfl)); intro gb284 hg w25 hbox hb; have n0_ := Aside0.mk (Kd.R_below (by (with_reducible repeat (first | apply Kd.R_alloc | apply Kd.R_drewN | apply Kd.R_drew)); exact HO_4.out) hb); have n1_ := Aside0.mk (Kd.R_below (by (with_reducible repeat (first | apply Kd.R_alloc | apply Kd.R_drewN | apply Kd.R_drew)); exact HO_5.out) hb); have n2_ := Aside0.mk (blk_below (g := gb273) (o := .cells #[.int .i64 a0_0, .slice (some ad283) l0_1.length c0_1] 39 (0, 0)) (by (with_reducible repeat (first | refine blk_drewN ?_ _ | refine blk_drew ?_ | refine blk_alloc ?_ _)); exact BK273.out) hb); have n3_ := Aside0.mk (below_step (by repeat (first | (with_reducible first | exact HB.out | apply below_alloc | apply pw_below_drewN | apply below_drew1 | refine below_set ?_ GE273.out) | exact HB.out)) hb); have n4_ := Aside0.mk (hbox); have n5_ := Aside0.mk ((by rw [hg]; exact (below_size (by repeat (first | (with_reducible first | exact HB.out | apply below_alloc | apply pw_below_drewN | apply below_drew1 | refine below_set ?_ GE273.out) | exact HB.out))) : w.heap.size ≤ gb284)); have n6_ := Aside0.mk ((by rw [hg]; exact (below_size (by repeat (first | (with_reducible first | exact HB.out | apply below_alloc | apply pw_below_drewN | apply below_drew1 | refine below_set ?_ GE273.out) | exact HB.out))) : w.heap.size ≤ gb284)); have n7_ := Aside0.mk ((by rw [hg]; exact Nat.ne_of_lt (blk_lt (g := gb273) (o := .cells #[.int .i64 a0_0, .slice (some ad283) l0_1.length c0_1] 39 (0, 0)) (by (with_reducible repeat (first | refine blk_drewN ?_ _ | refine blk_drew ?_ | refine blk_alloc ?_ _)); exact BK273.out)) : gb273 ≠ gb284)); have n8_ := Aside0.mk ((by rw [hg]; exact Nat.ne_of_gt (blk_lt (g := gb273) (o := .cells #[.int .i64 a0_0, .slice (some ad283) l0_1.length c0_1] 39 (0, 0)) (by (with_reducible repeat (first | refine blk_drewN ?_ _ | refine blk_drew ?_ | refine blk_alloc ?_ _)); exact BK273.out)) : gb284 ≠ gb273)); clear HO_4; clear HO_5; clear BK273; clear HB; have HO_4 := n0_; have HO_5 := n1_; have BK273 := n2_; have HB := n3_; have BK284 := n4_; have GW284 := n5_; have GE284 := n6_; have NB273_284 := n7_; have NB284_273 := n8_; clear n0_ n1_ n2_ n3_ n4_ n5_ n6_ n7_ n8_; clear hb hbox hg; have hnb26 := NB284_273.out; have hnc26 := NB273_284.out; have hcz27_0 : w25.cell? ⟨gb284, 0, none⟩ = some (.int .i64 0) := (blk_cell BK284.out 0).trans rfl; have hcz27_1 : w25.cell? ⟨gb284, 1, none⟩ = some (.int .i64 0) := (blk_cell BK284.out 1).trans rfl; have hcz27_2 : w25.cell? ⟨gb284, 2, none⟩ = some (.int .i64 0) := (blk_cell BK284.out 2).trans rfl; have hcz27_3 : w25.cell? ⟨gb284, 3, none⟩ = some (.int .i64 0) := (blk_cell BK284.out 3).trans rfl; have hfz27_0 := blk_frozen BK284.out 0; have hfz27_1 := blk_frozen BK284.out 1; have hfz27_2 := blk_frozen BK284.out 2; have hfz27_3 := blk_frozen BK284.out 3; obtain ⟨Ao28, co28, eo28⟩ := Kd.R_slice HO_5.out; subst eo28; have p285 : 0 ≤ (((rd_T64 l0_1 x27_2).f0) : Int) := of_decide_eq_true (by first | (with_reducible assumption) | assumption); have q285 : ((rd_T64 l0_1 x27_2).f0) < (x5_2.length : Int) := of_decide_eq_true (by first | (with_reducible assumption) | assumption); obtain ⟨ad285, e285, hx285_0⟩ := Kd.at_int (Kd.R_reads' HO_5.out).2.2 ((rd_T64 l0_1 x27_2).f0) p285 q285; cases e285; have hn285_0 : ad285.block ≠ gb284 := Kd.own_blk (Kd.R_ne HO_5.out BK284.out (by decide)); have hn285_1 : ad285.block ≠ gb284 := Kd.own_blk (Kd.R_ne HO_5.out BK284.out (by decide)); have hn285_2 : ad285.block ≠ gb284 := Kd.own_blk (Kd.R_ne HO_5.out BK284.out (by decide)); have hn285_3 : ad285.block ≠ gb284 := Kd.own_blk (Kd.R_ne HO_5.out BK284.out (by decide)); replace hx285_0 := (cell_far (p := ⟨gb284, 0, none⟩) (by first | (rw [add_block]; exact hn285_0) | (show (Addr.add _ _).block ≠ _; rw [add_block]; exact hn285_0) | exact hn285_0) (.int .i64 ((rd_T64 l0_1 x27_2).f0))).trans hx285_0; replace hx285_0 := (cell_far (p := ⟨gb284, 1, none⟩) (by first | (rw [add_block]; exact hn285_1) | (show (Addr.add _ _).block ≠ _; rw [add_block]; exact hn285_1) | exact hn285_1) (.int .i64 ((rd_T64 l0_1 x27_2).f1))).trans hx285_0; replace hx285_0 := (cell_far (p := ⟨gb284, 2, none⟩) (by first | (rw [add_block]; exact hn285_2) | (show (Addr.add _ _).block ≠ _; rw [add_block]; exact hn285_2) | exact hn285_2) (.int .i64 ((rd_T64 l0_1 x27_2).f2))).trans hx285_0; replace hx285_0 := (cell_far (p := ⟨gb284, 3, none⟩) (by first | (rw [add_block]; exact hn285_3) | (show (Addr.add _ _).block ≠ _; rw [add_block]; exact hn285_3) | exact hn285_3) (.int .i64 ((rd_T64 l0_1 x27_2).f3))).trans hx285_0; (try have hy285_0 := fun (n_ : Nat) => (show ((((((w25.drewN n_).setCell ⟨gb284, 0, none⟩ (.int .i64 ((rd_T64 l0_1 x27_2).f0))).setCell ⟨gb284, 1, none⟩ (.int .i64 ((rd_T64 l0_1 x27_2).f1))).setCell ⟨gb284, 2, none⟩ (.int .i64 ((rd_T64 l0_1 x27_2).f2))).setCell ⟨gb284, 3, none⟩ (.int .i64 ((rd_T64 l0_1 x27_2).f3)))).cell? _ = some _ from hx285_0)); clear hn285_0; clear hn285_1; clear hn285_2; clear hn285_3; replace p285 := eq_true p285; replace q285 := eq_true q285; have p286 : 0 ≤ (((rd_T64 l0_1 x27_2).f1) : Int) := of_decide_eq_true (by first | (with_reducible assumption) | assumption); have q286 : ((rd_T64 l0_1 x27_2).f1) < (x5_2.length : Int) := of_decide_eq_true (by first | (with_reducible assumption) | assumption); obtain ⟨ad286, e286, hx286_0⟩ := Kd.at_int (Kd.R_reads' HO_5.out).2.2 ((rd_T64 l0_1 x27_2).f1) p286 q286; obtain rfl : ad285 = ad286 := (by injection e286); have hn286_0 : ad285.block ≠ gb284 := Kd.own_blk (Kd.R_ne HO_5.out BK284.out (by decide)); have hn286_1 : ad285.block ≠ gb284 := Kd.own_blk (Kd.R_ne HO_5.out BK284.out (by decide)); have hn286_2 : ad285.block ≠ gb284 := Kd.own_blk (Kd.R_ne HO_5.out BK284.out (by decide)); have hn286_3 : ad285.block ≠ gb284 := Kd.own_blk (Kd.R_ne HO_5.out BK284.out (by decide)); replace hx286_0 := (cell_far (p := ⟨gb284, 0, none⟩) (by first | (rw [add_block]; exact hn286_0) | (show (Addr.add _ _).block ≠ _; rw [add_block]; exact hn286_0) | exact hn286_0) (.int .i64 ((rd_T64 l0_1 x27_2).f0))).trans hx286_0; replace hx286_0 := (cell_far (p := ⟨gb284, 1, none⟩) (by first | (rw [add_block]; exact hn286_1) | (show (Addr.add _ _).block ≠ _; rw [add_block]; exact hn286_1) | exact hn286_1) (.int .i64 ((rd_T64 l0_1 x27_2).f1))).trans hx286_0; replace hx286_0 := (cell_far (p := ⟨gb284, 2, none⟩) (by first | (rw [add_block]; exact hn286_2) | (show (Addr.add _ _).block ≠ _; rw [add_block]; exact hn286_2) | exact hn286_2) (.int .i64 ((rd_T64 l0_1 x27_2).f2))).trans hx286_0; replace hx286_0 := (cell_far (p := ⟨gb284, 3, none⟩) (by first | (rw [add_block]; exact hn286_3) | (show (Addr.add _ _).block ≠ _; rw [add_block]; exact hn286_3) | exact hn286_3) (.int .i64 ((rd_T64 l0_1 x27_2).f3))).trans hx286_0; (try have hy286_0 := fun (n_ : Nat) => (show ((((((w25.drewN n_).setCell ⟨gb284, 0, none⟩ (.int .i64 ((rd_T64 l0_1 x27_2).f0))).setCell ⟨gb284, 1, none⟩ (.int .i64 ((rd_T64 l0_1 x27_2).f1))).setCell ⟨gb284, 2, none⟩ (.int .i64 ((rd_T64 l0_1 x27_2).f2))).setCell ⟨gb284, 3, none⟩ (.int .i64 ((rd_T64 l0_1 x27_2).f3)))).cell? _ = some _ from hx286_0)); clear hn286_0; clear hn286_1; clear hn286_2; clear hn286_3; replace p286 := eq_true p286; replace q286 := eq_true q286) | ((with_reducible refine gate_builtin (b := .append) (xs := #[.tmp 45, .tmp 47]) rfl ?_); at_builtin; refine Kd.R_append (Kd.int .i64) (w0 := w) w.heap.size rfl (.tmp 45) (.tmp 47) 47 2 (.int .i64 0) 8 rfl Try.underlying47 info2 rfl (by decide) (by omega) u4 x4_2 x27_2 [.int .i64 x27_2] (fun k_ => some k_ ≠ (.slice (some ad285) x5_2.length co28 : Value).ownBlock) (fun _ => False) rfl (by first | (go_simp; done) | (go_simp; rfl)) ?aP (fun _ hk => hk.elim) ?aF ?aO ?aB ?aS ?aL ?_; (case aP => exact rfl); (case aB => exact (by repeat (first | (with_reducible first | exact HB.out | apply below_alloc | apply pw_below_drewN | apply below_drew1 | refine below_set ?_ GE273.out | refine below_set ?_ GE284.out) | exact HB.out))); (case aF => exact (fun k_ hk => Kd.fresh' (Kd.R_lt (by (with_reducible repeat (first | apply Kd.R_alloc | apply Kd.R_drewN | apply Kd.R_drew)); exact (Kd.R_mono (Kd.R_far (p := ⟨gb284, 3, none⟩) (Kd.R_far (p := ⟨gb284, 2, none⟩) (Kd.R_far (p := ⟨gb284, 1, none⟩) (Kd.R_far (p := ⟨gb284, 0, none⟩) (Kd.R_types HO_5.out BK284.out (by decide)) (fun _ hk => hk.2) (.int .i64 ((rd_T64 l0_1 x27_2).f0))) (fun _ hk => hk.2) (.int .i64 ((rd_T64 l0_1 x27_2).f1))) (fun _ hk => hk.2) (.int .i64 ((rd_T64 l0_1 x27_2).f2))) (fun _ hk => hk.2) (.int .i64 ((rd_T64 l0_1 x27_2).f3))) (fun _ h_ => h_.1)))) k_ hk)); (case aO => exact (by (with_reducible repeat (first | apply Kd.R_alloc | apply Kd.R_drewN | apply Kd.R_drew)); exact Kd.R_mono (Kd.R_far (p := ⟨gb284, 3, none⟩) (Kd.R_far (p := ⟨gb284, 2, none⟩) (Kd.R_far (p := ⟨gb284, 1, none⟩) (Kd.R_far (p := ⟨gb284, 0, none⟩) (Kd.R_types HO_4.out BK284.out (by decide)) (fun _ hk => hk.2) (.int .i64 ((rd_T64 l0_1 x27_2).f0))) (fun _ hk => hk.2) (.int .i64 ((rd_T64 l0_1 x27_2).f1))) (fun _ hk => hk.2) (.int .i64 ((rd_T64 l0_1 x27_2).f2))) (fun _ hk => hk.2) (.int .i64 ((rd_T64 l0_1 x27_2).f3))) (fun _ hk => hk.1))); (case aS => exact (below_size (by repeat (first | (with_reducible first | exact HB.out | apply below_alloc | apply pw_below_drewN | apply below_drew1 | refine below_set ?_ GE273.out | refine below_set ?_ GE284.out) | exact HB.out)))); (case aL => have := LMc24.out; omega); intro v288 w29 ho hb hg hat; rw [← Ny287.out] at ho; have n0_ := Aside0.mk (Kd.R_after (ok := (fun _ => True)) (by (with_reducible repeat (first | apply Kd.R_alloc | apply Kd.R_drewN | apply Kd.R_drew)); exact Kd.R_mono (Kd.R_far (p := ⟨gb284, 3, none⟩) (Kd.R_far (p := ⟨gb284, 2, none⟩) (Kd.R_far (p := ⟨gb284, 1, none⟩) (Kd.R_far (p := ⟨gb284, 0, none⟩) (Kd.R_types HO_5.out BK284.out (by decide)) (fun _ hk => hk.2) (.int .i64 ((rd_T64 l0_1 x27_2).f0))) (fun _ hk => hk.2) (.int .i64 ((rd_T64 l0_1 x27_2).f1))) (fun _ hk => hk.2) (.int .i64 ((rd_T64 l0_1 x27_2).f2))) (fun _ hk => hk.2) (.int .i64 ((rd_T64 l0_1 x27_2).f3))) (fun _ hk => ⟨trivial, hk.1⟩)) hg hat); have n1_ := Aside0.mk (blk_grown (g := gb273) (o := .cells #[.int .i64 a0_0, .slice (some ad283) l0_1.length c0_1] 39 (0, 0)) (by (with_reducible repeat (first | refine blk_drewN ?_ _ | refine blk_drew ?_ | refine blk_alloc ?_ _)); refine blk_far ?_ NB273_284.out _; (with_reducible repeat (first | refine blk_drewN ?_ _ | refine blk_drew ?_ | refine blk_alloc ?_ _)); refine blk_far ?_ NB273_284.out _; (with_reducible repeat (first | refine blk_drewN ?_ _ | refine blk_drew ?_ | refine blk_alloc ?_ _)); refine blk_far ?_ NB273_284.out _; (with_reducible repeat (first | refine blk_drewN ?_ _ | refine blk_drew ?_ | refine blk_alloc ?_ _)); refine blk_far ?_ NB273_284.out _; (with_reducible repeat (first | refine blk_drewN ?_ _ | refine blk_drew ?_ | refine blk_alloc ?_ _)); exact BK273.out) hg (Kd.R_ne HO_4.out BK273.out (by decide))); have n2_ := Aside0.mk (blk_grown (g := gb284) (o := .cells #[.int .i64 ((rd_T64 l0_1 x27_2).f0), .int .i64 ((rd_T64 l0_1 x27_2).f1), .int .i64 ((rd_T64 l0_1 x27_2).f2), .int .i64 ((rd_T64 l0_1 x27_2).f3)] 64 (0, 0)) (by (with_reducible repeat (first | refine blk_drewN ?_ _ | refine blk_drew ?_ | refine blk_alloc ?_ _)); refine blk_put (cs := #[.int .i64 ((rd_T64 l0_1 x27_2).f0), .int .i64 ((rd_T64 l0_1 x27_2).f1), .int .i64 ((rd_T64 l0_1 x27_2).f2), .int .i64 0]) ?_ 3 _ rfl; (with_reducible repeat (first | refine blk_drewN ?_ _ | refine blk_drew ?_ | refine blk_alloc ?_ _)); refine blk_put (cs := #[.int .i64 ((rd_T64 l0_1 x27_2).f0), .int .i64 ((rd_T64 l0_1 x27_2).f1), .int .i64 0, .int .i64 0]) ?_ 2 _ rfl; (with_reducible repeat (first | refine blk_drewN ?_ _ | refine blk_drew ?_ | refine blk_alloc ?_ _)); refine blk_put (cs := #[.int .i64 ((rd_T64 l0_1 x27_2).f0), .int .i64 0, .int .i64 0, .int .i64 0]) ?_ 1 _ rfl; (with_reducible repeat (first | refine blk_drewN ?_ _ | refine blk_drew ?_ | refine blk_alloc ?_ _)); refine blk_put (cs := #[.int .i64 0, .int .i64 0, .int .i64 0, .int .i64 0]) ?_ 0 _ rfl; (with_reducible repeat (first | refine blk_drewN ?_ _ | refine blk_drew ?_ | refine blk_alloc ?_ _)); exact BK284.out) hg (Kd.R_ne HO_4.out BK284.out (by decide))); have n3_ := Aside0.mk (hb); have n4_ := Aside0.mk (ho); clear HO_5; clear BK273; clear BK284; clear HB; clear HO_4; have HO_5 := n0_; have BK273 := n1_; have BK284 := n2_; have HB := n3_; have HO289 := n4_; clear n0_ n1_ n2_ n3_ n4_; clear ho hb hg hat))
                              repeat (go_quiet (first | ((with_reducible refine gate_dst (N := 8) rfl ?_); refine box_event ?hg (N := 8) ?hd (cs := #[.int .i64 0, .int .i64 0, .int .i64 0, .int .i64 0]) (t := 64) ?hr ?_; (case hd => rfl); (case hg => rfl); (case hr => first | (go_simp; done) | (go_simp; rfl)); intro gb284 hg w25 hbox hb; have n0_ := Aside0.mk (Kd.R_below (by (with_reducible repeat (first | apply Kd.R_alloc | apply Kd.R_drewN | apply Kd.R_drew)); exact HO_4.out) hb); have n1_ := Aside0.mk (Kd.R_below (by (with_reducible repeat (first | apply Kd.R_alloc | apply Kd.R_drewN | apply Kd.R_drew)); exact HO_5.out) hb); have n2_ := Aside0.mk (blk_below (g := gb273) (o := .cells #[.int .i64 a0_0, .slice (some ad283) l0_1.length c0_1] 39 (0, 0)) (by (with_reducible repeat (first | refine blk_drewN ?_ _ | refine blk_drew ?_ | refine blk_alloc ?_ _)); exact BK273.out) hb); have n3_ := Aside0.mk (below_step (by repeat (first | (with_reducible first | exact HB.out | apply below_alloc | apply pw_below_drewN | apply below_drew1 | refine below_set ?_ GE273.out) | exact HB.out)) hb); have n4_ := Aside0.mk (hbox); have n5_ := Aside0.mk ((by rw [hg]; exact (below_size (by repeat (first | (with_reducible first | exact HB.out | apply below_alloc | apply pw_below_drewN | apply below_drew1 | refine below_set ?_ GE273.out) | exact HB.out))) : w.heap.size ≤ gb284)); have n6_ := Aside0.mk ((by rw [hg]; exact (below_size (by repeat (first | (with_reducible first | exact HB.out | apply below_alloc | apply pw_below_drewN | apply below_drew1 | refine below_set ?_ GE273.out) | exact HB.out))) : w.heap.size ≤ gb284)); have n7_ := Aside0.mk ((by rw [hg]; exact Nat.ne_of_lt (blk_lt (g := gb273) (o := .cells #[.int .i64 a0_0, .slice (some ad283) l0_1.length c0_1] 39 (0, 0)) (by (with_reducible repeat (first | refine blk_drewN ?_ _ | refine blk_drew ?_ | refine blk_alloc ?_ _)); exact BK273.out)) : gb273 ≠ gb284)); have n8_ := Aside0.mk ((by rw [hg]; exact Nat.ne_of_gt (blk_lt (g := gb273) (o := .cells #[.int .i64 a0_0, .slice (some ad283) l0_1.length c0_1] 39 (0, 0)) (by (with_reducible repeat (first | refine blk_drewN ?_ _ | refine blk_drew ?_ | refine blk_alloc ?_ _)); exact BK273.out)) : gb284 ≠ gb273)); clear HO_4; clear HO_5; clear BK273; clear HB; have HO_4 := n0_; have HO_5 := n1_; have BK273 := n2_; have HB := n3_; have BK284 := n4_; have GW284 := n5_; have GE284 := n6_; have NB273_284 := n7_; have NB284_273 := n8_; clear n0_ n1_ n2_ n3_ n4_ n5_ n6_ n7_ n8_; clear hb hbox hg; have hnb26 := NB284_273.out; have hnc26 := NB273_284.out; have hcz27_0 : w25.cell? ⟨gb284, 0, none⟩ = some (.int .i64 0) := (blk_cell BK284.out 0).trans rfl; have hcz27_1 : w25.cell? ⟨gb284, 1, none⟩ = some (.int .i64 0) := (blk_cell BK284.out 1).trans rfl; have hcz27_2 : w25.cell? ⟨gb284, 2, none⟩ = some (.int .i64 0) := (blk_cell BK284.out 2).trans rfl; have hcz27_3 : w25.cell? ⟨gb284, 3, none⟩ = some (.int .i64 0) := (blk_cell BK284.out 3).trans rfl; have hfz27_0 := blk_frozen BK284.out 0; have hfz27_1 := blk_frozen BK284.out 1; have hfz27_2 := blk_frozen BK284.out 2; have hfz27_3 := blk_frozen BK284.out 3; obtain ⟨Ao28, co28, eo28⟩ := Kd.R_slice HO_5.out; subst eo28; have p285 : 0 ≤ (((rd_T64 l0_1 x27_2).f0) : Int) := of_decide_eq_true (by first | (with_reducible assumption) | assumption); have q285 : ((rd_T64 l0_1 x27_2).f0) < (x5_2.length : Int) := of_decide_eq_true (by first | (with_reducible assumption) | assumption); obtain ⟨ad285, e285, hx285_0⟩ := Kd.at_int (Kd.R_reads' HO_5.out).2.2 ((rd_T64 l0_1 x27_2).f0) p285 q285; cases e285; have hn285_0 : ad285.block ≠ gb284 := Kd.own_blk (Kd.R_ne HO_5.out BK284.out (by decide)); have hn285_1 : ad285.block ≠ gb284 := Kd.own_blk (Kd.R_ne HO_5.out BK284.out (by decide)); have hn285_2 : ad285.block ≠ gb284 := Kd.own_blk (Kd.R_ne HO_5.out BK284.out (by decide)); have hn285_3 : ad285.block ≠ gb284 := Kd.own_blk (Kd.R_ne HO_5.out BK284.out (by decide)); replace hx285_0 := (cell_far (p := ⟨gb284, 0, none⟩) (by first | (rw [add_block]; exact hn285_0) | (show (Addr.add _ _).block ≠ _; rw [add_block]; exact hn285_0) | exact hn285_0) (.int .i64 ((rd_T64 l0_1 x27_2).f0))).trans hx285_0; replace hx285_0 := (cell_far (p := ⟨gb284, 1, none⟩) (by first | (rw [add_block]; exact hn285_1) | (show (Addr.add _ _).block ≠ _; rw [add_block]; exact hn285_1) | exact hn285_1) (.int .i64 ((rd_T64 l0_1 x27_2).f1))).trans hx285_0; replace hx285_0 := (cell_far (p := ⟨gb284, 2, none⟩) (by first | (rw [add_block]; exact hn285_2) | (show (Addr.add _ _).block ≠ _; rw [add_block]; exact hn285_2) | exact hn285_2) (.int .i64 ((rd_T64 l0_1 x27_2).f2))).trans hx285_0; replace hx285_0 := (cell_far (p := ⟨gb284, 3, none⟩) (by first | (rw [add_block]; exact hn285_3) | (show (Addr.add _ _).block ≠ _; rw [add_block]; exact hn285_3) | exact hn285_3) (.int .i64 ((rd_T64 l0_1 x27_2).f3))).trans hx285_0; (try have hy285_0 := fun (n_ : Nat) => (show ((((((w25.drewN n_).setCell ⟨gb284, 0, none⟩ (.int .i64 ((rd_T64 l0_1 x27_2).f0))).setCell ⟨gb284, 1, none⟩ (.int .i64 ((rd_T64 l0_1 x27_2).f1))).setCell ⟨gb284, 2, none⟩ (.int .i64 ((rd_T64 l0_1 x27_2).f2))).setCell ⟨gb284, 3, none⟩ (.int .i64 ((rd_T64 l0_1 x27_2).f3)))).cell? _ = some _ from hx285_0)); clear hn285_0; clear hn285_1; clear hn285_2; clear hn285_3; replace p285 := eq_true p285; replace q285 := eq_true q285; have p286 : 0 ≤ (((rd_T64 l0_1 x27_2).f1) : Int) := of_decide_eq_true (by first | (with_reducible assumption) | assumption); have q286 : ((rd_T64 l0_1 x27_2).f1) < (x5_2.length : Int) := of_decide_eq_true (by first | (with_reducible assumption) | assumption); obtain ⟨ad286, e286, hx286_0⟩ := Kd.at_int (Kd.R_reads' HO_5.out).2.2 ((rd_T64 l0_1 x27_2).f1) p286 q286; obtain rfl : ad285 = ad286 := (by injection e286); have hn286_0 : ad285.block ≠ gb284 := Kd.own_blk (Kd.R_ne HO_5.out BK284.out (by decide)); have hn286_1 : ad285.block ≠ gb284 := Kd.own_blk (Kd.R_ne HO_5.out BK284.out (by decide)); have hn286_2 : ad285.block ≠ gb284 := Kd.own_blk (Kd.R_ne HO_5.out BK284.out (by decide)); have hn286_3 : ad285.block ≠ gb284 := Kd.own_blk (Kd.R_ne HO_5.out BK284.out (by decide)); replace hx286_0 := (cell_far (p := ⟨gb284, 0, none⟩) (by first | (rw [add_block]; exact hn286_0) | (show (Addr.add _ _).block ≠ _; rw [add_block]; exact hn286_0) | exact hn286_0) (.int .i64 ((rd_T64 l0_1 x27_2).f0))).trans hx286_0; replace hx286_0 := (cell_far (p := ⟨gb284, 1, none⟩) (by first | (rw [add_block]; exact hn286_1) | (show (Addr.add _ _).block ≠ _; rw [add_block]; exact hn286_1) | exact hn286_1) (.int .i64 ((rd_T64 l0_1 x27_2).f1))).trans hx286_0; replace hx286_0 := (cell_far (p := ⟨gb284, 2, none⟩) (by first | (rw [add_block]; exact hn286_2) | (show (Addr.add _ _).block ≠ _; rw [add_block]; exact hn286_2) | exact hn286_2) (.int .i64 ((rd_T64 l0_1 x27_2).f2))).trans hx286_0; replace hx286_0 := (cell_far (p := ⟨gb284, 3, none⟩) (by first | (rw [add_block]; exact hn286_3) | (show (Addr.add _ _).block ≠ _; rw [add_block]; exact hn286_3) | exact hn286_3) (.int .i64 ((rd_T64 l0_1 x27_2).f3))).trans hx286_0; (try have hy286_0 := fun (n_ : Nat) => (show ((((((w25.drewN n_).setCell ⟨gb284, 0, none⟩ (.int .i64 ((rd_T64 l0_1 x27_2).f0))).setCell ⟨gb284, 1, none⟩ (.int .i64 ((rd_T64 l0_1 x27_2).f1))).setCell ⟨gb284, 2, none⟩ (.int .i64 ((rd_T64 l0_1 x27_2).f2))).setCell ⟨gb284, 3, none⟩ (.int .i64 ((rd_T64 l0_1 x27_2).f3)))).cell? _ = some _ from hx286_0)); clear hn286_0; clear hn286_1; clear hn286_2; clear hn286_3; replace p286 := eq_true p286; replace q286 := eq_true q286) | ((with_reducible refine gate_builtin (b := .append) (xs := #[.tmp 45, .tmp 47]) rfl ?_); at_builtin; refine Kd.R_append (Kd.int .i64) (w0 := w) w.heap.size rfl (.tmp 45) (.tmp 47) 47 2 (.int .i64 0) 8 rfl Try.underlying47 info2 rfl (by decide) (by omega) u4 x4_2 x27_2 [.int .i64 x27_2] (fun k_ => some k_ ≠ (.slice (some ad285) x5_2.length co28 : Value).ownBlock) (fun _ => False) rfl (by first | (go_simp; done) | (go_simp; rfl)) ?aP (fun _ hk => hk.elim) ?aF ?aO ?aB ?aS ?aL ?_; (case aP => exact rfl); (case aB => exact (by repeat (first | (with_reducible first | exact HB.out | apply below_alloc | apply pw_below_drewN | apply below_drew1 | refine below_set ?_ GE273.out | refine below_set ?_ GE284.out) | exact HB.out))); (case aF => exact (fun k_ hk => Kd.fresh' (Kd.R_lt (by (with_reducible repeat (first | apply Kd.R_alloc | apply Kd.R_drewN | apply Kd.R_drew)); exact (Kd.R_mono (Kd.R_far (p := ⟨gb284, 3, none⟩) (Kd.R_far (p := ⟨gb284, 2, none⟩) (Kd.R_far (p := ⟨gb284, 1, none⟩) (Kd.R_far (p := ⟨gb284, 0, none⟩) (Kd.R_types HO_5.out BK284.out (by decide)) (fun _ hk => hk.2) (.int .i64 ((rd_T64 l0_1 x27_2).f0))) (fun _ hk => hk.2) (.int .i64 ((rd_T64 l0_1 x27_2).f1))) (fun _ hk => hk.2) (.int .i64 ((rd_T64 l0_1 x27_2).f2))) (fun _ hk => hk.2) (.int .i64 ((rd_T64 l0_1 x27_2).f3))) (fun _ h_ => h_.1)))) k_ hk)); (case aO => exact (by (with_reducible repeat (first | apply Kd.R_alloc | apply Kd.R_drewN | apply Kd.R_drew)); exact Kd.R_mono (Kd.R_far (p := ⟨gb284, 3, none⟩) (Kd.R_far (p := ⟨gb284, 2, none⟩) (Kd.R_far (p := ⟨gb284, 1, none⟩) (Kd.R_far (p := ⟨gb284, 0, none⟩) (Kd.R_types HO_4.out BK284.out (by decide)) (fun _ hk => hk.2) (.int .i64 ((rd_T64 l0_1 x27_2).f0))) (fun _ hk => hk.2) (.int .i64 ((rd_T64 l0_1 x27_2).f1))) (fun _ hk => hk.2) (.int .i64 ((rd_T64 l0_1 x27_2).f2))) (fun _ hk => hk.2) (.int .i64 ((rd_T64 l0_1 x27_2).f3))) (fun _ hk => hk.1))); (case aS => exact (below_size (by repeat (first | (with_reducible first | exact HB.out | apply below_alloc | apply pw_below_drewN | apply below_drew1 | refine below_set ?_ GE273.out | refine below_set ?_ GE284.out) | exact HB.out)))); (case aL => have := LMc24.out; omega); intro v288 w29 ho hb hg hat; rw [← Ny287.out] at ho; have n0_ := Aside0.mk (Kd.R_after (ok := (fun _ => True)) (by (with_reducible repeat (first | apply Kd.R_alloc | apply Kd.R_drewN | apply Kd.R_drew)); exact Kd.R_mono (Kd.R_far (p := ⟨gb284, 3, none⟩) (Kd.R_far (p := ⟨gb284, 2, none⟩) (Kd.R_far (p := ⟨gb284, 1, none⟩) (Kd.R_far (p := ⟨gb284, 0, none⟩) (Kd.R_types HO_5.out BK284.out (by decide)) (fun _ hk => hk.2) (.int .i64 ((rd_T64 l0_1 x27_2).f0))) (fun _ hk => hk.2) (.int .i64 ((rd_T64 l0_1 x27_2).f1))) (fun _ hk => hk.2) (.int .i64 ((rd_T64 l0_1 x27_2).f2))) (fun _ hk => hk.2) (.int .i64 ((rd_T64 l0_1 x27_2).f3))) (fun _ hk => ⟨trivial, hk.1⟩)) hg hat); have n1_ := Aside0.mk (blk_grown (g := gb273) (o := .cells #[.int .i64 a0_0, .slice (some ad283) l0_1.length c0_1] 39 (0, 0)) (by (with_reducible repeat (first | refine blk_drewN ?_ _ | refine blk_drew ?_ | refine blk_alloc ?_ _)); refine blk_far ?_ NB273_284.out _; (with_reducible repeat (first | refine blk_drewN ?_ _ | refine blk_drew ?_ | refine blk_alloc ?_ _)); refine blk_far ?_ NB273_284.out _; (with_reducible repeat (first | refine blk_drewN ?_ _ | refine blk_drew ?_ | refine blk_alloc ?_ _)); refine blk_far ?_ NB273_284.out _; (with_reducible repeat (first | refine blk_drewN ?_ _ | refine blk_drew ?_ | refine blk_alloc ?_ _)); refine blk_far ?_ NB273_284.out _; (with_reducible repeat (first | refine blk_drewN ?_ _ | refine blk_drew ?_ | refine blk_alloc ?_ _)); exact BK273.out) hg (Kd.R_ne HO_4.out BK273.out (by decide))); have n2_ := Aside0.mk (blk_grown (g := gb284) (o := .cells #[.int .i64 ((rd_T64 l0_1 x27_2).f0), .int .i64 ((rd_T64 l0_1 x27_2).f1), .int .i64 ((rd_T64 l0_1 x27_2).f2), .int .i64 ((rd_T64 l0_1 x27_2).f3)] 64 (0, 0)) (by (with_reducible repeat (first | refine blk_drewN ?_ _ | refine blk_drew ?_ | refine blk_alloc ?_ _)); refine blk_put (cs := #[.int .i64 ((rd_T64 l0_1 x27_2).f0), .int .i64 ((rd_T64 l0_1 x27_2).f1), .int .i64 ((rd_T64 l0_1 x27_2).f2), .int .i64 0]) ?_ 3 _ rfl; (with_reducible repeat (first | refine blk_drewN ?_ _ | refine blk_drew ?_ | refine blk_alloc ?_ _)); refine blk_put (cs := #[.int .i64 ((rd_T64 l0_1 x27_2).f0), .int .i64 ((rd_T64 l0_1 x27_2).f1), .int .i64 0, .int .i64 0]) ?_ 2 _ rfl; (with_reducible repeat (first | refine blk_drewN ?_ _ | refine blk_drew ?_ | refine blk_alloc ?_ _)); refine blk_put (cs := #[.int .i64 ((rd_T64 l0_1 x27_2).f0), .int .i64 0, .int .i64 0, .int .i64 0]) ?_ 1 _ rfl; (with_reducible repeat (first | refine blk_drewN ?_ _ | refine blk_drew ?_ | refine blk_alloc ?_ _)); refine blk_put (cs := #[.int .i64 0, .int .i64 0, .int .i64 0, .int .i64 0]) ?_ 0 _ rfl; (with_reducible repeat (first | refine blk_drewN ?_ _ | refine blk_drew ?_ | refine blk_alloc ?_ _)); exact BK284.out) hg (Kd.R_ne HO_4.out BK284.out (by decide))); have n3_ := Aside0.mk (hb); have n4_ := Aside0.mk (ho); clear HO_5; clear BK273; clear BK284; clear HB; clear HO_4; have HO_5 := n0_; have BK273 := n1_; have BK284 := n2_; have HB := n3_; have HO289 := n4_; clear n0_ n1_ n2_ n3_ n4_; clear ho hb hg hat)); try go_wp2_with (first | ((with_reducible refine gate_dst (N := 8) rfl ?_); refine box_event ?hg (N := 8) ?hd (cs := #[.int .i64 0, .int .i64 0, .int .i64 0, .int .i64 0]) (t := 64) ?hr ?_; (case hd => rfl); (case hg => rfl); (case hr => first | (go_simp; done) | (go_simp; rfl)); intro gb284 hg w25 hbox hb; have n0_ := Aside0.mk (Kd.R_below (by (with_reducible repeat (first | apply Kd.R_alloc | apply Kd.R_drewN | apply Kd.R_drew)); exact HO_4.out) hb); have n1_ := Aside0.mk (Kd.R_below (by (with_reducible repeat (first | apply Kd.R_alloc | apply Kd.R_drewN | apply Kd.R_drew)); exact HO_5.out) hb); have n2_ := Aside0.mk (blk_below (g := gb273) (o := .cells #[.int .i64 a0_0, .slice (some ad283) l0_1.length c0_1] 39 (0, 0)) (by (with_reducible repeat (first | refine blk_drewN ?_ _ | refine blk_drew ?_ | refine blk_alloc ?_ _)); exact BK273.out) hb); have n3_ := Aside0.mk (below_step (by repeat (first | (with_reducible first | exact HB.out | apply below_alloc | apply pw_below_drewN | apply below_drew1 | refine below_set ?_ GE273.out) | exact HB.out)) hb); have n4_ := Aside0.mk (hbox); have n5_ := Aside0.mk ((by rw [hg]; exact (below_size (by repeat (first | (with_reducible first | exact HB.out | apply below_alloc | apply pw_below_drewN | apply below_drew1 | refine below_set ?_ GE273.out) | exact HB.out))) : w.heap.size ≤ gb284)); have n6_ := Aside0.mk ((by rw [hg]; exact (below_size (by repeat (first | (with_reducible first | exact HB.out | apply below_alloc | apply pw_below_drewN | apply below_drew1 | refine below_set ?_ GE273.out) | exact HB.out))) : w.heap.size ≤ gb284)); have n7_ := Aside0.mk ((by rw [hg]; exact Nat.ne_of_lt (blk_lt (g := gb273) (o := .cells #[.int .i64 a0_0, .slice (some ad283) l0_1.length c0_1] 39 (0, 0)) (by (with_reducible repeat (first | refine blk_drewN ?_ _ | refine blk_drew ?_ | refine blk_alloc ?_ _)); exact BK273.out)) : gb273 ≠ gb284)); have n8_ := Aside0.mk ((by rw [hg]; exact Nat.ne_of_gt (blk_lt (g := gb273) (o := .cells #[.int .i64 a0_0, .slice (some ad283) l0_1.length c0_1] 39 (0, 0)) (by (with_reducible repeat (first | refine blk_drewN ?_ _ | refine blk_drew ?_ | refine blk_alloc ?_ _)); exact BK273.out)) : gb284 ≠ gb273)); clear HO_4; clear HO_5; clear BK273; clear HB; have HO_4 := n0_; have HO_5 := n1_; have BK273 := n2_; have HB := n3_; have BK284 := n4_; have GW284 := n5_; have GE284 := n6_; have NB273_284 := n7_; have NB284_273 := n8_; clear n0_ n1_ n2_ n3_ n4_ n5_ n6_ n7_ n8_; clear hb hbox hg; have hnb26 := NB284_273.out; have hnc26 := NB273_284.out; have hcz27_0 : w25.cell? ⟨gb284, 0, none⟩ = some (.int .i64 0) := (blk_cell BK284.out 0).trans rfl; have hcz27_1 : w25.cell? ⟨gb284, 1, none⟩ = some (.int .i64 0) := (blk_cell BK284.out 1).trans rfl; have hcz27_2 : w25.cell? ⟨gb284, 2, none⟩ = some (.int .i64 0) := (blk_cell BK284.out 2).trans rfl; have hcz27_3 : w25.cell? ⟨gb284, 3, none⟩ = some (.int .i64 0) := (blk_cell BK284.out 3).trans rfl; have hfz27_0 := blk_frozen BK284.out 0; have hfz27_1 := blk_frozen BK284.out 1; have hfz27_2 := blk_frozen BK284.out 2; have hfz27_3 := blk_frozen BK284.out 3; obtain ⟨Ao28, co28, eo28⟩ := Kd.R_slice HO_5.out; subst eo28; have p285 : 0 ≤ (((rd_T64 l0_1 x27_2).f0) : Int) := of_decide_eq_true (by first | (with_reducible assumption) | assumption); have q285 : ((rd_T64 l0_1 x27_2).f0) < (x5_2.length : Int) := of_decide_eq_true (by first | (with_reducible assumption) | assumption); obtain ⟨ad285, e285, hx285_0⟩ := Kd.at_int (Kd.R_reads' HO_5.out).2.2 ((rd_T64 l0_1 x27_2).f0) p285 q285; cases e285; have hn285_0 : ad285.block ≠ gb284 := Kd.own_blk (Kd.R_ne HO_5.out BK284.out (by decide)); have hn285_1 : ad285.block ≠ gb284 := Kd.own_blk (Kd.R_ne HO_5.out BK284.out (by decide)); have hn285_2 : ad285.block ≠ gb284 := Kd.own_blk (Kd.R_ne HO_5.out BK284.out (by decide)); have hn285_3 : ad285.block ≠ gb284 := Kd.own_blk (Kd.R_ne HO_5.out BK284.out (by decide)); replace hx285_0 := (cell_far (p := ⟨gb284, 0, none⟩) (by first | (rw [add_block]; exact hn285_0) | (show (Addr.add _ _).block ≠ _; rw [add_block]; exact hn285_0) | exact hn285_0) (.int .i64 ((rd_T64 l0_1 x27_2).f0))).trans hx285_0; replace hx285_0 := (cell_far (p := ⟨gb284, 1, none⟩) (by first | (rw [add_block]; exact hn285_1) | (show (Addr.add _ _).block ≠ _; rw [add_block]; exact hn285_1) | exact hn285_1) (.int .i64 ((rd_T64 l0_1 x27_2).f1))).trans hx285_0; replace hx285_0 := (cell_far (p := ⟨gb284, 2, none⟩) (by first | (rw [add_block]; exact hn285_2) | (show (Addr.add _ _).block ≠ _; rw [add_block]; exact hn285_2) | exact hn285_2) (.int .i64 ((rd_T64 l0_1 x27_2).f2))).trans hx285_0; replace hx285_0 := (cell_far (p := ⟨gb284, 3, none⟩) (by first | (rw [add_block]; exact hn285_3) | (show (Addr.add _ _).block ≠ _; rw [add_block]; exact hn285_3) | exact hn285_3) (.int .i64 ((rd_T64 l0_1 x27_2).f3))).trans hx285_0; (try have hy285_0 := fun (n_ : Nat) => (show ((((((w25.drewN n_).setCell ⟨gb284, 0, none⟩ (.int .i64 ((rd_T64 l0_1 x27_2).f0))).setCell ⟨gb284, 1, none⟩ (.int .i64 ((rd_T64 l0_1 x27_2).f1))).setCell ⟨gb284, 2, none⟩ (.int .i64 ((rd_T64 l0_1 x27_2).f2))).setCell ⟨gb284, 3, none⟩ (.int .i64 ((rd_T64 l0_1 x27_2).f3)))).cell? _ = some _ from hx285_0)); clear hn285_0; clear hn285_1; clear hn285_2; clear hn285_3; replace p285 := eq_true p285; replace q285 := eq_true q285; have p286 : 0 ≤ (((rd_T64 l0_1 x27_2).f1) : Int) := of_decide_eq_true (by first | (with_reducible assumption) | assumption); have q286 : ((rd_T64 l0_1 x27_2).f1) < (x5_2.length : Int) := of_decide_eq_true (by first | (with_reducible assumption) | assumption); obtain ⟨ad286, e286, hx286_0⟩ := Kd.at_int (Kd.R_reads' HO_5.out).2.2 ((rd_T64 l0_1 x27_2).f1) p286 q286; obtain rfl : ad285 = ad286 := (by injection e286); have hn286_0 : ad285.block ≠ gb284 := Kd.own_blk (Kd.R_ne HO_5.out BK284.out (by decide)); have hn286_1 : ad285.block ≠ gb284 := Kd.own_blk (Kd.R_ne HO_5.out BK284.out (by decide)); have hn286_2 : ad285.block ≠ gb284 := Kd.own_blk (Kd.R_ne HO_5.out BK284.out (by decide)); have hn286_3 : ad285.block ≠ gb284 := Kd.own_blk (Kd.R_ne HO_5.out BK284.out (by decide)); replace hx286_0 := (cell_far (p := ⟨gb284, 0, none⟩) (by first | (rw [add_block]; exact hn286_0) | (show (Addr.add _ _).block ≠ _; rw [add_block]; exact hn286_0) | exact hn286_0) (.int .i64 ((rd_T64 l0_1 x27_2).f0))).trans hx286_0; replace hx286_0 := (cell_far (p := ⟨gb284, 1, none⟩) (by first | (rw [add_block]; exact hn286_1) | (show (Addr.add _ _).block ≠ _; rw [add_block]; exact hn286_1) | exact hn286_1) (.int .i64 ((rd_T64 l0_1 x27_2).f1))).trans hx286_0; replace hx286_0 := (cell_far (p := ⟨gb284, 2, none⟩) (by first | (rw [add_block]; exact hn286_2) | (show (Addr.add _ _).block ≠ _; rw [add_block]; exact hn286_2) | exact hn286_2) (.int .i64 ((rd_T64 l0_1 x27_2).f2))).trans hx286_0; replace hx286_0 := (cell_far (p := ⟨gb284, 3, none⟩) (by first | (rw [add_block]; exact hn286_3) | (show (Addr.add _ _).block ≠ _; rw [add_block]; exact hn286_3) | exact hn286_3) (.int .i64 ((rd_T64 l0_1 x27_2).f3))).trans hx286_0; (try have hy286_0 := fun (n_ : Nat) => (show ((((((w25.drewN n_).setCell ⟨gb284, 0, none⟩ (.int .i64 ((rd_T64 l0_1 x27_2).f0))).setCell ⟨gb284, 1, none⟩ (.int .i64 ((rd_T64 l0_1 x27_2).f1))).setCell ⟨gb284, 2, none⟩ (.int .i64 ((rd_T64 l0_1 x27_2).f2))).setCell ⟨gb284, 3, none⟩ (.int .i64 ((rd_T64 l0_1 x27_2).f3)))).cell? _ = some _ from hx286_0)); clear hn286_0; clear hn286_1; clear hn286_2; clear hn286_3; replace p286 := eq_true p286; replace q286 := eq_true q286) | ((with_reducible refine gate_builtin (b := .append) (xs := #[.tmp 45, .tmp 47]) rfl ?_); at_builtin; refine Kd.R_append (Kd.int .i64) (w0 := w) w.heap.size rfl (.tmp 45) (.tmp 47) 47 2 (.int .i64 0) 8 rfl Try.underlying47 info2 rfl (by decide) (by omega) u4 x4_2 x27_2 [.int .i64 x27_2] (fun k_ => some k_ ≠ (.slice (some ad285) x5_2.length co28 : Value).ownBlock) (fun _ => False) rfl (by first | (go_simp; done) | (go_simp; rfl)) ?aP (fun _ hk => hk.elim) ?aF ?aO ?aB ?aS ?aL ?_; (case aP => exact rfl); (case aB => exact (by repeat (first | (with_reducible first | exact HB.out | apply below_alloc | apply pw_below_drewN | apply below_drew1 | refine below_set ?_ GE273.out | refine below_set ?_ GE284.out) | exact HB.out))); (case aF => exact (fun k_ hk => Kd.fresh' (Kd.R_lt (by (with_reducible repeat (first | apply Kd.R_alloc | apply Kd.R_drewN | apply Kd.R_drew)); exact (Kd.R_mono (Kd.R_far (p := ⟨gb284, 3, none⟩) (Kd.R_far (p := ⟨gb284, 2, none⟩) (Kd.R_far (p := ⟨gb284, 1, none⟩) (Kd.R_far (p := ⟨gb284, 0, none⟩) (Kd.R_types HO_5.out BK284.out (by decide)) (fun _ hk => hk.2) (.int .i64 ((rd_T64 l0_1 x27_2).f0))) (fun _ hk => hk.2) (.int .i64 ((rd_T64 l0_1 x27_2).f1))) (fun _ hk => hk.2) (.int .i64 ((rd_T64 l0_1 x27_2).f2))) (fun _ hk => hk.2) (.int .i64 ((rd_T64 l0_1 x27_2).f3))) (fun _ h_ => h_.1)))) k_ hk)); (case aO => exact (by (with_reducible repeat (first | apply Kd.R_alloc | apply Kd.R_drewN | apply Kd.R_drew)); exact Kd.R_mono (Kd.R_far (p := ⟨gb284, 3, none⟩) (Kd.R_far (p := ⟨gb284, 2, none⟩) (Kd.R_far (p := ⟨gb284, 1, none⟩) (Kd.R_far (p := ⟨gb284, 0, none⟩) (Kd.R_types HO_4.out BK284.out (by decide)) (fun _ hk => hk.2) (.int .i64 ((rd_T64 l0_1 x27_2).f0))) (fun _ hk => hk.2) (.int .i64 ((rd_T64 l0_1 x27_2).f1))) (fun _ hk => hk.2) (.int .i64 ((rd_T64 l0_1 x27_2).f2))) (fun _ hk => hk.2) (.int .i64 ((rd_T64 l0_1 x27_2).f3))) (fun _ hk => hk.1))); (case aS => exact (below_size (by repeat (first | (with_reducible first | exact HB.out | apply below_alloc | apply pw_below_drewN | apply below_drew1 | refine below_set ?_ GE273.out | refine below_set ?_ GE284.out) | exact HB.out)))); (case aL => have := LMc24.out; omega); intro v288 w29 ho hb hg hat; rw [← Ny287.out] at ho; have n0_ := Aside0.mk (Kd.R_after (ok := (fun _ => True)) (by (with_reducible repeat (first | apply Kd.R_alloc | apply Kd.R_drewN | apply Kd.R_drew)); exact Kd.R_mono (Kd.R_far (p := ⟨gb284, 3, none⟩) (Kd.R_far (p := ⟨gb284, 2, none⟩) (Kd.R_far (p := ⟨gb284, 1, none⟩) (Kd.R_far (p := ⟨gb284, 0, none⟩) (Kd.R_types HO_5.out BK284.out (by decide)) (fun _ hk => hk.2) (.int .i64 ((rd_T64 l0_1 x27_2).f0))) (fun _ hk => hk.2) (.int .i64 ((rd_T64 l0_1 x27_2).f1))) (fun _ hk => hk.2) (.int .i64 ((rd_T64 l0_1 x27_2).f2))) (fun _ hk => hk.2) (.int .i64 ((rd_T64 l0_1 x27_2).f3))) (fun _ hk => ⟨trivial, hk.1⟩)) hg hat); have n1_ := Aside0.mk (blk_grown (g := gb273) (o := .cells #[.int .i64 a0_0, .slice (some ad283) l0_1.length c0_1] 39 (0, 0)) (by (with_reducible repeat (first | refine blk_drewN ?_ _ | refine blk_drew ?_ | refine blk_alloc ?_ _)); refine blk_far ?_ NB273_284.out _; (with_reducible repeat (first | refine blk_drewN ?_ _ | refine blk_drew ?_ | refine blk_alloc ?_ _)); refine blk_far ?_ NB273_284.out _; (with_reducible repeat (first | refine blk_drewN ?_ _ | refine blk_drew ?_ | refine blk_alloc ?_ _)); refine blk_far ?_ NB273_284.out _; (with_reducible repeat (first | refine blk_drewN ?_ _ | refine blk_drew ?_ | refine blk_alloc ?_ _)); refine blk_far ?_ NB273_284.out _; (with_reducible repeat (first | refine blk_drewN ?_ _ | refine blk_drew ?_ | refine blk_alloc ?_ _)); exact BK273.out) hg (Kd.R_ne HO_4.out BK273.out (by decide))); have n2_ := Aside0.mk (blk_grown (g := gb284) (o := .cells #[.int .i64 ((rd_T64 l0_1 x27_2).f0), .int .i64 ((rd_T64 l0_1 x27_2).f1), .int .i64 ((rd_T64 l0_1 x27_2).f2), .int .i64 ((rd_T64 l0_1 x27_2).f3)] 64 (0, 0)) (by (with_reducible repeat (first | refine blk_drewN ?_ _ | refine blk_drew ?_ | refine blk_alloc ?_ _)); refine blk_put (cs := #[.int .i64 ((rd_T64 l0_1 x27_2).f0), .int .i64 ((rd_T64 l0_1 x27_2).f1), .int .i64 ((rd_T64 l0_1 x27_2).f2), .int .i64 0]) ?_ 3 _ rfl; (with_reducible repeat (first | refine blk_drewN ?_ _ | refine blk_drew ?_ | refine blk_alloc ?_ _)); refine blk_put (cs := #[.int .i64 ((rd_T64 l0_1 x27_2).f0), .int .i64 ((rd_T64 l0_1 x27_2).f1), .int .i64 0, .int .i64 0]) ?_ 2 _ rfl; (with_reducible repeat (first | refine blk_drewN ?_ _ | refine blk_drew ?_ | refine blk_alloc ?_ _)); refine blk_put (cs := #[.int .i64 ((rd_T64 l0_1 x27_2).f0), .int .i64 0, .int .i64 0, .int .i64 0]) ?_ 1 _ rfl; (with_reducible repeat (first | refine blk_drewN ?_ _ | refine blk_drew ?_ | refine blk_alloc ?_ _)); refine blk_put (cs := #[.int .i64 0, .int .i64 0, .int .i64 0, .int .i64 0]) ?_ 0 _ rfl; (with_reducible repeat (first | refine blk_drewN ?_ _ | refine blk_drew ?_ | refine blk_alloc ?_ _)); exact BK284.out) hg (Kd.R_ne HO_4.out BK284.out (by decide))); have n3_ := Aside0.mk (hb); have n4_ := Aside0.mk (ho); clear HO_5; clear BK273; clear BK284; clear HB; clear HO_4; have HO_5 := n0_; have BK273 := n1_; have BK284 := n2_; have HB := n3_; have HO289 := n4_; clear n0_ n1_ n2_ n3_ n4_; clear ho hb hg hat)))
                              have pz_ : 0 ≤ ((rd_T64 l0_1 x27_2).f0) := of_decide_eq_true (by first | (with_reducible assumption) | assumption)
                              have qz_ : ((rd_T64 l0_1 x27_2).f0) < ((x5_2.length : Int) : Int) := of_decide_eq_true (by first | (with_reducible assumption) | assumption)
                              obtain ⟨gz_, cz_, ez_, _, _, _, _⟩ := Kd.R_form HO_5.out (by omega)
                              (first | cases ez_ | (injection ez_ with ea_ en_ ec_; (first | subst ea_ | (injection ea_ with ea_; subst ea_)); subst ec_; clear en_))
                              clear pz_ qz_
                              simp only [add_plain] at hx285_0 hx286_0 ⊢
                              go_loopg [51] k2 (fun kq v51 w' => ∃ (x5_3 : List Int) (x51_3 : Int), v51 = .int .i64 x51_3 ∧ Aside0 (impl_Survey_tree.l2 kq y287 x5_3 (rd x5_2 ((rd_T64 l0_1 x27_2).f0)) (rd x5_2 ((rd_T64 l0_1 x27_2).f1)) l0_1 (l0_1.length : Int) x27_2 (x5_2.length : Int) x51_3 = some (r1, r2)) ∧ Aside0 (kq ≤ k2) ∧ Aside0 (Kd.R (Kd.int .i64) 2 w' w.heap.size (fun k_ => some k_ ≠ ((.slice (some ⟨gz_, 0, none⟩) x5_2.length co28) : Value).ownBlock) v288 y287) ∧ Aside0 (Kd.R (Kd.int .i64) 2 w' w.heap.size (fun k_ => some k_ ≠ (v288 : Value).ownBlock) (.slice (some ⟨gz_, 0, none⟩) x5_2.length co28) x5_3) ∧ Aside0 (w'.heap[gb273]? = some (.cells #[.int .i64 a0_0, (.slice (some ad283) l0_1.length c0_1)] 39 (0, 0))) ∧ Aside0 (w'.heap[gb284]? = some (.cells #[.int .i64 ((rd_T64 l0_1 x27_2).f0), .int .i64 ((rd_T64 l0_1 x27_2).f1), .int .i64 ((rd_T64 l0_1 x27_2).f2), .int .i64 ((rd_T64 l0_1 x27_2).f3)] 64 (0, 0))) ∧ Aside0 (Below w.heap.size w w'))
                              case atStart => exact ⟨(x5_2), (0), (by first | rfl | (simp; done) | (simp [*]; done)), H', ⟨Nat.le_refl _⟩, ⟨by (with_reducible repeat (first | apply Kd.R_alloc | apply Kd.R_drewN | apply Kd.R_drew)); exact HO289.out⟩, ⟨by (with_reducible repeat (first | apply Kd.R_alloc | apply Kd.R_drewN | apply Kd.R_drew)); exact Kd.R_mono HO_5.out (fun _ hk => hk.2)⟩, ⟨by (with_reducible repeat (first | refine blk_drewN ?_ _ | refine blk_drew ?_ | refine blk_alloc ?_ _)); exact BK273.out⟩, ⟨by (with_reducible repeat (first | refine blk_drewN ?_ _ | refine blk_drew ?_ | refine blk_alloc ?_ _)); exact BK284.out⟩, ⟨by repeat (first | (with_reducible first | exact HB.out | apply below_alloc | apply pw_below_drewN | apply below_drew1 | refine below_set ?_ GE273.out | refine below_set ?_ GE284.out) | exact HB.out)⟩⟩
                              case round =>
                                clear H'
                                try clear c1
                                try clear c2
                                try clear p2
                                try clear q2
                                try clear hx2
                                try clear c5
                                try clear p6
                                try clear c8
                                try clear c8b0
                                try clear c9
                                try clear c12
                                try clear c12b0
                                try clear c13
                                try clear c13b0
                                try clear c14
                                try clear c14b0
                                try clear c15
                                try clear c15b0
                                try clear c16
                                try clear c16b0
                                try clear c17
                                try clear c17b0
                                try clear c18
                                try clear c18b0
                                try clear c19
                                try clear c19b0
                                try clear c19b1
                                try clear c21
                                try clear c24
                                try clear c26
                                try clear p28
                                try clear q28
                                try clear hx28
                                try clear hcz11_0
                                try clear hcz11_1
                                try clear hcz22_0
                                try clear hcz22_1
                                try clear hcz22_2
                                try clear hcz22_3
                                try clear hcz27_0
                                try clear hcz27_1
                                try clear hcz27_2
                                try clear hcz27_3
                                try clear hcz7_0
                                try clear hcz7_1
                                try clear hfz11_0
                                try clear hfz11_1
                                try clear hfz22_0
                                try clear hfz22_1
                                try clear hfz22_2
                                try clear hfz22_3
                                try clear hfz27_0
                                try clear hfz27_1
                                try clear hfz27_2
                                try clear hfz27_3
                                try clear hfz7_0
                                try clear hfz7_1
                                try clear hx283_0
                                try clear hx283_1
                                try clear hx283_2
                                try clear hx283_3
                                try clear hx285_0
                                try clear hx286_0
                                try clear p2
                                try clear p283
                                try clear p285
                                try clear p286
                                try clear p6
                                try clear q283
                                try clear q285
                                try clear q286
                                obtain ⟨x5_3, x51_3, rfl, HA, HK3, HO_4, HO_5, BK273, BK284, HB⟩ := hrel
                                have hl5_3 := (Kd.R_reads' HO_5.out).1
                                rw [hl5_3] at HO_5
                                (try simp only [hl5_3])
                                (try simp only [hl5_3] at BK273)
                                (try simp only [hl5_3] at BK284)
                                (try simp only [hl5_3] at HO_4)
                                cases gk with
                                | zero => exact absurd HA.out (by simp [impl_Survey_tree.l2])
                                | succ k3 =>
                                  have H := HA.out
                                  clear HA
                                  simp only [impl_Survey_tree.l2] at H
                                  by_cases c30 : x51_3 < (x5_2.length : Int)
                                  · rw [if_pos c30] at H
                                    have c30b0 : decide (x51_3 < (x5_2.length : Int)) = true := decide_eq_true c30
                                    clear c30
                                    by_cases c31 : 0 ≤ x51_3
                                    · rw [if_pos c31] at H
                                      have c31b0 : decide (0 ≤ x51_3) = true := decide_eq_true c31
                                      clear c31
                                      by_cases c32 : x51_3 < (x5_3.length : Int)
                                      · rw [if_pos c32] at H
                                        have c32b0 : decide (x51_3 < (x5_3.length : Int)) = true := decide_eq_true c32
                                        clear c32
                                        by_cases c33 : (rd x5_3 x51_3) = (rd x5_2 ((rd_T64 l0_1 x27_2).f1))
                                        · rw [if_pos c33] at H
                                          have c33b0 : ((rd x5_3 x51_3) == (rd x5_2 ((rd_T64 l0_1 x27_2).f1))) = true := beq_iff_eq.mpr c33
                                          have c33b1 : ((rd x5_3 x51_3) != (rd x5_2 ((rd_T64 l0_1 x27_2).f1))) = false := bne_eq_false_iff_eq.mpr c33
                                          clear c33
                                          obtain ⟨y291, hy291⟩ : ∃ y_ : List Int, y_ = (x5_3.set (x51_3 : Int).toNat (rd x5_2 ((rd_T64 l0_1 x27_2).f0))) := ⟨_, rfl⟩
                                          replace H : (impl_Survey_tree.l2 k3 y287 y291 (rd x5_2 ((rd_T64 l0_1 x27_2).f0)) (rd x5_2 ((rd_T64 l0_1 x27_2).f1)) l0_1 (l0_1.length : Int) x27_2 (x5_2.length : Int) (wrap64 (x51_3 + 1))) = some (r1, r2) := by first | (rw [hy291]; with_reducible exact H) | (have H2_ := (Option.bind_some _ _).symm.trans H; rw [hy291]; with_reducible exact H2_) | (have H2_ := (Option.bind_some _ _).symm.trans H; with_reducible exact H2_) | with_reducible exact H | (rw [hy291]; exact H) | exact H
                                          have Ny291 := Aside0.mk hy291
                                          clear hy291
                                          have H' := Aside0.mk H
                                          clear H
                                          have p290 : 0 ≤ (x51_3 : Int) := of_decide_eq_true (by first | (with_reducible assumption) | assumption)
                                          have q290 : x51_3 < (x5_3.length : Int) := of_decide_eq_true (by first | (with_reducible assumption) | assumption)
                                          obtain ⟨ad290, e290, hx290_0⟩ := Kd.at_int (Kd.R_reads' HO_5.out).2.2 x51_3 p290 q290
                                          obtain rfl : (⟨gz_, 0, none⟩ : Addr) = ad290 := (by injection e290)
                                          simp only [add_plain] at hx290_0
                                          replace p290 := eq_true p290
                                          replace q290 := eq_true q290
                                          have p34 : 0 ≤ (x51_3 : Int) := of_decide_eq_true (by first | (with_reducible assumption) | assumption)
                                          have q34 : (x51_3 : Int) < ((x5_3.length : Int) : Int) := of_decide_eq_true (by first | (with_reducible assumption) | assumption)
                                          obtain ⟨go34, co34, eo34, gb34, gl34, cl34, HG34⟩ := Kd.R_form HO_5.out (by omega)
                                          (first | cases eo34 | (injection eo34 with ea_ en_ ec_; (first | subst ea_ | (injection ea_ with ea_; subst ea_)); subst ec_; clear en_))
                                          have GB34 := Aside0.mk gb34
                                          have GG34 := Aside0.mk HG34
                                          clear gb34 gl34 HG34
                                          (first | simp only [add_plain] at hx285_0 | skip)
                                          (first | simp only [add_plain] at hx286_0 | skip)
                                          (first | simp only [add_plain] at hx290_0 | skip)
                                          obtain ⟨hx34_0, hf34_0⟩ := Kd.R_celln 0 HO_5.out (x51_3 : Int) p34 q34
                                          replace p34 := eq_true p34
                                          replace q34 := eq_true q34
                                          have HP35 := Kd.R_putg HO_5.out (x51_3 : Int) (rd x5_2 ((rd_T64 l0_1 x27_2).f0))
                                          go_wp2_with (first | ((with_reducible refine gate_store (t := 2) (p := 63) rfl ?_); (try (rw [drewN_self wr]; generalize hq_ : World.drewN wr _ = wr; have n0_ := Aside0.mk (Kd.R_at hq_ HO_4.out); have n1_ := Aside0.mk (Kd.R_at hq_ HO_5.out); have n2_ := Aside0.mk (blk_at hq_ BK273.out); have n3_ := Aside0.mk (blk_at hq_ BK284.out); have n4_ := Aside0.mk (below_at hq_ HB.out); clear hq_ HO_4 HO_5 BK273 BK284 HB; have HO_4 := n0_; have HO_5 := n1_; have BK273 := n2_; have BK284 := n3_; have HB := n4_; clear n0_ n1_ n2_ n3_ n4_; (try (have HP35 := Kd.R_putg HO_5.out (x51_3 : Int) (rd x5_2 ((rd_T64 l0_1 x27_2).f0)))))); refine store_event (t := 2) (p := 63) (v := ?vo_w36) (w1 := (wr.setCell ⟨gz_, (x51_3 : Int).toNat, none⟩ (.int .i64 (rd x5_2 ((rd_T64 l0_1 x27_2).f0))))) ?hg ?ho ?hn ?hr ?_; (case ho => rfl); (case hg => rfl); (case hn => rfl); (case hr => first | (go_simp; done) | (go_simp; rfl)); intro w36 hw; have hg : wr.grownBy w36 (some gz_) := (by rw [hw]; exact HP35.2); have hp_ : Kd.R (Kd.int .i64) 2 w36 w.heap.size (fun k_ => some k_ ≠ (v288 : Value).ownBlock) (.slice (some ⟨gz_, 0, none⟩) x5_3.length co28) y291 := (by rw [hw, Ny291.out]; exact HP35.1); clear HP35; have n0_ := Aside0.mk (Kd.R_after (v := (.slice (some ⟨gz_, 0, none⟩) x5_3.length co28)) (v1 := (.slice (some ⟨gz_, 0, none⟩) x5_3.length co28)) (ok := (fun _ => True)) (by (with_reducible repeat (first | apply Kd.R_alloc | apply Kd.R_drewN | apply Kd.R_drew)); exact Kd.R_mono HO_4.out (fun _ hk => ⟨trivial, hk⟩)) hg (.inl rfl)); have n1_ := Aside0.mk (hp_); have n2_ := Aside0.mk (blk_grown (g := gb273) (o := .cells #[.int .i64 a0_0, .slice (some ad283) l0_1.length c0_1] 39 (0, 0)) (by (with_reducible repeat (first | refine blk_drewN ?_ _ | refine blk_drew ?_ | refine blk_alloc ?_ _)); exact BK273.out) hg (Kd.R_ne HO_5.out BK273.out (by decide))); have n3_ := Aside0.mk (blk_grown (g := gb284) (o := .cells #[.int .i64 ((rd_T64 l0_1 x27_2).f0), .int .i64 ((rd_T64 l0_1 x27_2).f1), .int .i64 ((rd_T64 l0_1 x27_2).f2), .int .i64 ((rd_T64 l0_1 x27_2).f3)] 64 (0, 0)) (by (with_reducible repeat (first | refine blk_drewN ?_ _ | refine blk_drew ?_ | refine blk_alloc ?_ _)); exact BK284.out) hg (Kd.R_ne HO_5.out BK284.out (by decide))); have n4_ := Aside0.mk ((by rw [hw]; exact below_set (HB.out) GB34.out : Below w.heap.size w w36)); clear HO_4; clear HO_5; clear BK273; clear BK284; clear HB; have HO_4 := n0_; have HO_5 := n1_; have BK273 := n2_; have BK284 := n3_; have HB := n4_; clear n0_ n1_ n2_ n3_ n4_; clear hg hw hp_))
                                          repeat (go_quiet (first | ((with_reducible refine gate_store (t := 2) (p := 63) rfl ?_); (try (rw [drewN_self wr]; generalize hq_ : World.drewN wr _ = wr; have n0_ := Aside0.mk (Kd.R_at hq_ HO_4.out); have n1_ := Aside0.mk (Kd.R_at hq_ HO_5.out); have n2_ := Aside0.mk (blk_at hq_ BK273.out); have n3_ := Aside0.mk (blk_at hq_ BK284.out); have n4_ := Aside0.mk (below_at hq_ HB.out); clear hq_ HO_4 HO_5 BK273 BK284 HB; have HO_4 := n0_; have HO_5 := n1_; have BK273 := n2_; have BK284 := n3_; have HB := n4_; clear n0_ n1_ n2_ n3_ n4_; (try (have HP35 := Kd.R_putg HO_5.out (x51_3 : Int) (rd x5_2 ((rd_T64 l0_1 x27_2).f0)))))); refine store_event (t := 2) (p := 63) (v := ?vo_w36) (w1 := (wr.setCell ⟨gz_, (x51_3 : Int).toNat, none⟩ (.int .i64 (rd x5_2 ((rd_T64 l0_1 x27_2).f0))))) ?hg ?ho ?hn ?hr ?_; (case ho => rfl); (case hg => rfl); (case hn => rfl); (case hr => first | (go_simp; done) | (go_simp; rfl)); intro w36 hw; have hg : wr.grownBy w36 (some gz_) := (by rw [hw]; exact HP35.2); have hp_ : Kd.R (Kd.int .i64) 2 w36 w.heap.size (fun k_ => some k_ ≠ (v288 : Value).ownBlock) (.slice (some ⟨gz_, 0, none⟩) x5_3.length co28) y291 := (by rw [hw, Ny291.out]; exact HP35.1); clear HP35; have n0_ := Aside0.mk (Kd.R_after (v := (.slice (some ⟨gz_, 0, none⟩) x5_3.length co28)) (v1 := (.slice (some ⟨gz_, 0, none⟩) x5_3.length co28)) (ok := (fun _ => True)) (by (with_reducible repeat (first | apply Kd.R_alloc | apply Kd.R_drewN | apply Kd.R_drew)); exact Kd.R_mono HO_4.out (fun _ hk => ⟨trivial, hk⟩)) hg (.inl rfl)); have n1_ := Aside0.mk (hp_); have n2_ := Aside0.mk (blk_grown (g := gb273) (o := .cells #[.int .i64 a0_0, .slice (some ad283) l0_1.length c0_1] 39 (0, 0)) (by (with_reducible repeat (first | refine blk_drewN ?_ _ | refine blk_drew ?_ | refine blk_alloc ?_ _)); exact BK273.out) hg (Kd.R_ne HO_5.out BK273.out (by decide))); have n3_ := Aside0.mk (blk_grown (g := gb284) (o := .cells #[.int .i64 ((rd_T64 l0_1 x27_2).f0), .int .i64 ((rd_T64 l0_1 x27_2).f1), .int .i64 ((rd_T64 l0_1 x27_2).f2), .int .i64 ((rd_T64 l0_1 x27_2).f3)] 64 (0, 0)) (by (with_reducible repeat (first | refine blk_drewN ?_ _ | refine blk_drew ?_ | refine blk_alloc ?_ _)); exact BK284.out) hg (Kd.R_ne HO_5.out BK284.out (by decide))); have n4_ := Aside0.mk ((by rw [hw]; exact below_set (HB.out) GB34.out : Below w.heap.size w w36)); clear HO_4; clear HO_5; clear BK273; clear BK284; clear HB; have HO_4 := n0_; have HO_5 := n1_; have BK273 := n2_; have BK284 := n3_; have HB := n4_; clear n0_ n1_ n2_ n3_ n4_; clear hg hw hp_)); try go_wp2_with (first | ((with_reducible refine gate_store (t := 2) (p := 63) rfl ?_); (try (rw [drewN_self wr]; generalize hq_ : World.drewN wr _ = wr; have n0_ := Aside0.mk (Kd.R_at hq_ HO_4.out); have n1_ := Aside0.mk (Kd.R_at hq_ HO_5.out); have n2_ := Aside0.mk (blk_at hq_ BK273.out); have n3_ := Aside0.mk (blk_at hq_ BK284.out); have n4_ := Aside0.mk (below_at hq_ HB.out); clear hq_ HO_4 HO_5 BK273 BK284 HB; have HO_4 := n0_; have HO_5 := n1_; have BK273 := n2_; have BK284 := n3_; have HB := n4_; clear n0_ n1_ n2_ n3_ n4_; (try (have HP35 := Kd.R_putg HO_5.out (x51_3 : Int) (rd x5_2 ((rd_T64 l0_1 x27_2).f0)))))); refine store_event (t := 2) (p := 63) (v := ?vo_w36) (w1 := (wr.setCell ⟨gz_, (x51_3 : Int).toNat, none⟩ (.int .i64 (rd x5_2 ((rd_T64 l0_1 x27_2).f0))))) ?hg ?ho ?hn ?hr ?_; (case ho => rfl); (case hg => rfl); (case hn => rfl); (case hr => first | (go_simp; done) | (go_simp; rfl)); intro w36 hw; have hg : wr.grownBy w36 (some gz_) := (by rw [hw]; exact HP35.2); have hp_ : Kd.R (Kd.int .i64) 2 w36 w.heap.size (fun k_ => some k_ ≠ (v288 : Value).ownBlock) (.slice (some ⟨gz_, 0, none⟩) x5_3.length co28) y291 := (by rw [hw, Ny291.out]; exact HP35.1); clear HP35; have n0_ := Aside0.mk (Kd.R_after (v := (.slice (some ⟨gz_, 0, none⟩) x5_3.length co28)) (v1 := (.slice (some ⟨gz_, 0, none⟩) x5_3.length co28)) (ok := (fun _ => True)) (by (with_reducible repeat (first | apply Kd.R_alloc | apply Kd.R_drewN | apply Kd.R_drew)); exact Kd.R_mono HO_4.out (fun _ hk => ⟨trivial, hk⟩)) hg (.inl rfl)); have n1_ := Aside0.mk (hp_); have n2_ := Aside0.mk (blk_grown (g := gb273) (o := .cells #[.int .i64 a0_0, .slice (some ad283) l0_1.length c0_1] 39 (0, 0)) (by (with_reducible repeat (first | refine blk_drewN ?_ _ | refine blk_drew ?_ | refine blk_alloc ?_ _)); exact BK273.out) hg (Kd.R_ne HO_5.out BK273.out (by decide))); have n3_ := Aside0.mk (blk_grown (g := gb284) (o := .cells #[.int .i64 ((rd_T64 l0_1 x27_2).f0), .int .i64 ((rd_T64 l0_1 x27_2).f1), .int .i64 ((rd_T64 l0_1 x27_2).f2), .int .i64 ((rd_T64 l0_1 x27_2).f3)] 64 (0, 0)) (by (with_reducible repeat (first | refine blk_drewN ?_ _ | refine blk_drew ?_ | refine blk_alloc ?_ _)); exact BK284.out) hg (Kd.R_ne HO_5.out BK284.out (by decide))); have n4_ := Aside0.mk ((by rw [hw]; exact below_set (HB.out) GB34.out : Below w.heap.size w w36)); clear HO_4; clear HO_5; clear BK273; clear BK284; clear HB; have HO_4 := n0_; have HO_5 := n1_; have BK273 := n2_; have BK284 := n3_; have HB := n4_; clear n0_ n1_ n2_ n3_ n4_; clear hg hw hp_)))
                                          (try simp only [← hl5_3])
                                          go_roundg k3
                                          case measure => have := HK1.out; have := HK2.out; have := HK3.out; omega
                                          case rel => exact ⟨(y291), (wrap64 (x51_3 + 1)), (by first | rfl | (simp; done) | (simp [*]; done)), H', ⟨by have := HK1.out; have := HK2.out; have := HK3.out; omega⟩, ⟨by (try simp only [hl5_3]); (with_reducible repeat (first | apply Kd.R_alloc | apply Kd.R_drewN | apply Kd.R_drew)); exact Kd.R_mono HO_4.out (fun _ hk => hk.2)⟩, ⟨by (try simp only [hl5_3]); (with_reducible repeat (first | apply Kd.R_alloc | apply Kd.R_drewN | apply Kd.R_drew)); exact HO_5.out⟩, ⟨by (try simp only [hl5_3]); (with_reducible repeat (first | refine blk_drewN ?_ _ | refine blk_drew ?_ | refine blk_alloc ?_ _)); exact BK273.out⟩, ⟨by (try simp only [hl5_3]); (with_reducible repeat (first | refine blk_drewN ?_ _ | refine blk_drew ?_ | refine blk_alloc ?_ _)); exact BK284.out⟩, ⟨by repeat (first | (with_reducible first | exact HB.out | apply below_alloc | apply pw_below_drewN | apply below_drew1 | refine below_set ?_ GE273.out | refine below_set ?_ GE284.out) | exact HB.out)⟩⟩
                                        · rw [if_neg c33] at H
                                          have c33b0 : ((rd x5_3 x51_3) == (rd x5_2 ((rd_T64 l0_1 x27_2).f1))) = false := beq_eq_false_iff_ne.mpr c33
                                          have c33b1 : ((rd x5_3 x51_3) != (rd x5_2 ((rd_T64 l0_1 x27_2).f1))) = true := bne_iff_ne.mpr c33
                                          have H' := Aside0.mk H
                                          clear H
                                          have p290 : 0 ≤ (x51_3 : Int) := of_decide_eq_true (by first | (with_reducible assumption) | assumption)
                                          have q290 : x51_3 < (x5_3.length : Int) := of_decide_eq_true (by first | (with_reducible assumption) | assumption)
                                          obtain ⟨ad290, e290, hx290_0⟩ := Kd.at_int (Kd.R_reads' HO_5.out).2.2 x51_3 p290 q290
                                          obtain rfl : (⟨gz_, 0, none⟩ : Addr) = ad290 := (by injection e290)
                                          simp only [add_plain] at hx290_0
                                          replace p290 := eq_true p290
                                          replace q290 := eq_true q290
                                          go_wp2
                                          repeat (go_quiet (fail); try go_wp2)
                                          (try simp only [← hl5_3])
                                          go_roundg k3
                                          case measure => have := HK1.out; have := HK2.out; have := HK3.out; omega
                                          case rel => exact ⟨(x5_3), (wrap64 (x51_3 + 1)), (by first | rfl | (simp; done) | (simp [*]; done)), H', ⟨by have := HK1.out; have := HK2.out; have := HK3.out; omega⟩, ⟨by (try simp only [hl5_3]); (with_reducible repeat (first | apply Kd.R_alloc | apply Kd.R_drewN | apply Kd.R_drew)); exact HO_4.out⟩, ⟨by (try simp only [hl5_3]); (with_reducible repeat (first | apply Kd.R_alloc | apply Kd.R_drewN | apply Kd.R_drew)); exact HO_5.out⟩, ⟨by (try simp only [hl5_3]); (with_reducible repeat (first | refine blk_drewN ?_ _ | refine blk_drew ?_ | refine blk_alloc ?_ _)); exact BK273.out⟩, ⟨by (try simp only [hl5_3]); (with_reducible repeat (first | refine blk_drewN ?_ _ | refine blk_drew ?_ | refine blk_alloc ?_ _)); exact BK284.out⟩, ⟨by repeat (first | (with_reducible first | exact HB.out | apply below_alloc | apply pw_below_drewN | apply below_drew1 | refine below_set ?_ GE273.out | refine below_set ?_ GE284.out) | exact HB.out)⟩⟩
                                      · rw [if_neg c32] at H
                                        exact absurd H (by simp)
                                    · rw [if_neg c31] at H
                                      exact absurd H (by simp)
                                  · rw [if_neg c30] at H
                                    have c30b0 : decide (x51_3 < (x5_2.length : Int)) = false := decide_eq_false c30
                                    have c30x : decide (x51_3 < (x5_3.length : Int)) = false := by have h_ := c30b0; first | (rw [hl5_3] at h_; exact h_) | (rw [← hl5_3] at h_; exact h_)
                                    clear c30
                                    have H' := Aside0.mk H
                                    clear H
                                    go_wp2
                                    repeat (go_quiet (fail); try go_wp2)
                                    (try simp only [← hl5_3])
                                    go_roundg k3
                                    case measure => have := HK1.out; have := HK2.out; have := HK3.out; omega
                                    case rel => exact ⟨(y287), (x5_3), (wrap64 (x27_2 + 1)), (by first | rfl | (simp; done) | (simp [*]; done)), H', ⟨by have := HK1.out; have := HK2.out; have := HK3.out; omega⟩, ⟨by (try simp only [hl5_3]); (with_reducible repeat (first | apply Kd.R_alloc | apply Kd.R_drewN | apply Kd.R_drew)); exact HO_4.out⟩, ⟨by (try simp only [hl5_3]); (with_reducible repeat (first | apply Kd.R_alloc | apply Kd.R_drewN | apply Kd.R_drew)); exact HO_5.out⟩, ⟨by (try simp only [hl5_3]); (with_reducible repeat (first | refine blk_drewN ?_ _ | refine blk_drew ?_ | refine blk_alloc ?_ _)); exact BK273.out⟩, ⟨by repeat (first | (with_reducible first | exact HB.out | apply below_alloc | apply pw_below_drewN | apply below_drew1 | refine below_set ?_ GE273.out | refine below_set ?_ GE284.out) | exact HB.out)⟩⟩
                            · rw [if_neg c24] at H
                              exact absurd H (by simp)
                        · rw [if_neg c18] at H
                          exact absurd H (by simp)
                      · rw [if_neg c17] at H
                        exact absurd H (by simp)
                    · rw [if_neg c16] at H
                      exact absurd H (by simp)
                  · rw [if_neg c15] at H
                    exact absurd H (by simp)
                · rw [if_neg c14] at H
                  exact absurd H (by simp)
              · rw [if_neg c13] at H
                exact absurd H (by simp)
            · rw [if_neg c12] at H
              have c12b0 : decide (x27_2 < (l0_1.length : Int)) = false := decide_eq_false c12
              clear c12
              simp only [Option.some.injEq, Prod.mk.injEq] at H
              obtain ⟨rfl, rfl⟩ := H
              go_wp2
              repeat (go_quiet (fail); try go_wp2)
              go_ret2
              exact ⟨_, _, by first | rfl | (simp [errW_none, errW_some] <;> rfl) | (simp [*, errW_none, errW_some] <;> rfl), by (with_reducible repeat (first | apply Kd.R_alloc | apply Kd.R_drewN | apply Kd.R_drew)); exact HO_4.out, by (with_reducible repeat (first | apply Kd.R_alloc | apply Kd.R_drewN | apply Kd.R_drew)); exact HO_5.out, by repeat (first | (with_reducible first | exact HB.out | apply below_alloc | apply pw_below_drewN | apply below_drew1 | refine below_set ?_ GE273.out) | exact HB.out)⟩


end Go.Proofs.Ytkkiagoacbhhjaa.Q

-- made by a patched copy of print.sh: this session's own
namespace Go.Proofs.Ytkkiagoacbhhjaa.Q
open Go.RowKit Go.Proofs.YtkkiagoacbhhjaaW.PrintWords Go.Proofs.YtkkiagoacbhhjaaW.PrintLast Go.Proofs.YtkkiagoacbhhjaaW.PrintMore
attribute [local go_sem] max2_int min2_int max_two min_two max_three min_three max_four min_four   -- for this text's walks alone
set_option linter.unusedVariables false
set_option linter.unusedSimpArgs false

/-! ### impl_Survey_connected: function 47 -/
def impl_Survey_connected.f (k : Nat) (a0_0 : Int) (l0_1 : List (S64)) : Option (Bool) := (impl_Survey_tree.f k a0_0 l0_1).bind fun bt243 => (some ((bt243.1.length : Int) == (wrap64 (a0_0 - 1))))
theorem impl_Survey_connected.mono : ∀ a0 a1 k, LeO (impl_Survey_connected.f k a0 a1) (impl_Survey_connected.f (k + 1) a0 a1) := by
  intro a0 a1 k
  unfold impl_Survey_connected.f
  repeat' first
      | (with_reducible exact impl_Survey_tree.mono _ _ _)
      | (with_reducible exact LeO.refl _)
      | (with_reducible exact LeO.none _)
      | (with_reducible refine LeO.ite ?_ ?_)
      | (with_reducible refine LeO.bind ?_ (fun _ => ?_))
      | exact impl_Survey_tree.mono _ _ _
      | exact LeO.none _
      | refine LeO.ite ?_ ?_
      | refine LeO.bind ?_ (fun _ => ?_)
set_option maxHeartbeats 8000000 in
set_option maxRecDepth 100000 in
theorem impl_Survey_connected.calls (k : Nat) (a0_0 : Int) (A0_1 : Option Addr) (c0_1 : Nat) (l0_1 : List (S64)) (r : Bool) (w : World) (hr0_1 : Kd.C k64 w A0_1 l0_1.length l0_1) (hc0_1 : l0_1.length ≤ c0_1) (h : impl_Survey_connected.f k a0_0 l0_1 = some r) :
    Calls Try.prog 47 #[.agg #[.int .i64 a0_0, .slice A0_1 l0_1.length c0_1]] w fun e w' => e = .returned (.bool r) ∧ Below w.heap.size w w' := by
  have hu39 := Try.underlying39
  have HR0_1 := Aside0.mk hr0_1
  have HC0_1 := Aside0.mk hc0_1
  clear hr0_1 hc0_1
  have HB := Aside0.mk (Below.refl w.heap.size w)
  have H : ((impl_Survey_tree.f k a0_0 l0_1).bind fun bt243 => (some ((bt243.1.length : Int) == (wrap64 (a0_0 - 1))))) = some r := h
  clear h
  replace H := Option.bind_eq_some_iff.mp H
  obtain ⟨⟨t243, t246⟩, A20, H⟩ := H
  replace H : (some ((t243.length : Int) == (wrap64 (a0_0 - 1)))) = some r := H
  have A2 := Aside0.mk A20
  clear A20
  obtain rfl := Option.some.inj H
  go_enter Try.func47, Try.ntmps47
  go_wp2_with (first | ((with_reducible refine gate_dst (N := 1) rfl ?_); refine box_event ?hg (N := 1) ?hd (cs := #[.int .i64 a0_0, .slice A0_1 l0_1.length c0_1]) (t := 39) ?hr ?_; (case hd => rfl); (case hg => rfl); (case hr => first | (go_simp; done) | (go_simp; rfl)); intro gb242 hg w3 hbox hb; have n0_ := Aside0.mk (below_step (by repeat (first | (with_reducible first | exact HB.out | apply below_alloc | apply pw_below_drewN | apply below_drew1) | exact HB.out)) hb); have n1_ := Aside0.mk (hbox); have n2_ := Aside0.mk ((by rw [hg]; exact (below_size (by repeat (first | (with_reducible first | exact HB.out | apply below_alloc | apply pw_below_drewN | apply below_drew1) | exact HB.out))) : w.heap.size ≤ gb242)); have n3_ := Aside0.mk ((by rw [hg]; exact (below_size (by repeat (first | (with_reducible first | exact HB.out | apply below_alloc | apply pw_below_drewN | apply below_drew1) | exact HB.out))) : w.heap.size ≤ gb242)); clear HB; have HB := n0_; have BK242 := n1_; have GW242 := n2_; have GE242 := n3_; clear n0_ n1_ n2_ n3_; clear hb hbox hg; have hcz4_0 : w3.cell? ⟨gb242, 0, none⟩ = some (.int .i64 a0_0) := (blk_cell BK242.out 0).trans rfl; have hcz4_1 : w3.cell? ⟨gb242, 1, none⟩ = some (.slice A0_1 l0_1.length c0_1) := (blk_cell BK242.out 1).trans rfl; have hfz4_0 := blk_frozen BK242.out 0; have hfz4_1 := blk_frozen BK242.out 1) | ((with_reducible refine gate_callee (f := 54) rfl ?_); refine goesL_ (some 7) rfl rfl Try.func54 (by kernel_rfl) rfl #[.agg #[.int .i64 a0_0, .slice A0_1 l0_1.length c0_1]] rfl (by (try simp only [List.map_toArray, List.map_cons, List.map_nil]); first | done | rfl | (simp only [List.length_drop, List.length_take]; rfl)) ?_; (with_reducible refine (impl_Survey_tree.calls k a0_0 _ _ l0_1 t243 t246 _ ?side1 ?side2 A2.out).mono ?_); (case side1 => repeat (first | exact (Kd.C_below HR0_1.out HB.out) | (with_reducible refine Kd.C_alloc ?_ _) | (with_reducible refine Kd.C_drewN ?_ _) | (with_reducible refine Kd.C_drew ?_))); (case side2 => exact HC0_1.out); rintro e w5 ⟨v244, v247, rfl, ho0, ho1, hb⟩; refine ⟨_, rfl, ?_⟩; have n0_ := Aside0.mk (Kd.R_lower ho0 (below_size (by repeat (first | (with_reducible first | exact HB.out | apply below_alloc | apply pw_below_drewN | apply below_drew1 | refine below_set ?_ GE242.out) | exact HB.out)))); have n1_ := Aside0.mk (Kd.R_lower ho1 (below_size (by repeat (first | (with_reducible first | exact HB.out | apply below_alloc | apply pw_below_drewN | apply below_drew1 | refine below_set ?_ GE242.out) | exact HB.out)))); have n2_ := Aside0.mk (blk_below (g := gb242) (o := .cells #[.int .i64 a0_0, .slice A0_1 l0_1.length c0_1] 39 (0, 0)) (by (with_reducible repeat (first | refine blk_drewN ?_ _ | refine blk_drew ?_ | refine blk_alloc ?_ _)); exact BK242.out) hb); have n3_ := Aside0.mk (below_step (by repeat (first | (with_reducible first | exact HB.out | apply below_alloc | apply pw_below_drewN | apply below_drew1 | refine below_set ?_ GE242.out) | exact HB.out)) hb); clear BK242; clear HB; have HO245 := n0_; have HO248 := n1_; have BK242 := n2_; have HB := n3_; clear n0_ n1_ n2_ n3_; (try clear hb); (try clear hb2); (try clear hk); (try clear hi); (try clear ho0); (try clear ho1); obtain ⟨Ao6, co6, eo6⟩ := Kd.R_slice HO245.out; subst eo6; have hcz7_0 : w5.cell? ⟨gb242, 0, none⟩ = some (.int .i64 a0_0) := (blk_cell BK242.out 0).trans rfl; have hcz7_1 : w5.cell? ⟨gb242, 1, none⟩ = some (.slice A0_1 l0_1.length c0_1) := (blk_cell BK242.out 1).trans rfl; have hfz7_0 := blk_frozen BK242.out 0; have hfz7_1 := blk_frozen BK242.out 1))
  go_ret
  exact ⟨by first | rfl | (simp [errW_none, errW_some] <;> rfl) | (simp [*, errW_none, errW_some] <;> rfl), by repeat (first | (with_reducible first | exact HB.out | apply below_alloc | apply pw_below_drewN | apply below_drew1 | refine below_set ?_ GE242.out) | exact HB.out)⟩

end Go.Proofs.Ytkkiagoacbhhjaa.Q

-- made by a patched copy of print.sh: this session's own
namespace Go.Proofs.Ytkkiagoacbhhjaa.Q
open Go.RowKit Go.Proofs.YtkkiagoacbhhjaaW.PrintWords Go.Proofs.YtkkiagoacbhhjaaW.PrintLast Go.Proofs.YtkkiagoacbhhjaaW.PrintMore
attribute [local go_sem] max2_int min2_int max_two min_two max_three min_three max_four min_four   -- for this text's walks alone
set_option linter.unusedVariables false
set_option linter.unusedSimpArgs false

/-! ### impl_IsConnected: function 20 -/
def impl_IsConnected.f (k : Nat) (a0_0 : Int) (l0_1 : List (S64)) : Option (Bool) := (impl_ValidSurvey.f k a0_0 l0_1).bind fun t250 => (if t250 = true then ((impl_Survey_connected.f k a0_0 l0_1).bind fun t251 => (some t251)) else (some false))
theorem impl_IsConnected.mono : ∀ a0 a1 k, LeO (impl_IsConnected.f k a0 a1) (impl_IsConnected.f (k + 1) a0 a1) := by
  intro a0 a1 k
  unfold impl_IsConnected.f
  repeat' first
      | (with_reducible exact impl_Survey_connected.mono _ _ _)
      | (with_reducible exact impl_ValidSurvey.mono _ _ _)
      | (with_reducible exact LeO.refl _)
      | (with_reducible exact LeO.none _)
      | (with_reducible refine LeO.ite ?_ ?_)
      | (with_reducible refine LeO.bind ?_ (fun _ => ?_))
      | exact impl_Survey_connected.mono _ _ _
      | exact impl_ValidSurvey.mono _ _ _
      | exact LeO.none _
      | refine LeO.ite ?_ ?_
      | refine LeO.bind ?_ (fun _ => ?_)
set_option maxHeartbeats 8000000 in
set_option maxRecDepth 100000 in
theorem impl_IsConnected.calls (k : Nat) (a0_0 : Int) (A0_1 : Option Addr) (c0_1 : Nat) (l0_1 : List (S64)) (r : Bool) (w : World) (hr0_1 : Kd.C k64 w A0_1 l0_1.length l0_1) (hc0_1 : l0_1.length ≤ c0_1) (h : impl_IsConnected.f k a0_0 l0_1 = some r) :
    Calls Try.prog 20 #[.agg #[.int .i64 a0_0, .slice A0_1 l0_1.length c0_1]] w fun e w' => e = .returned (.bool r) ∧ Below w.heap.size w w' := by
  have hu39 := Try.underlying39
  have HR0_1 := Aside0.mk hr0_1
  have HC0_1 := Aside0.mk hc0_1
  clear hr0_1 hc0_1
  have HB := Aside0.mk (Below.refl w.heap.size w)
  have H : ((impl_ValidSurvey.f k a0_0 l0_1).bind fun t250 => (if t250 = true then ((impl_Survey_connected.f k a0_0 l0_1).bind fun t251 => (some t251)) else (some false))) = some r := h
  clear h
  replace H := Option.bind_eq_some_iff.mp H
  obtain ⟨t250, A20, H⟩ := H
  replace H : (if t250 = true then ((impl_Survey_connected.f k a0_0 l0_1).bind fun t251 => (some t251)) else (some false)) = some r := H
  have A2 := Aside0.mk A20
  clear A20
  by_cases c3 : t250 = true
  · subst c3
    have H1 : ((impl_Survey_connected.f k a0_0 l0_1).bind fun t251 => (some t251)) = some r := by rw [if_pos rfl] at H; exact H
    clear H
    have H := H1
    clear H1
    replace H := Option.bind_eq_some_iff.mp H
    obtain ⟨t251, A40, H⟩ := H
    replace H : (some t251) = some r := H
    have A4 := Aside0.mk A40
    clear A40
    obtain rfl := Option.some.inj H
    go_enter Try.func20, Try.ntmps20
    go_wp2_with (first | ((with_reducible refine gate_dst (N := 1) rfl ?_); refine box_event ?hg (N := 1) ?hd (cs := #[.int .i64 a0_0, .slice A0_1 l0_1.length c0_1]) (t := 39) ?hr ?_; (case hd => rfl); (case hg => rfl); (case hr => first | (go_simp; done) | (go_simp; rfl)); intro gb249 hg w5 hbox hb; have n0_ := Aside0.mk (below_step (by repeat (first | (with_reducible first | exact HB.out | apply below_alloc | apply pw_below_drewN | apply below_drew1) | exact HB.out)) hb); have n1_ := Aside0.mk (hbox); have n2_ := Aside0.mk ((by rw [hg]; exact (below_size (by repeat (first | (with_reducible first | exact HB.out | apply below_alloc | apply pw_below_drewN | apply below_drew1) | exact HB.out))) : w.heap.size ≤ gb249)); have n3_ := Aside0.mk ((by rw [hg]; exact (below_size (by repeat (first | (with_reducible first | exact HB.out | apply below_alloc | apply pw_below_drewN | apply below_drew1) | exact HB.out))) : w.heap.size ≤ gb249)); clear HB; have HB := n0_; have BK249 := n1_; have GW249 := n2_; have GE249 := n3_; clear n0_ n1_ n2_ n3_; clear hb hbox hg; have hcz6_0 : w5.cell? ⟨gb249, 0, none⟩ = some (.int .i64 a0_0) := (blk_cell BK249.out 0).trans rfl; have hcz6_1 : w5.cell? ⟨gb249, 1, none⟩ = some (.slice A0_1 l0_1.length c0_1) := (blk_cell BK249.out 1).trans rfl; have hfz6_0 := blk_frozen BK249.out 0; have hfz6_1 := blk_frozen BK249.out 1) | ((with_reducible refine gate_callee (f := 17) rfl ?_); refine goesL_ (some 4) rfl rfl Try.func17 (by kernel_rfl) rfl #[.agg #[.int .i64 a0_0, .slice A0_1 l0_1.length c0_1]] rfl (by (try simp only [List.map_toArray, List.map_cons, List.map_nil]); first | done | rfl | (simp only [List.length_drop, List.length_take]; rfl)) ?_; (with_reducible refine (impl_ValidSurvey.calls k a0_0 _ _ l0_1 true _ ?side1 ?side2 A2.out).mono ?_); (case side1 => repeat (first | exact (Kd.C_below HR0_1.out HB.out) | (with_reducible refine Kd.C_alloc ?_ _) | (with_reducible refine Kd.C_drewN ?_ _) | (with_reducible refine Kd.C_drew ?_))); (case side2 => exact HC0_1.out); rintro e w7 ⟨rfl, hb⟩; refine ⟨_, rfl, ?_⟩; have n0_ := Aside0.mk (blk_below (g := gb249) (o := .cells #[.int .i64 a0_0, .slice A0_1 l0_1.length c0_1] 39 (0, 0)) (by (with_reducible repeat (first | refine blk_drewN ?_ _ | refine blk_drew ?_ | refine blk_alloc ?_ _)); exact BK249.out) hb); have n1_ := Aside0.mk (below_step (by repeat (first | (with_reducible first | exact HB.out | apply below_alloc | apply pw_below_drewN | apply below_drew1 | refine below_set ?_ GE249.out) | exact HB.out)) hb); clear BK249; clear HB; have BK249 := n0_; have HB := n1_; clear n0_ n1_; (try clear hb); (try clear hb2); (try clear hk); (try clear hi); have hcz8_0 : w7.cell? ⟨gb249, 0, none⟩ = some (.int .i64 a0_0) := (blk_cell BK249.out 0).trans rfl; have hcz8_1 : w7.cell? ⟨gb249, 1, none⟩ = some (.slice A0_1 l0_1.length c0_1) := (blk_cell BK249.out 1).trans rfl; have hfz8_0 := blk_frozen BK249.out 0; have hfz8_1 := blk_frozen BK249.out 1) | (go_at_call 47; (with_reducible refine (impl_Survey_connected.calls k a0_0 _ _ l0_1 t251 _ ?side1 ?side2 A4.out).mono ?_); (case side1 => repeat (first | exact (Kd.C_below HR0_1.out HB.out) | (with_reducible refine Kd.C_alloc ?_ _) | (with_reducible refine Kd.C_drewN ?_ _) | (with_reducible refine Kd.C_drew ?_))); (case side2 => exact HC0_1.out); rintro e w9 ⟨rfl, hb⟩; have n0_ := Aside0.mk (blk_below (g := gb249) (o := .cells #[.int .i64 a0_0, .slice A0_1 l0_1.length c0_1] 39 (0, 0)) (by (with_reducible repeat (first | refine blk_drewN ?_ _ | refine blk_drew ?_ | refine blk_alloc ?_ _)); exact BK249.out) hb); have n1_ := Aside0.mk (below_step (by repeat (first | (with_reducible first | exact HB.out | apply below_alloc | apply pw_below_drewN | apply below_drew1 | refine below_set ?_ GE249.out) | exact HB.out)) hb); clear BK249; clear HB; have BK249 := n0_; have HB := n1_; clear n0_ n1_; (try clear hb); (try clear hb2); (try clear hk); (try clear hi)))
    go_ret
    exact ⟨by first | rfl | (simp [errW_none, errW_some] <;> rfl) | (simp [*, errW_none, errW_some] <;> rfl), by repeat (first | (with_reducible first | exact HB.out | apply below_alloc | apply pw_below_drewN | apply below_drew1 | refine below_set ?_ GE249.out) | exact HB.out)⟩
  · replace c3 := Bool.eq_false_iff.mpr c3
    subst c3
    have H1 : (some false) = some r := by rw [if_neg (show ¬ (false = true) by decide)] at H; exact H
    clear H
    have H := H1
    clear H1
    obtain rfl := Option.some.inj H
    go_enter Try.func20, Try.ntmps20
    go_wp2_with (first | ((with_reducible refine gate_dst (N := 1) rfl ?_); refine box_event ?hg (N := 1) ?hd (cs := #[.int .i64 a0_0, .slice A0_1 l0_1.length c0_1]) (t := 39) ?hr ?_; (case hd => rfl); (case hg => rfl); (case hr => first | (go_simp; done) | (go_simp; rfl)); intro gb249 hg w10 hbox hb; have n0_ := Aside0.mk (below_step (by repeat (first | (with_reducible first | exact HB.out | apply below_alloc | apply pw_below_drewN | apply below_drew1) | exact HB.out)) hb); have n1_ := Aside0.mk (hbox); have n2_ := Aside0.mk ((by rw [hg]; exact (below_size (by repeat (first | (with_reducible first | exact HB.out | apply below_alloc | apply pw_below_drewN | apply below_drew1) | exact HB.out))) : w.heap.size ≤ gb249)); have n3_ := Aside0.mk ((by rw [hg]; exact (below_size (by repeat (first | (with_reducible first | exact HB.out | apply below_alloc | apply pw_below_drewN | apply below_drew1) | exact HB.out))) : w.heap.size ≤ gb249)); clear HB; have HB := n0_; have BK249 := n1_; have GW249 := n2_; have GE249 := n3_; clear n0_ n1_ n2_ n3_; clear hb hbox hg; have hcz11_0 : w10.cell? ⟨gb249, 0, none⟩ = some (.int .i64 a0_0) := (blk_cell BK249.out 0).trans rfl; have hcz11_1 : w10.cell? ⟨gb249, 1, none⟩ = some (.slice A0_1 l0_1.length c0_1) := (blk_cell BK249.out 1).trans rfl; have hfz11_0 := blk_frozen BK249.out 0; have hfz11_1 := blk_frozen BK249.out 1) | ((with_reducible refine gate_callee (f := 17) rfl ?_); refine goesL_ (some 4) rfl rfl Try.func17 (by kernel_rfl) rfl #[.agg #[.int .i64 a0_0, .slice A0_1 l0_1.length c0_1]] rfl (by (try simp only [List.map_toArray, List.map_cons, List.map_nil]); first | done | rfl | (simp only [List.length_drop, List.length_take]; rfl)) ?_; (with_reducible refine (impl_ValidSurvey.calls k a0_0 _ _ l0_1 false _ ?side1 ?side2 A2.out).mono ?_); (case side1 => repeat (first | exact (Kd.C_below HR0_1.out HB.out) | (with_reducible refine Kd.C_alloc ?_ _) | (with_reducible refine Kd.C_drewN ?_ _) | (with_reducible refine Kd.C_drew ?_))); (case side2 => exact HC0_1.out); rintro e w12 ⟨rfl, hb⟩; refine ⟨_, rfl, ?_⟩; have n0_ := Aside0.mk (blk_below (g := gb249) (o := .cells #[.int .i64 a0_0, .slice A0_1 l0_1.length c0_1] 39 (0, 0)) (by (with_reducible repeat (first | refine blk_drewN ?_ _ | refine blk_drew ?_ | refine blk_alloc ?_ _)); exact BK249.out) hb); have n1_ := Aside0.mk (below_step (by repeat (first | (with_reducible first | exact HB.out | apply below_alloc | apply pw_below_drewN | apply below_drew1 | refine below_set ?_ GE249.out) | exact HB.out)) hb); clear BK249; clear HB; have BK249 := n0_; have HB := n1_; clear n0_ n1_; (try clear hb); (try clear hb2); (try clear hk); (try clear hi)))
    go_ret
    exact ⟨by first | rfl | (simp [errW_none, errW_some] <;> rfl) | (simp [*, errW_none, errW_some] <;> rfl), by repeat (first | (with_reducible first | exact HB.out | apply below_alloc | apply pw_below_drewN | apply below_drew1 | refine below_set ?_ GE249.out) | exact HB.out)⟩

end Go.Proofs.Ytkkiagoacbhhjaa.Q

/- The program's choice of sights without loops and the reference's are the same: both keep the same parts of connected points. -/
namespace Go.Proofs.Ytkkiagoacbhhjaa.PuT
open Go.RowKit Go.Proofs.YtkkiagoacbhhjaaW.PrintWords Go.Proofs.Ytkkiagoacbhhjaa.Q Go.Proofs.Ytkkiagoacbhhjaa.PuS Go.Proofs.Ytkkiagoacbhhjaa.Hb Go.Proofs.Ytkkiagoacbhhjaa.Hc Go.Proofs.Ytkkiagoacbhhjaa.Hd

structure Sg where
  out : List Int
  grp : List Int
def stepG (st : Sg) (x : S64 × Nat) : Sg :=
  if rd st.grp x.1.f0 = rd st.grp x.1.f1 then st
  else ⟨st.out ++ [(x.2 : Int)], st.grp.map fun v => if v = rd st.grp x.1.f1 then rd st.grp x.1.f0 else v⟩
def startG (pts : Int) : Sg := ⟨[], (List.range pts.toNat).map fun k : Nat => (k : Int)⟩
def atG (pts : Int) (l : List S64) (k : Nat) : Sg := (l.zipIdx.take k).foldl stepG (startG pts)
def treeG (pts : Int) (l : List S64) : Sg := atG pts l l.length
theorem atG_succ (pts : Int) (l : List S64) (k : Nat) (h : k < l.length) : atG pts l (k + 1) = stepG (atG pts l k) (rd_T64 l k, k) := by
  unfold atG
  rw [List.take_succ_eq_append_getElem (by simpa using h), List.foldl_append]
  simp [rd_T64, h, List.getElem_zipIdx]
theorem stepG_len (st : Sg) (x : S64 × Nat) : (stepG st x).grp.length = st.grp.length := by unfold stepG; split <;> simp
theorem atG_len (pts : Int) (l : List S64) (k : Nat) : (atG pts l k).grp.length = pts.toNat := by
  unfold atG
  generalize l.zipIdx.take k = m
  have : ∀ st : Sg, (m.foldl stepG st).grp.length = st.grp.length := by
    induction m with
    | nil => intro st; rfl
    | cons x xs ih => intro st; simp only [List.foldl_cons]; rw [ih, stepG_len]
  rw [this]; simp [startG]
theorem atG_out (pts : Int) (l : List S64) (k : Nat) : (atG pts l k).out.length ≤ k := by
  induction k with
  | zero => simp [atG, startG]
  | succ k ih =>
    by_cases h : k < l.length
    · rw [atG_succ pts l k h]; unfold stepG; split
      · omega
      · simp only [List.length_append, List.length_cons, List.length_nil]; omega
    · have : atG pts l (k + 1) = atG pts l k := by unfold atG; rw [List.take_of_length_le (by simp; omega), List.take_of_length_le (by simp; omega)]
      rw [this]; omega

theorem tree_l0 (n : Nat) (hn : n ≤ 5) (l : List S64) (out : List Int) : ∀ (d i k : Nat), i + d = n → impl_Survey_tree.l0 (k + d + 1) out ((List.range i).map fun j : Nat => (j : Int)) n i n l = impl_Survey_tree.l1 k out ((List.range n).map fun j : Nat => (j : Int)) l l.length 0 := by
  intro d
  induction d with
  | zero =>
    intro i k hi
    obtain rfl : i = n := by omega
    simp only [impl_Survey_tree.l0]
    rw [if_neg (by omega)]
  | succ d ih =>
    intro i k hi
    rw [show k + (d + 1) + 1 = (k + d + 1) + 1 by omega]
    simp only [impl_Survey_tree.l0]
    rw [if_pos (by omega), if_pos (by simp; omega), wrap_id (by omega) (by omega)]
    have := ih (i + 1) k (by omega)
    rw [List.range_succ, List.map_append] at this
    exact this

theorem tree_l2 (out grp : List Int) (a b : Int) (l : List S64) (len idx : Int) (hg : grp.length ≤ 5) : ∀ (d j k : Nat), j + d = grp.length →
    impl_Survey_tree.l2 (k + d + 1) out (upd (grp.map fun v => if v = b then a else v) grp j) a b l len idx grp.length j = impl_Survey_tree.l1 k out (grp.map fun v => if v = b then a else v) l len (wrap64 (idx + 1)) := by
  intro d
  have hnl : (grp.map fun v => if v = b then a else v).length = grp.length := by simp
  induction d with
  | zero =>
    intro j k hj
    obtain rfl : j = grp.length := by omega
    simp only [impl_Survey_tree.l2]
    rw [if_neg (by omega), upd_all hnl]
  | succ d ih =>
    intro j k hj
    have hlt : j < grp.length := by omega
    rw [show k + (d + 1) + 1 = (k + d + 1) + 1 by omega]
    simp only [impl_Survey_tree.l2]
    rw [if_pos (by omega), if_pos (by omega), if_pos (by rw [upd_len hnl (by omega)]; omega), rd_upd hnl hlt, wrap_id (x := (j : Int) + 1) (by omega) (by omega), show (j : Int) + 1 = ((j + 1 : Nat) : Int) by omega, Int.toNat_natCast]
    by_cases hb : rd grp j = b
    · rw [if_pos hb]
      have e : (grp.map fun v => if v = b then a else v)[j]'(by simpa using hlt) = a := by rw [rd_nat _ _ hlt] at hb; simp [hb]
      have := upd_set hnl hlt
      rw [e] at this
      rw [this]
      exact ih (j + 1) k (by omega)
    · rw [if_neg hb]
      have e : (grp.map fun v => if v = b then a else v)[j]'(by simpa using hlt) = grp[j] := by rw [rd_nat _ _ hlt] at hb; simp [hb]
      rw [← upd_same hnl hlt e]
      exact ih (j + 1) k (by omega)

theorem tree_l1 (n : Nat) (l : List S64) (hv : surveyB n l = true) : ∀ (d i k : Nat), i + d = l.length → (n + 3) * d + 1 ≤ k → impl_Survey_tree.l1 k (atG n l i).out (atG n l i).grp l l.length i = some ((treeG n l).out, (treeG n l).grp) := by
  have hp := valid_pts hv
  have hn5 : n ≤ 5 := by omega
  have hl8 : l.length ≤ 8 := hp.2.2
  intro d
  induction d with
  | zero =>
    intro i k hi hk
    obtain rfl : i = l.length := by omega
    obtain ⟨k, rfl⟩ : ∃ m, k = m + 1 := ⟨k - 1, by omega⟩
    simp only [impl_Survey_tree.l1]
    rw [if_neg (by omega)]; rfl
  | succ d ih =>
    intro i k hi hk
    rw [Nat.mul_succ] at hk
    have hlt : i < l.length := by omega
    have e1 : (i + 1) + d = l.length := by omega
    obtain ⟨k, rfl⟩ : ∃ m, k = m + 1 := ⟨k - 1, by omega⟩
    have e2 : (n + 3) * d + 1 ≤ k := by omega
    have e3 : ∃ k2, k = k2 + n + 1 ∧ (n + 3) * d + 1 ≤ k2 := ⟨k - n - 1, by omega, by omega⟩
    have hw : wrap64 ((i : Int) + 1) = ((i + 1 : Nat) : Int) := by rw [wrap_id (by omega) (by omega)]; omega
    have c1 : (i : Int) < (l.length : Int) := by omega
    have hi9 : i < 17592186044416 := by have := hl8; omega
    clear hk hi hp
    have hgl : (atG n l i).grp.length = n := by rw [atG_len]; simp
    have hol := atG_out n l i
    have hs := atG_succ n l i hlt
    obtain ⟨h0, h1, h2, h3⟩ := valid_at hv i hlt
    obtain ⟨s, hsr⟩ : ∃ s, rd_T64 l i = s := ⟨_, rfl⟩
    rw [hsr] at h0 h1 h2 h3 hs
    have c2 : (0 : Int) ≤ (i : Int) := Int.natCast_nonneg i
    have c3 : s.f0 < ((atG n l i).grp.length : Int) := by rw [hgl]; exact h1
    have c4 : s.f1 < ((atG n l i).grp.length : Int) := by rw [hgl]; exact h3
    have c5 : (atG n l i).out.length < 17592186044416 := Nat.lt_of_le_of_lt hol hi9
    have hlt5 : (atG n l i).grp.length ≤ 5 := by rw [hgl]; exact hn5
    obtain ⟨g, hg⟩ : ∃ g, atG n l i = g := ⟨_, rfl⟩
    rw [hg] at hgl hs c3 c4 c5 hlt5
    rw [hg]
    clear hol hi9 hv h1 h3 hg
    simp only [impl_Survey_tree.l1, hsr, c1, c2, c3, c4, c5, h0, h2, if_true]
    by_cases hab : rd g.grp s.f0 = rd g.grp s.f1
    · rw [if_pos hab, hw]
      have h := ih (i + 1) k e1 e2
      rw [hs] at h
      simp only [stepG, hab, if_true] at h
      exact h
    · rw [if_neg hab]
      obtain ⟨k2, rfl, e4⟩ := e3
      have h2' := tree_l2 (g.out ++ [(i : Int)]) g.grp (rd g.grp s.f0) (rd g.grp s.f1) l l.length i hlt5 n 0 k2 (by rw [hgl]; exact Nat.zero_add n)
      rw [upd_zero, hw] at h2'
      have h := ih (i + 1) k2 e1 e4
      rw [hs] at h
      simp only [stepG, hab, if_false] at h
      exact h2'.trans h

theorem implTree_eq (n : Nat) (l : List S64) (hv : surveyB n l = true) (k : Nat) (hk : 80 ≤ k) : impl_Survey_tree.f k n l = some ((treeG n l).out, (treeG n l).grp) := by
  have hp := valid_pts hv
  obtain ⟨k2, rfl⟩ : ∃ m, k = m + n + 1 := ⟨k - n - 1, by omega⟩
  have h0 := tree_l0 n (by omega) l [] n 0 k2 (by omega)
  rw [List.range_zero, List.map_nil] at h0
  have h1 := tree_l1 n l hv l.length 0 k2 (by omega) (by
    have h5 : (n + 3) * l.length ≤ 8 * 8 := Nat.mul_le_mul (by omega) hp.2.2
    omega)
  unfold impl_Survey_tree.f
  exact h0.trans h1

theorem rd_map (f : Int → Int) (p : List Int) (x : Nat) (h : x < p.length) : rd (p.map f) x = f (rd p x) := by
  rw [rd_nat _ _ (by simpa using h), rd_nat _ _ h]; simp

theorem merge_eq {a b mn mx px py : Int} (_hab : a ≠ b) (h : (mn = a ∧ mx = b) ∨ (mn = b ∧ mx = a)) :
    ((if px = mx then mn else px) = (if py = mx then mn else py)) ↔ (px = py ∨ ((px = a ∨ px = b) ∧ (py = a ∨ py = b))) := by
  split <;> split <;> omega

def cnt (n : Nat) (p : List Int) : Nat := ((List.range n).filter fun x : Nat => decide (rd p x = (x : Int))).length

theorem filter_drop_one {l : List Nat} (hn : l.Nodup) {q q' : Nat → Bool} {m : Nat} (hm : m ∈ l) (hq : q m = true) (h : ∀ x, x ∈ l → (q' x = true ↔ q x = true ∧ x ≠ m)) : (l.filter q').length + 1 = (l.filter q).length := by
  induction l with
  | nil => simp at hm
  | cons x xs ih =>
    rw [List.nodup_cons] at hn
    have hx := h x (by simp)
    by_cases e : x = m
    · subst e
      have h1 : q' x = false := by
        cases hc : q' x
        · rfl
        · exact absurd rfl (hx.1 hc).2
      have h2 : xs.filter q' = xs.filter q := by
        apply List.filter_congr
        intro y hy
        have hy2 := h y (by simp [hy])
        have : y ≠ x := fun e => hn.1 (e ▸ hy)
        cases hc : q y <;> cases hd : q' y <;> simp_all
      simp [h1, hq, h2]
    · have hm' : m ∈ xs := by
        rcases List.mem_cons.1 hm with h | h
        · exact absurd h.symm e
        · exact h
      have := ih hn.2 hm' (fun y hy => h y (by simp [hy]))
      have hqq : q' x = q x := by
        cases hc : q x <;> cases hd : q' x <;> simp_all
      by_cases hc : q x = true
      · simp [hqq, hc]; omega
      · simp [hqq, hc]; omega

structure Inv (n : Nat) (o : List Int) (p g : List Int) : Prop where
  lp : p.length = n
  lg : g.length = n
  eqv : ∀ x y : Nat, x < n → y < n → (rd p x = rd p y ↔ rd g x = rd g y)
  lo : ∀ x : Nat, x < n → 0 ≤ rd p x ∧ rd p x ≤ x
  rep : ∀ x : Nat, x < n → rd p (rd p x) = rd p x
  cn : o.length + cnt n p = n

theorem rd_range (n : Nat) (x : Nat) (h : x < n) : rd ((List.range n).map fun j : Nat => (j : Int)) x = x := by
  rw [rd_nat _ _ (by simpa using h)]; simp
theorem inv_start (n : Nat) : Inv n (Hd.start n).out (Hd.start n).part (startG n).grp where
  lp := by simp [Hd.start]
  lg := by simp [startG]
  eqv := fun x y hx hy => by simp [Hd.start, startG]
  lo := fun x hx => by simp only [Hd.start, Int.toNat_natCast]; rw [rd_range n x hx]; omega
  rep := fun x hx => by simp only [Hd.start, Int.toNat_natCast]; rw [rd_range n x hx, rd_range n x hx]
  cn := by
    have e : ∀ x : Nat, x < n → rd (Hd.start (n : Int)).part x = x := fun x hx => by simp only [Hd.start, Int.toNat_natCast]; exact rd_range n x hx
    have : (List.range n).filter (fun x : Nat => decide (rd (Hd.start (n : Int)).part x = (x : Int))) = List.range n := by
      rw [List.filter_eq_self]
      intro x hx
      exact decide_eq_true (e x (by simpa using hx))
    unfold cnt
    rw [this]; simp [Hd.start]

theorem inv_step {n : Nat} {st : St} {sg : Sg} (h : Inv n st.out st.part sg.grp) (ho : st.out = sg.out) (x : S64 × Nat) (h0 : 0 ≤ x.1.f0) (h1 : x.1.f0 < n) (h2 : 0 ≤ x.1.f1) (h3 : x.1.f1 < n) :
    Inv n (Hd.step st x).out (Hd.step st x).part (stepG sg x).grp ∧ (Hd.step st x).out = (stepG sg x).out := by
  obtain ⟨s, i⟩ := x
  obtain ⟨u, hu⟩ : ∃ u : Nat, s.f0 = (u : Int) := ⟨s.f0.toNat, by simp at h0; omega⟩
  obtain ⟨v, hv⟩ : ∃ v : Nat, s.f1 = (v : Int) := ⟨s.f1.toNat, by simp at h2; omega⟩
  simp only [hu, hv] at h1 h3
  have hun : u < n := by omega
  have hvn : v < n := by omega
  clear h0 h1 h2 h3
  have huv := h.eqv u v hun hvn
  unfold Hd.step stepG
  simp only [hu, hv]
  by_cases hab : rd st.part u = rd st.part v
  · rw [if_pos hab, if_pos (huv.1 hab)]; exact ⟨h, ho⟩
  · rw [if_neg hab, if_neg (fun e => hab (huv.2 e))]
    have hmm : (mnI (rd st.part u) (rd st.part v) = rd st.part u ∧ mxI (rd st.part u) (rd st.part v) = rd st.part v) ∨ (mnI (rd st.part u) (rd st.part v) = rd st.part v ∧ mxI (rd st.part u) (rd st.part v) = rd st.part u) := by
      unfold mnI mxI; split <;> split <;> omega
    have hlt : mnI (rd st.part u) (rd st.part v) < mxI (rd st.part u) (rd st.part v) := by unfold mnI mxI; split <;> split <;> omega
    have hP : ∀ y : Nat, y < n → rd (newPart st.part (rd st.part u) (rd st.part v)) y = if rd st.part y = mxI (rd st.part u) (rd st.part v) then mnI (rd st.part u) (rd st.part v) else rd st.part y := fun y hy => rd_map _ _ _ (by rw [h.lp]; exact hy)
    have hG : ∀ y : Nat, y < n → rd (sg.grp.map fun z => if z = rd sg.grp v then rd sg.grp u else z) y = if rd sg.grp y = rd sg.grp v then rd sg.grp u else rd sg.grp y := fun y hy => rd_map _ _ _ (by rw [h.lg]; exact hy)
    have rmn : rd st.part (mnI (rd st.part u) (rd st.part v)) = mnI (rd st.part u) (rd st.part v) := by
      rcases hmm with ⟨e, _⟩ | ⟨e, _⟩ <;> rw [e]
      · exact h.rep u hun
      · exact h.rep v hvn
    have rmx : rd st.part (mxI (rd st.part u) (rd st.part v)) = mxI (rd st.part u) (rd st.part v) := by
      rcases hmm with ⟨_, e⟩ | ⟨_, e⟩ <;> rw [e]
      · exact h.rep v hvn
      · exact h.rep u hun
    have bu := h.lo u hun
    have bv := h.lo v hvn
    have bmx : 0 ≤ mxI (rd st.part u) (rd st.part v) ∧ mxI (rd st.part u) (rd st.part v) < n := by rcases hmm with ⟨_, e⟩ | ⟨_, e⟩ <;> rw [e] <;> omega
    have bmn : 0 ≤ mnI (rd st.part u) (rd st.part v) := by rcases hmm with ⟨e, _⟩ | ⟨e, _⟩ <;> rw [e] <;> omega
    have hau : ∀ y : Nat, y < n → (rd st.part y = rd st.part u ↔ rd sg.grp y = rd sg.grp u) := fun y hy => h.eqv y u hy hun
    have hav : ∀ y : Nat, y < n → (rd st.part y = rd st.part v ↔ rd sg.grp y = rd sg.grp v) := fun y hy => h.eqv y v hy hvn
    generalize hmn : mnI (rd st.part u) (rd st.part v) = mn at *
    generalize hmx : mxI (rd st.part u) (rd st.part v) = mx at *
    refine ⟨⟨by rw [newPart_len]; exact h.lp, by simp [h.lg], ?_, ?_, ?_, ?_⟩, by rw [ho]⟩
    · intro y z hy hz
      rw [hP y hy, hP z hz, hG y hy, hG z hz, merge_eq hab hmm, merge_eq (a := rd sg.grp u) (b := rd sg.grp v) (fun e => hab (huv.2 e)) (.inl ⟨rfl, rfl⟩), h.eqv y z hy hz, hau y hy, hav y hy, hau z hz, hav z hz]
    · intro y hy
      have := h.lo y hy
      rw [hP y hy]; split <;> omega
    · intro y hy
      have hl := h.lo y hy
      have hr := h.rep y hy
      rw [hP y hy]
      split
      · obtain ⟨m, hm⟩ : ∃ m : Nat, mn = (m : Int) := ⟨mn.toNat, by omega⟩
        rw [hm] at rmn hlt ⊢
        rw [hP m (by omega), rmn, if_neg (by omega)]
      · rename_i hne
        obtain ⟨m, hm⟩ : ∃ m : Nat, rd st.part y = (m : Int) := ⟨(rd st.part y).toNat, by omega⟩
        rw [hm] at hr hne hl ⊢
        rw [hP m (by omega), hr, if_neg hne]
    · obtain ⟨m, hm⟩ : ∃ m : Nat, mx = (m : Int) := ⟨mx.toNat, by omega⟩
      have hc : cnt n (newPart st.part (rd st.part u) (rd st.part v)) + 1 = cnt n st.part := by
        refine filter_drop_one List.nodup_range (m := m) (by simp; omega) (by rw [hm] at rmx; simp [rmx]) ?_
        intro y hy
        have hy' : y < n := by simpa using hy
        rw [hP y hy']
        simp only [decide_eq_true_eq]
        split
        · rename_i e
          constructor
          · intro e2
            rw [e2] at rmn
            omega
          · rintro ⟨e2, e3⟩
            omega
        · rename_i e
          constructor
          · intro e2; exact ⟨e2, by omega⟩
          · intro e2; exact e2.1
      have := h.cn
      simp only [List.length_append, List.length_cons, List.length_nil]
      omega

theorem inv_at {n : Nat} {l : List S64} (hv : surveyB n l = true) : ∀ k, k ≤ l.length → Inv n (at_ n l k).out (at_ n l k).part (atG n l k).grp ∧ (at_ n l k).out = (atG n l k).out := by
  intro k
  induction k with
  | zero => intro _; exact ⟨by rw [at_zero]; exact inv_start n, by simp [at_zero, atG, Hd.start, startG]⟩
  | succ k ih =>
    intro hk
    obtain ⟨h1, h2⟩ := ih (by omega)
    obtain ⟨a, b, c, d⟩ := valid_at hv k (by omega)
    rw [at_succ n l k (by omega), atG_succ n l k (by omega)]
    exact inv_step h1 h2 (rd_T64 l k, k) a b c d

theorem all_zero {n : Nat} {o p g : List Int} (h : Inv n o p g) (hn : 1 ≤ n) : p.all (· == 0) = true ↔ o.length = n - 1 := by
  have hc := h.cn
  have z0 : rd p 0 = 0 := by have := h.lo 0 (by omega); simp at this; omega
  have e1 : p.all (· == 0) = true ↔ ∀ x : Nat, x < n → rd p x = 0 := by
    rw [List.all_eq_true]
    constructor
    · intro ha x hx
      have := ha (rd p x) (by rw [rd_nat _ _ (by rw [h.lp]; exact hx)]; exact List.getElem_mem _)
      simpa using this
    · intro ha y hy
      obtain ⟨i, hi, rfl⟩ := List.getElem_of_mem hy
      have := ha i (by rw [← h.lp]; exact hi)
      rw [rd_nat _ _ hi] at this
      simpa using this
  rw [e1]
  constructor
  · intro ha
    have : (List.range n).filter (fun x : Nat => decide (rd p x = (x : Int))) = [0] := by
      obtain ⟨m, rfl⟩ : ∃ m, n = m + 1 := ⟨n - 1, by omega⟩
      rw [List.range_succ_eq_map, List.filter_cons]
      have h0 : decide (rd p ((0 : Nat) : Int) = ((0 : Nat) : Int)) = true := by simpa using z0
      rw [if_pos h0]
      congr 1
      rw [List.filter_eq_nil_iff]
      intro x hx
      simp only [List.mem_map, List.mem_range] at hx
      obtain ⟨y, hy, rfl⟩ := hx
      have := ha (y + 1) (by omega)
      simp only [Nat.succ_eq_add_one, decide_eq_true_eq]
      omega
    unfold cnt at hc
    rw [this] at hc
    simp at hc; omega
  · intro hl x hx
    have h1 : cnt n p = 1 := by omega
    have hr := h.rep x hx
    have hb := h.lo x hx
    obtain ⟨m, hm⟩ : ∃ m : Nat, rd p x = (m : Int) := ⟨(rd p x).toNat, by omega⟩
    rw [hm] at hr hb ⊢
    by_cases e : m = 0
    · simp [e]
    · exfalso
      unfold cnt at h1
      obtain ⟨y, hy⟩ := List.length_eq_one_iff.1 h1
      have m0 : 0 ∈ (List.range n).filter (fun x : Nat => decide (rd p x = (x : Int))) := by simp; exact ⟨by omega, z0⟩
      have mm : m ∈ (List.range n).filter (fun x : Nat => decide (rd p x = (x : Int))) := by simp; exact ⟨by omega, hr⟩
      rw [hy] at m0 mm
      simp at m0 mm
      omega

theorem out_eq {n : Nat} {l : List S64} (hv : surveyB n l = true) : (treeS n l).out = (treeG n l).out := by
  have := (inv_at hv l.length (Nat.le_refl _)).2
  rwa [at_all] at this
theorem conn_eq {n : Nat} {l : List S64} (hv : surveyB n l = true) : ((treeS n l).part.all (· == 0) = true) ↔ (((treeG n l).out.length : Int) = (n : Int) - 1) := by
  have hp := valid_pts hv
  have h := (inv_at hv l.length (Nat.le_refl _)).1
  rw [at_all] at h
  have := all_zero h (by omega)
  rw [this, ← out_eq hv]
  omega

/-- a valid survey's points are a natural number. -/
theorem nat_pts {p : Int} {l : List S64} (hv : surveyB p l = true) : ∃ n : Nat, p = n := ⟨p.toNat, by have := valid_pts hv; omega⟩
def connB (p : Int) (l : List S64) : Bool := surveyB p l && (treeS p l).part.all (· == 0)
theorem specConn_eq (p : Int) (l : List S64) : spec_IsConnected.f p l = some (connB p l) := by
  simp only [spec_IsConnected.f, spec_l10Whole.f, spec_l10Is.f, Option.bind_some, connB]
  by_cases hv : surveyB p l = true
  · simp only [hv, if_true, spec_l10Tree.f, Bool.true_and]
    cases h : (treeS p l).part.all (· == 0) <;> simp
  · simp [hv]
theorem implConn_eq (p : Int) (l : List S64) (hl : l.length ≤ 1048576) (k : Nat) (hk : l.length < k) (hk2 : 80 ≤ k) : impl_IsConnected.f k p l = some (connB p l) := by
  simp only [impl_IsConnected.f, implValid_eq p l hl k hk, Option.bind_some, connB]
  by_cases hv : surveyB p l = true
  · obtain ⟨n, rfl⟩ := nat_pts hv
    have hp := valid_pts hv
    simp only [hv, if_true, impl_Survey_connected.f, implTree_eq n l hv k hk2, Option.bind_some, Bool.true_and]
    rw [wrap_id (by omega) (by omega)]
    have := conn_eq hv
    congr 1
    rw [Bool.eq_iff_iff, this]
    simp
  · simp [hv]
end Go.Proofs.Ytkkiagoacbhhjaa.PuT

/- UncheckedSights, the reference's and the program's. -/
namespace Go.Proofs.Ytkkiagoacbhhjaa.Hj
open Go.RowKit Go.Proofs.YtkkiagoacbhhjaaW.PrintWords Go.Proofs.YtkkiagoacbhhjaaW.PrintLast Go.Proofs.YtkkiagoacbhhjaaW.PrintMore Go.Proofs.Ytkkiagoacbhhjaa.Q Go.Proofs.Ytkkiagoacbhhjaa.Ha Go.Proofs.Ytkkiagoacbhhjaa.Hb Go.Proofs.Ytkkiagoacbhhjaa.Hc Go.Proofs.Ytkkiagoacbhhjaa.Hd Go.Proofs.Ytkkiagoacbhhjaa.Hf Go.Proofs.Ytkkiagoacbhhjaa.Hg Go.Proofs.Ytkkiagoacbhhjaa.Hh Go.Proofs.Ytkkiagoacbhhjaa.Hi Go.Proofs.Ytkkiagoacbhhjaa.PuS Go.Proofs.Ytkkiagoacbhhjaa.PuT

def unk (pts : Int) (l : List S64) (i : Nat) : List Int := ((List.range i).filter fun j => !connB pts (l.eraseIdx j)).map fun j : Nat => (j : Int)
theorem unk_zero (pts : Int) (l : List S64) : unk pts l 0 = [] := rfl
theorem unk_yes {pts : Int} {l : List S64} {i : Nat} (h : connB pts (l.eraseIdx i) = true) : unk pts l (i + 1) = unk pts l i := by
  simp [unk, List.range_succ, List.filter_append, h]
theorem unk_no {pts : Int} {l : List S64} {i : Nat} (h : connB pts (l.eraseIdx i) = false) : unk pts l (i + 1) = unk pts l i ++ [(i : Int)] := by
  simp [unk, List.range_succ, List.filter_append, h]
theorem unk_len (pts : Int) (l : List S64) (i : Nat) : (unk pts l i).length ≤ i := by
  simp only [unk, List.length_map]
  have := List.length_filter_le (fun j => !connB pts (l.eraseIdx j)) (List.range i)
  simpa using this
theorem surveyB_erase {pts : Int} {l : List S64} (h : surveyB pts l = true) (j : Nat) : surveyB pts (l.eraseIdx j) = true := by
  simp only [surveyB, Bool.and_eq_true, decide_eq_true_eq] at h ⊢
  obtain ⟨⟨h1, h2⟩, h3⟩ := h
  refine ⟨⟨h1, ?_⟩, ?_⟩
  · have := List.length_eraseIdx_le l j; omega
  · rw [List.all_eq_true] at h3 ⊢
    exact fun x hx => h3 x (List.mem_of_mem_eraseIdx hx)
theorem connB_valid {pts : Int} {l : List S64} (h : connB pts l = true) : surveyB pts l = true := by
  simp only [connB, Bool.and_eq_true] at h; exact h.1
theorem connected_eq {pts : Int} {l : List S64} (hv : surveyB pts l = true) : impl_Survey_connected.f 80 pts l = some (connB pts l) := by
  obtain ⟨n, rfl⟩ := nat_pts hv
  have hp := valid_pts hv
  simp only [impl_Survey_connected.f, implTree_eq n l hv 80 (Nat.le_refl _), Option.bind_some, connB, hv, Bool.true_and]
  rw [wrap_id (by omega) (by omega)]
  have := conn_eq hv
  congr 1
  rw [Bool.eq_iff_iff, this]
  simp
theorem whole_eq (pts : Int) (l : List S64) : spec_l10Whole.f pts l = some (connB pts l, pts) := by
  simp only [spec_l10Whole.f, spec_l10Is.f, Option.bind_some, connB]
  by_cases hv : surveyB pts l = true
  · simp only [hv, if_true, spec_l10Tree.f, Bool.true_and]
    cases h : (treeS pts l).part.all (· == 0) <;> simp
  · simp [hv]

def UnkEnds (w : World) (pts : Int) (l : List S64) (e : Ending) (w' : World) : Prop :=
  ∃ v : Value, e = .returned (.tuple #[v, .bool (connB pts l)]) ∧ T w.heap.size w' v (if connB pts l = true then unk pts l l.length else []) ∧ Below w.heap.size w w'

set_option maxHeartbeats 4000000 in
set_option maxRecDepth 100000 in
theorem implUnk_any (pts : Int) (A : Option Addr) (c : Nat) (l : List S64) (w : World) (hr : Kd.C k64 w A l.length l) (hcc : l.length ≤ c) (hlm : l.length ≤ 1048576) :
    Calls Try.prog 35 #[.agg #[.int .i64 pts, .slice A l.length c]] w (UnkEnds w pts l) := by
  have hu64 := Try.underlying64
  have hu39 := Try.underlying39
  have hbx := below_alloc (Below.refl w.heap.size w) (.cells #[.int .i64 pts, .slice A l.length c] 39)
  have HR := Aside0.mk hr
  have HBX := Aside0.mk hbx
  have HB0 := Aside0.mk (blk_new w (.cells #[.int .i64 pts, .slice A l.length c] 39))
  have hc := impl_IsConnected.calls (l.length + 100) pts A c l _ (w.alloc (.cells #[.int .i64 pts, .slice A l.length c] 39)) (Kd.C_below hr hbx) hcc (implConn_eq pts l hlm (l.length + 100) (by omega) (by omega))
  clear hr hbx
  cases hv : connB pts l
  · rw [hv] at hc
    have HV := Aside0.mk hv
    clear hv
    go_enter Try.func35, Try.ntmps35
    go_wp2_with (go_at_call 20; refine hc.mono ?_; rintro e w1 ⟨rfl, h1⟩; have H1 := Aside0.mk h1; clear h1)
    go_ret2
    exact ⟨.slice none 0 0, by rw [HV.out]; rfl, by rw [HV.out]; exact T.nil, below_step HBX.out H1.out⟩
  · rw [hv] at hc
    have HV := Aside0.mk hv
    have hl8 := surveyB_len (connB_valid hv)
    have HS := Aside0.mk (connB_valid hv)
    clear hv
    go_enter Try.func35, Try.ntmps35
    go_wp2_with (go_at_call 20; refine hc.mono ?_; rintro e w1 ⟨rfl, h1⟩; have H1 := Aside0.mk h1; have q0 : w1.cell? ⟨w.heap.size, 0, none⟩ = some (.int .i64 pts) := (blk_cell (blk_below HB0.out h1) 0).trans rfl; have q1 : w1.cell? ⟨w.heap.size, 1, none⟩ = some (.slice A l.length c) := (blk_cell (blk_below HB0.out h1) 1).trans rfl; have QB := Aside0.mk (blk_below HB0.out h1); have hlt1 : w.heap.size < w1.heap.size := blk_lt (blk_below HB0.out h1); clear h1)
    have t0 := Aside0.mk (T.nil_new (B := w.heap.size) (W := w1) (below_step HBX.out H1.out).size)
    have tb := Aside0.mk (below_alloc (below_step HBX.out H1.out) (.cells #[] 2))
    have tq := Aside0.mk (blk_alloc QB.out (.cells #[] 2))
    clear q0 q1
    go_loopw [4, 13] (fun v4 v13 wz => ∃ i : Nat, i ≤ l.length ∧ v13 = .int .i64 i ∧ Aside0 (T w.heap.size wz v4 (unk pts l i)) ∧ Aside0 (wz.heap[w.heap.size]? = some (.cells #[.int .i64 pts, .slice A l.length c] 39 (0, 0))) ∧ Aside0 (Below w.heap.size w wz)) (fun _ v _ => l.length - (intOf v).toNat)
    case atStart => exact ⟨0, by omega, rfl, t0, tq, tb⟩
    case round =>
      clear t0 tb tq
      obtain ⟨i, hi, rfl, rt, rq, rb⟩ := hrel
      have q0 : wr.cell? ⟨w.heap.size, 0, none⟩ = some (.int .i64 pts) := (blk_cell rq.out 0).trans rfl
      have q1 : wr.cell? ⟨w.heap.size, 1, none⟩ = some (.slice A l.length c) := (blk_cell rq.out 1).trans rfl
      by_cases hlt : i < l.length
      · have hlt' : decide ((i : Int) < (l.length : Int)) = true := by simpa using hlt
        have hw := without_any pts A c l i hlt hlm wr (Kd.C_below HR.out rb.out)
        have HSE := Aside0.mk (surveyB_erase HS.out i)
        have hul := unk_len pts l i
        cases hcn : connB pts (l.eraseIdx i)
        · have HC := Aside0.mk hcn
          have HU := Aside0.mk (unk_no hcn)
          clear hcn
          go_wp2_with (first
            | (go_at_call 50; refine hw.mono ?_; rintro e w2 ⟨v, rfl, h3, h4⟩; obtain ⟨Av, cv, rfl⟩ := Kd.R_slice h3; have hk := impl_Survey_connected.calls 80 pts Av cv (l.eraseIdx i) _ w2 (Kd.R_reads' h3).2.2 (Kd.R_reads' h3).2.1 (connected_eq HSE.out); rw [HC.out] at hk; have H4 := Aside0.mk h4; clear h3 h4)
            | (go_at_call 47; refine hk.mono ?_; rintro e w3 ⟨rfl, h5⟩; have hbb := below_step H4.out h5; have s1 := Aside0.mk (rt.out.below hbb); have s2 := Aside0.mk (blk_below rq.out hbb); have s3 := Aside0.mk (below_step rb.out hbb); have hsz := (below_step rb.out hbb).size; clear hbb h5)
            | ((with_reducible refine gate_builtin (b := .append) (xs := #[.tmp 21, .tmp 23]) rfl ?_); at_builtin; refine T.append (w0 := w) rfl rfl (.tmp 21) (.tmp 23) rfl (i : Int) rfl rfl s1.out s3.out hsz (by omega) ?_; intro v1 w4 h1 h2 h3 h4; have n1 := Aside0.mk h1; have n2 := Aside0.mk h2; have n3 := Aside0.mk (blk_grown s2.out h3 (Kd.R_ne s1.out s2.out (by decide))); clear h1 h2 h3 h4))
          go_roundw
          case rel => exact ⟨i + 1, by omega, by go_num, ⟨by rw [HU.out]; exact n1.out⟩, n3, n2⟩
          case measure => simp [intOf]; omega
        · have HC := Aside0.mk hcn
          have HU := Aside0.mk (unk_yes hcn)
          clear hcn
          go_wp2_with (first
            | (go_at_call 50; refine hw.mono ?_; rintro e w2 ⟨v, rfl, h3, h4⟩; obtain ⟨Av, cv, rfl⟩ := Kd.R_slice h3; have hk := impl_Survey_connected.calls 80 pts Av cv (l.eraseIdx i) _ w2 (Kd.R_reads' h3).2.2 (Kd.R_reads' h3).2.1 (connected_eq HSE.out); rw [HC.out] at hk; have H4 := Aside0.mk h4; clear h3 h4)
            | (go_at_call 47; refine hk.mono ?_; rintro e w3 ⟨rfl, h5⟩; have hbb := below_step H4.out h5; have s1 := Aside0.mk (rt.out.below hbb); have s2 := Aside0.mk (blk_below rq.out hbb); have s3 := Aside0.mk (below_step rb.out hbb); clear hbb h5))
          go_roundw
          case rel => exact ⟨i + 1, by omega, by go_num, ⟨by rw [HU.out]; exact s1.out⟩, s2, s3⟩
          case measure => simp [intOf]; omega
      · obtain rfl : i = l.length := by omega
        have hlt' : decide ((l.length : Int) < (l.length : Int)) = false := by simp
        go_wp2_with (fail)
        go_ret2
        exact ⟨_, by rw [HV.out]; rfl, by rw [HV.out]; exact rt.out, rb.out⟩

set_option maxHeartbeats 4000000 in
set_option maxRecDepth 100000 in
theorem specUnk_any (pts : Int) (A : Option Addr) (c : Nat) (l : List S64) (w : World) (hr : Kd.C k64 w A l.length l) :
    Calls Try.prog 34 #[.agg #[.int .i64 pts, .slice A l.length c]] w (UnkEnds w pts l) := by
  have hu64 := Try.underlying64
  have hu39 := Try.underlying39
  have hbx := below_alloc (Below.refl w.heap.size w) (.cells #[.int .i64 pts, .slice A l.length c] 39)
  have HR := Aside0.mk hr
  have HBX := Aside0.mk hbx
  have hs0 := IsS39.new w w A c pts l (Below.refl _ _) hr
  have hc := spec_l10Whole.calls w.heap.size pts l _ _ w (w.alloc (.cells #[.int .i64 pts, .slice A l.length c] 39)) hs0 hbx (whole_eq pts l)
  clear hr hbx hs0
  cases hv : connB pts l
  · rw [hv] at hc
    have HV := Aside0.mk hv
    clear hv
    go_enter Try.func34, Try.ntmps34
    go_wp2_with (go_at_call 46; refine hc.mono ?_; rintro e w1 ⟨rfl, -, h1, -⟩; have H1 := Aside0.mk h1; clear h1)
    go_ret2
    exact ⟨.slice none 0 0, by rw [HV.out]; rfl, by rw [HV.out]; exact T.nil, H1.out⟩
  · rw [hv] at hc
    have HV := Aside0.mk hv
    have hl8 := surveyB_len (connB_valid hv)
    clear hv
    go_enter Try.func34, Try.ntmps34
    go_wp2_with (go_at_call 46; refine hc.mono ?_; rintro e w1 ⟨rfl, h0, h1, -⟩; have H1 := Aside0.mk h1; have H0 := Aside0.mk h0; clear h0 h1)
    have t0 := Aside0.mk (T.nil_new (B := w.heap.size) (W := w1) H1.out.size)
    have tb := Aside0.mk (below_alloc H1.out (.cells #[] 2))
    have tq := Aside0.mk (IsS39.alloc H0.out (.cells #[] 2))
    go_loopw [4, 5] (fun v4 v5 wz => ∃ i : Nat, i ≤ l.length ∧ v5 = .int .i64 i ∧ Aside0 (T w.heap.size wz v4 (unk pts l i)) ∧ Aside0 (IsS39 w wz w.heap.size pts l) ∧ Aside0 (Below w.heap.size w wz)) (fun _ v _ => l.length - (intOf v).toNat)
    case atStart => exact ⟨0, by omega, rfl, t0, tq, tb⟩
    case round =>
      clear t0 tb tq
      obtain ⟨i, hi, rfl, rt, rq, rb⟩ := hrel
      obtain ⟨A1, c1, hb, -, hr1⟩ := rq.out
      have q1 : wr.cell? ⟨w.heap.size, 1, none⟩ = some (.slice A1 l.length c1) := (blk_cell hb 1).trans rfl
      by_cases hlt : i < l.length
      · have hlt' : decide ((i : Int) < (l.length : Int)) = true := by simpa using hlt
        have hw := l10Drop_any w.heap.size pts A1 c1 l i hlt (by omega) wr hb (Kd.C_below hr1 rb.out)
        have hul := unk_len pts l i
        clear hb hr1
        cases hcn : connB pts (l.eraseIdx i)
        · have HC := Aside0.mk hcn
          have HU := Aside0.mk (unk_no hcn)
          clear hcn
          go_wp2_with (first
            | (go_at_call 49; refine hw.mono ?_; rintro e w2 ⟨v, rfl, h3, h4⟩; obtain ⟨Av, cv, rfl⟩ := Kd.R_slice h3; have hk := spec_l10Whole.calls w2.heap.size pts (l.eraseIdx i) _ _ w2 (w2.alloc (.cells #[.int .i64 pts, .slice Av (l.eraseIdx i).length cv] 39)) (IsS39.new w2 w2 Av cv pts (l.eraseIdx i) (Below.refl _ _) (Kd.R_reads' h3).2.2) (below_alloc (Below.refl _ _) _) (whole_eq pts (l.eraseIdx i)); rw [HC.out] at hk; have H4 := Aside0.mk h4; clear h3 h4)
            | (go_at_call 46; refine hk.mono ?_; rintro e w3 ⟨rfl, -, h5, -⟩; have hbb := below_step H4.out h5; have s1 := Aside0.mk (rt.out.below hbb); have s2 := Aside0.mk (rq.out.below hbb); have s3 := Aside0.mk (below_step rb.out hbb); have hsz := (below_step rb.out hbb).size; clear hbb h5)
            | ((with_reducible refine gate_builtin (b := .append) (xs := #[.tmp 21, .tmp 23]) rfl ?_); at_builtin; refine T.append (w0 := w) rfl rfl (.tmp 21) (.tmp 23) rfl (i : Int) rfl rfl s1.out s3.out hsz (by omega) ?_; intro v1 w4 h1 h2 h3 h4; have n1 := Aside0.mk h1; have n2 := Aside0.mk h2; have n3 := Aside0.mk (IsS39.grown s2.out h3 (IsS39.own_ne s2.out s1.out (by decide))); clear h1 h2 h3 h4))
          go_roundw
          case rel => exact ⟨i + 1, by omega, by go_num, ⟨by rw [HU.out]; exact n1.out⟩, n3, n2⟩
          case measure => simp [intOf]; omega
        · have HC := Aside0.mk hcn
          have HU := Aside0.mk (unk_yes hcn)
          clear hcn
          go_wp2_with (first
            | (go_at_call 49; refine hw.mono ?_; rintro e w2 ⟨v, rfl, h3, h4⟩; obtain ⟨Av, cv, rfl⟩ := Kd.R_slice h3; have hk := spec_l10Whole.calls w2.heap.size pts (l.eraseIdx i) _ _ w2 (w2.alloc (.cells #[.int .i64 pts, .slice Av (l.eraseIdx i).length cv] 39)) (IsS39.new w2 w2 Av cv pts (l.eraseIdx i) (Below.refl _ _) (Kd.R_reads' h3).2.2) (below_alloc (Below.refl _ _) _) (whole_eq pts (l.eraseIdx i)); rw [HC.out] at hk; have H4 := Aside0.mk h4; clear h3 h4)
            | (go_at_call 46; refine hk.mono ?_; rintro e w3 ⟨rfl, -, h5, -⟩; have hbb := below_step H4.out h5; have s1 := Aside0.mk (rt.out.below hbb); have s2 := Aside0.mk (rq.out.below hbb); have s3 := Aside0.mk (below_step rb.out hbb); clear hbb h5))
          go_roundw
          case rel => exact ⟨i + 1, by omega, by go_num, ⟨by rw [HU.out]; exact s1.out⟩, s2, s3⟩
          case measure => simp [intOf]; omega
      · obtain rfl : i = l.length := by omega
        have hlt' : decide ((l.length : Int) < (l.length : Int)) = false := by simp
        clear hb hr1
        go_wp2_with (fail)
        go_ret2
        exact ⟨_, by rw [HV.out]; rfl, by rw [HV.out]; exact rt.out, rb.out⟩
end Go.Proofs.Ytkkiagoacbhhjaa.Hj

