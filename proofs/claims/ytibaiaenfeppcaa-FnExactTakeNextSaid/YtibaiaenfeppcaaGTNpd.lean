/- Parts of the proof that the law of this seat holds: Q62, PuTO, Yq, Lx, PuTN, Yr, TN, LTN. -/
import Derived.Test.YtibaiaenfeppcaaGTNpa
import Derived.Test.YtibaiaenfeppcaaGTNpc
import Derived.Test.YtibaiaenfeppcaaGTNpb
set_option linter.unusedVariables false
set_option linter.unusedSimpArgs false
-- made by a patched copy of print.sh: this session's own
namespace Go.Proofs.Ytibaiaenfeppcaa.Q
open Go.RowKit Go.Proofs.YtibaiaenfeppcaaW.PrintWords Go.Proofs.YtibaiaenfeppcaaW.PrintLast Go.Proofs.YtibaiaenfeppcaaW.PrintMore
attribute [local go_sem] max2_int min2_int max_two min_two max_three min_three max_four min_four   -- for this text's walks alone
set_option linter.unusedVariables false
set_option linter.unusedSimpArgs false

/-! ### impl_BlockersOf: function 23 -/
mutual
def impl_BlockersOf.l0 : Nat → List Int → List (List Int) → Int → Int → Option (List Int × Bool)
  | 0, _, _, _, _ => none
  | k + 1, x4, x14, x15, x16 => if x16 < x15 then (if 0 ≤ x16 then (if x16 < (x14.length : Int) then (impl_BlockersOf.l1 k x4 (rd_L1 x14 x16) x14 x15 x16 (rd_L1 x14 x16) ((rd_L1 x14 x16).length : Int) 0) else (none)) else (none)) else ((slices_Sort_int64_int64.f x4).bind fun t404 => (some (t404, true)))
def impl_BlockersOf.l1 : Nat → List Int → List Int → List (List Int) → Int → Int → List Int → Int → Int → Option (List Int × Bool)
  | 0, _, _, _, _, _, _, _, _ => none
  | k + 1, x4, x6, x14, x15, x16, x20, x21, x22 => if x22 < x21 then (if 0 ≤ x22 then (if x22 < (x20.length : Int) then (if x22 > 0 then (if x22 ≤ (x6.length : Int) then ((slices_Min_int64_int64.f (x6.take (x22 : Int).toNat)).bind fun t408 => (if t408 < (rd x20 x22) then (if x4.length < 17592186044416 then (impl_BlockersOf.l1 k (x4 ++ [rd x20 x22]) x6 x14 x15 x16 x20 x21 (wrap64 (x22 + 1))) else (none)) else (impl_BlockersOf.l1 k x4 x6 x14 x15 x16 x20 x21 (wrap64 (x22 + 1))))) else (none)) else (impl_BlockersOf.l1 k x4 x6 x14 x15 x16 x20 x21 (wrap64 (x22 + 1)))) else (none)) else (none)) else (impl_BlockersOf.l0 k x4 x14 x15 (wrap64 (x16 + 1)))
end
def impl_BlockersOf.f (k : Nat) (a0_0 : Int) (l0_1 : List (List Int)) : Option (List Int × Bool) := (impl_ValidYard.f a0_0 l0_1).bind fun t400 => (if t400 = true then (impl_BlockersOf.l0 k (([] : List Int)) l0_1 (l0_1.length : Int) 0) else (some (([] : List Int), false)))
theorem impl_BlockersOf.mono_l : ∀ k, (∀ y0 y1 y2 y3, LeO (impl_BlockersOf.l0 k y0 y1 y2 y3) (impl_BlockersOf.l0 (k + 1) y0 y1 y2 y3)) ∧ (∀ y0 y1 y2 y3 y4 y5 y6 y7, LeO (impl_BlockersOf.l1 k y0 y1 y2 y3 y4 y5 y6 y7) (impl_BlockersOf.l1 (k + 1) y0 y1 y2 y3 y4 y5 y6 y7))
  | 0 => ⟨fun _ _ _ _ r h => by simp [impl_BlockersOf.l0] at h, fun _ _ _ _ _ _ _ _ r h => by simp [impl_BlockersOf.l1] at h⟩
  | k + 1 => by
    obtain ⟨ih0, ih1⟩ := impl_BlockersOf.mono_l k
    refine ⟨?_, ?_⟩
    · intro y0 y1 y2 y3
      unfold impl_BlockersOf.l0
      repeat' first
      | (with_reducible exact ih0 _ _ _ _)
      | (with_reducible exact ih1 _ _ _ _ _ _ _ _)
      | (with_reducible exact LeO.refl _)
      | (with_reducible exact LeO.none _)
      | (with_reducible refine LeO.ite ?_ ?_)
      | (with_reducible refine LeO.bind ?_ (fun _ => ?_))
      | exact ih0 _ _ _ _
      | exact ih1 _ _ _ _ _ _ _ _
      | exact LeO.none _
      | refine LeO.ite ?_ ?_
      | refine LeO.bind ?_ (fun _ => ?_)
    · intro y0 y1 y2 y3 y4 y5 y6 y7
      unfold impl_BlockersOf.l1
      repeat' first
      | (with_reducible exact ih0 _ _ _ _)
      | (with_reducible exact ih1 _ _ _ _ _ _ _ _)
      | (with_reducible exact LeO.refl _)
      | (with_reducible exact LeO.none _)
      | (with_reducible refine LeO.ite ?_ ?_)
      | (with_reducible refine LeO.bind ?_ (fun _ => ?_))
      | exact ih0 _ _ _ _
      | exact ih1 _ _ _ _ _ _ _ _
      | exact LeO.none _
      | refine LeO.ite ?_ ?_
      | refine LeO.bind ?_ (fun _ => ?_)
theorem impl_BlockersOf.mono : ∀ a0 a1 k, LeO (impl_BlockersOf.f k a0 a1) (impl_BlockersOf.f (k + 1) a0 a1) := by
  intro a0 a1 k
  obtain ⟨ih0, ih1⟩ := impl_BlockersOf.mono_l k
  unfold impl_BlockersOf.f
  repeat' first
      | (with_reducible exact ih0 _ _ _ _)
      | (with_reducible exact ih1 _ _ _ _ _ _ _ _)
      | (with_reducible exact LeO.refl _)
      | (with_reducible exact LeO.none _)
      | (with_reducible refine LeO.ite ?_ ?_)
      | (with_reducible refine LeO.bind ?_ (fun _ => ?_))
      | exact ih0 _ _ _ _
      | exact ih1 _ _ _ _ _ _ _ _
      | exact LeO.none _
      | refine LeO.ite ?_ ?_
      | refine LeO.bind ?_ (fun _ => ?_)
set_option maxHeartbeats 8000000 in
set_option maxRecDepth 100000 in
theorem impl_BlockersOf.calls (k : Nat) (a0_0 : Int) (A0_1 : Option Addr) (c0_1 : Nat) (l0_1 : List (List Int)) (r1 : List Int) (r2 : Bool) (w : World) (hr0_1 : Kd.C (Kd.slice 2 (Kd.int .i64)) w A0_1 l0_1.length l0_1) (hc0_1 : l0_1.length ≤ c0_1) (h : impl_BlockersOf.f k a0_0 l0_1 = some (r1, r2)) :
    Calls Try.prog 23 #[.agg #[.int .i64 a0_0, .slice A0_1 l0_1.length c0_1]] w fun e w' => ∃ v0_ : Value, e = .returned (.tuple #[v0_, .bool r2]) ∧ Kd.R (Kd.int .i64) 2 w' w.heap.size (fun _ => True) v0_ r1 ∧ Below w.heap.size w w' := by
  have hu27 := Try.underlying27
  have HR0_1 := Aside0.mk hr0_1
  have HC0_1 := Aside0.mk hc0_1
  clear hr0_1 hc0_1
  have HB := Aside0.mk (Below.refl w.heap.size w)
  have H : ((impl_ValidYard.f a0_0 l0_1).bind fun t400 => (if t400 = true then (impl_BlockersOf.l0 k (([] : List Int)) l0_1 (l0_1.length : Int) 0) else (some (([] : List Int), false)))) = some (r1, r2) := h
  clear h
  replace H := Option.bind_eq_some_iff.mp H
  obtain ⟨t400, A20, H⟩ := H
  replace H : (if t400 = true then (impl_BlockersOf.l0 k (([] : List Int)) l0_1 (l0_1.length : Int) 0) else (some (([] : List Int), false))) = some (r1, r2) := H
  have A2 := Aside0.mk A20
  clear A20
  by_cases c3 : t400 = true
  · subst c3
    have H1 : (impl_BlockersOf.l0 k (([] : List Int)) l0_1 (l0_1.length : Int) 0) = some (r1, r2) := by rw [if_pos rfl] at H; exact H
    clear H
    have H := H1
    clear H1
    obtain ⟨y401, hy401⟩ : ∃ y_ : List Int, y_ = (([] : List Int)) := ⟨_, rfl⟩
    replace H : (impl_BlockersOf.l0 k y401 l0_1 (l0_1.length : Int) 0) = some (r1, r2) := by first | (rw [hy401]; with_reducible exact H) | (have H2_ := (Option.bind_some _ _).symm.trans H; rw [hy401]; with_reducible exact H2_) | (have H2_ := (Option.bind_some _ _).symm.trans H; with_reducible exact H2_) | with_reducible exact H | (rw [hy401]; exact H) | exact H
    have Ny401 := Aside0.mk hy401
    clear hy401
    have H' := Aside0.mk H
    clear H
    go_enter Try.func23, Try.ntmps23
    go_wp2_with (first | ((with_reducible refine gate_dst (N := 1) rfl ?_); refine box_event ?hg (N := 1) ?hd (cs := #[.int .i64 a0_0, .slice A0_1 l0_1.length c0_1]) (t := 27) ?hr ?_; (case hd => rfl); (case hg => rfl); (case hr => first | (go_simp; done) | (go_simp; rfl)); intro gb399 hg w4 hbox hb; have n0_ := Aside0.mk (below_step (by repeat (first | (with_reducible first | exact HB.out | apply below_alloc | apply pw_below_drewN | apply below_drew1) | exact HB.out)) hb); have n1_ := Aside0.mk (hbox); have n2_ := Aside0.mk ((by rw [hg]; exact (below_size (by repeat (first | (with_reducible first | exact HB.out | apply below_alloc | apply pw_below_drewN | apply below_drew1) | exact HB.out))) : w.heap.size ≤ gb399)); have n3_ := Aside0.mk ((by rw [hg]; exact (below_size (by repeat (first | (with_reducible first | exact HB.out | apply below_alloc | apply pw_below_drewN | apply below_drew1) | exact HB.out))) : w.heap.size ≤ gb399)); clear HB; have HB := n0_; have BK399 := n1_; have GW399 := n2_; have GE399 := n3_; clear n0_ n1_ n2_ n3_; clear hb hbox hg; have hcz5_0 : w4.cell? ⟨gb399, 0, none⟩ = some (.int .i64 a0_0) := (blk_cell BK399.out 0).trans rfl; have hcz5_1 : w4.cell? ⟨gb399, 1, none⟩ = some (.slice A0_1 l0_1.length c0_1) := (blk_cell BK399.out 1).trans rfl; have hfz5_0 := blk_frozen BK399.out 0; have hfz5_1 := blk_frozen BK399.out 1) | ((with_reducible refine gate_callee (f := 13) rfl ?_); refine goesL_ (some 10) rfl rfl Try.func13 (by kernel_rfl) rfl #[.agg #[.int .i64 a0_0, .slice A0_1 l0_1.length c0_1]] rfl (by (try simp only [List.map_toArray, List.map_cons, List.map_nil]); first | done | rfl | (simp only [List.length_drop, List.length_take]; rfl)) ?_; (with_reducible refine (impl_ValidYard.calls a0_0 _ _ l0_1 true _ ?side1 ?side2 A2.out).mono ?_); (case side1 => repeat (first | exact (Kd.C_below HR0_1.out HB.out) | (with_reducible refine Kd.C_alloc ?_ _) | (with_reducible refine Kd.C_drewN ?_ _) | (with_reducible refine Kd.C_drew ?_))); (case side2 => exact HC0_1.out); rintro e w6 ⟨rfl, hb⟩; refine ⟨_, rfl, ?_⟩; have n0_ := Aside0.mk (blk_below (g := gb399) (o := .cells #[.int .i64 a0_0, .slice A0_1 l0_1.length c0_1] 27 (0, 0)) (by (with_reducible repeat (first | refine blk_drewN ?_ _ | refine blk_drew ?_ | refine blk_alloc ?_ _)); exact BK399.out) hb); have n1_ := Aside0.mk (below_step (by repeat (first | (with_reducible first | exact HB.out | apply below_alloc | apply pw_below_drewN | apply below_drew1 | refine below_set ?_ GE399.out) | exact HB.out)) hb); clear BK399; clear HB; have BK399 := n0_; have HB := n1_; clear n0_ n1_; (try clear hb); (try clear hb2); (try clear hk); (try clear hi)) | ((with_reducible refine gate_dst (N := 12) rfl ?_); refine Kd.R_lit (Kd.int .i64) _ 2 ?hg (N := 12) ?hd (xs := ([] : List Int)) (inner := []) (ok := fun _ => True) (okp := fun _ => True) ?hr ?hp (fun _ hk => hk) trivial (Below.refl _ _) (Nat.le_refl _) (by simp) ?_; (case hd => rfl); (case hg => rfl); (case hr => first | (go_simp; done) | (go_simp; rfl)); (case hp => exact (Reps.none _ _)); intro v402 w7 ho8 hb hg_ hnew_; clear hg_ hnew_; (first | rw [← Ny401.out] at ho8 | (simp only [Int.reduceToNat] at ho8; rw [← Ny401.out] at ho8)); have n0_ := Aside0.mk (Kd.R_lower ho8 (below_size (by repeat (first | (with_reducible first | exact HB.out | apply below_alloc | apply pw_below_drewN | apply below_drew1 | refine below_set ?_ GE399.out) | exact HB.out)))); have n1_ := Aside0.mk (blk_below (g := gb399) (o := .cells #[.int .i64 a0_0, .slice A0_1 l0_1.length c0_1] 27 (0, 0)) (by (with_reducible repeat (first | refine blk_drewN ?_ _ | refine blk_drew ?_ | refine blk_alloc ?_ _)); exact BK399.out) hb); have n2_ := Aside0.mk (below_step (by repeat (first | (with_reducible first | exact HB.out | apply below_alloc | apply pw_below_drewN | apply below_drew1 | refine below_set ?_ GE399.out) | exact HB.out)) hb); clear BK399; clear HB; have HO403 := n0_; have BK399 := n1_; have HB := n2_; clear n0_ n1_ n2_; clear hb ho8; have hcz9_0 : w7.cell? ⟨gb399, 0, none⟩ = some (.int .i64 a0_0) := (blk_cell BK399.out 0).trans rfl; have hcz9_1 : w7.cell? ⟨gb399, 1, none⟩ = some (.slice A0_1 l0_1.length c0_1) := (blk_cell BK399.out 1).trans rfl; have hfz9_0 := blk_frozen BK399.out 0; have hfz9_1 := blk_frozen BK399.out 1))
    go_loopg [4, 16] k (fun kq v4 v16 w' => ∃ (x4_1 : List Int) (x16_1 : Int), v16 = .int .i64 x16_1 ∧ Aside0 (impl_BlockersOf.l0 kq x4_1 l0_1 (l0_1.length : Int) x16_1 = some (r1, r2)) ∧ Aside0 (kq ≤ k) ∧ Aside0 (Kd.R (Kd.int .i64) 2 w' w.heap.size (fun _ => True) v4 x4_1) ∧ Aside0 (w'.heap[gb399]? = some (.cells #[.int .i64 a0_0, (.slice A0_1 l0_1.length c0_1)] 27 (0, 0))) ∧ Aside0 (Below w.heap.size w w'))
    case atStart => exact ⟨(y401), (0), (by first | rfl | (simp; done) | (simp [*]; done)), H', ⟨Nat.le_refl _⟩, ⟨by (with_reducible repeat (first | apply Kd.R_alloc | apply Kd.R_drewN | apply Kd.R_drew)); exact HO403.out⟩, ⟨by (with_reducible repeat (first | refine blk_drewN ?_ _ | refine blk_drew ?_ | refine blk_alloc ?_ _)); exact BK399.out⟩, ⟨by repeat (first | (with_reducible first | exact HB.out | apply below_alloc | apply pw_below_drewN | apply below_drew1 | refine below_set ?_ GE399.out) | exact HB.out)⟩⟩
    case round =>
      clear H'
      try clear c1
      try clear c2
      try clear p2
      try clear c3
      try clear hcz5_0
      try clear hcz5_1
      try clear hcz9_0
      try clear hcz9_1
      try clear hfz5_0
      try clear hfz5_1
      try clear hfz9_0
      try clear hfz9_1
      obtain ⟨x4_1, x16_1, rfl, HA, HK1, HO_4, BK399, HB⟩ := hrel
      cases gk with
      | zero => exact absurd HA.out (by simp [impl_BlockersOf.l0])
      | succ k1 =>
        have H := HA.out
        clear HA
        simp only [impl_BlockersOf.l0] at H
        by_cases c10 : x16_1 < (l0_1.length : Int)
        · rw [if_pos c10] at H
          have c10b0 : decide (x16_1 < (l0_1.length : Int)) = true := decide_eq_true c10
          clear c10
          by_cases c11 : 0 ≤ x16_1
          · rw [if_pos c11] at H
            have c11b0 : decide (0 ≤ x16_1) = true := decide_eq_true c11
            clear c11
            by_cases c12 : x16_1 < (l0_1.length : Int)
            · rw [if_pos c12] at H
              have c12b0 : decide (x16_1 < (l0_1.length : Int)) = true := decide_eq_true c12
              clear c12
              have H' := Aside0.mk H
              clear H
              have p405 : 0 ≤ (x16_1 : Int) := of_decide_eq_true (by first | (with_reducible assumption) | assumption)
              have q405 : x16_1 < (l0_1.length : Int) := of_decide_eq_true (by first | (with_reducible assumption) | assumption)
              obtain ⟨ad405, A405_0, c405_0, e405, hx405_0, hl405_0, hi405_0⟩ := at_L1 HR0_1.out x16_1 p405 q405
              cases e405
              replace hx405_0 := (HB.out.cell (World.block_lt_of_cell? w _ hx405_0)).trans hx405_0
              have HR405_0 := Aside0.mk hi405_0
              have HC405_0 := Aside0.mk hl405_0
              clear hi405_0 hl405_0
              replace p405 := eq_true p405
              replace q405 := eq_true q405
              go_wp2
              go_loopg [4, 22] k1 (fun kq v4 v22 w' => ∃ (x4_2 : List Int) (x22_2 : Int), v22 = .int .i64 x22_2 ∧ Aside0 (impl_BlockersOf.l1 kq x4_2 (rd_L1 l0_1 x16_1) l0_1 (l0_1.length : Int) x16_1 (rd_L1 l0_1 x16_1) ((rd_L1 l0_1 x16_1).length : Int) x22_2 = some (r1, r2)) ∧ Aside0 (kq ≤ k1) ∧ Aside0 (Kd.R (Kd.int .i64) 2 w' w.heap.size (fun _ => True) v4 x4_2) ∧ Aside0 (w'.heap[gb399]? = some (.cells #[.int .i64 a0_0, (.slice (some ad405) l0_1.length c0_1)] 27 (0, 0))) ∧ Aside0 (Below w.heap.size w w'))
              case atStart => exact ⟨(x4_1), (0), (by first | rfl | (simp; done) | (simp [*]; done)), H', ⟨Nat.le_refl _⟩, ⟨by (with_reducible repeat (first | apply Kd.R_alloc | apply Kd.R_drewN | apply Kd.R_drew)); exact HO_4.out⟩, ⟨by (with_reducible repeat (first | refine blk_drewN ?_ _ | refine blk_drew ?_ | refine blk_alloc ?_ _)); exact BK399.out⟩, ⟨by repeat (first | (with_reducible first | exact HB.out | apply below_alloc | apply pw_below_drewN | apply below_drew1 | refine below_set ?_ GE399.out) | exact HB.out)⟩⟩
              case round =>
                clear H'
                try clear c1
                try clear c2
                try clear p2
                try clear c3
                try clear c4
                try clear p4
                try clear q4
                try clear hx4
                try clear c10
                try clear c10b0
                try clear c11
                try clear c11b0
                try clear c12
                try clear c12b0
                try clear hcz5_0
                try clear hcz5_1
                try clear hcz9_0
                try clear hcz9_1
                try clear hfz5_0
                try clear hfz5_1
                try clear hfz9_0
                try clear hfz9_1
                try clear hx405_0
                try clear p2
                try clear p405
                try clear q405
                obtain ⟨x4_2, x22_2, rfl, HA, HK2, HO_4, BK399, HB⟩ := hrel
                cases gk with
                | zero => exact absurd HA.out (by simp [impl_BlockersOf.l1])
                | succ k2 =>
                  have H := HA.out
                  clear HA
                  simp only [impl_BlockersOf.l1] at H
                  by_cases c13 : x22_2 < ((rd_L1 l0_1 x16_1).length : Int)
                  · rw [if_pos c13] at H
                    have c13b0 : decide (x22_2 < ((rd_L1 l0_1 x16_1).length : Int)) = true := decide_eq_true c13
                    clear c13
                    by_cases c14 : 0 ≤ x22_2
                    · rw [if_pos c14] at H
                      have c14b0 : decide (0 ≤ x22_2) = true := decide_eq_true c14
                      clear c14
                      by_cases c15 : x22_2 < ((rd_L1 l0_1 x16_1).length : Int)
                      · rw [if_pos c15] at H
                        have c15b0 : decide (x22_2 < ((rd_L1 l0_1 x16_1).length : Int)) = true := decide_eq_true c15
                        clear c15
                        by_cases c16 : x22_2 > 0
                        · rw [if_pos c16] at H
                          have c16b0 : decide (0 < x22_2) = true := decide_eq_true c16
                          clear c16
                          have c17b0 := eq_true (of_decide_eq_true (by first | (with_reducible assumption) | assumption) : 0 ≤ x22_2)
                          by_cases c18 : x22_2 ≤ ((rd_L1 l0_1 x16_1).length : Int)
                          · rw [if_pos c18] at H
                            have c18b0 := eq_true c18
                            have c18b1 : decide (x22_2 ≤ ((rd_L1 l0_1 x16_1).length : Int)) = true := decide_eq_true c18
                            clear c18
                            replace H := Option.bind_eq_some_iff.mp H
                            obtain ⟨t408, A190, H⟩ := H
                            replace H : (if t408 < (rd (rd_L1 l0_1 x16_1) x22_2) then (if x4_2.length < 17592186044416 then (impl_BlockersOf.l1 k2 (x4_2 ++ [rd (rd_L1 l0_1 x16_1) x22_2]) (rd_L1 l0_1 x16_1) l0_1 (l0_1.length : Int) x16_1 (rd_L1 l0_1 x16_1) ((rd_L1 l0_1 x16_1).length : Int) (wrap64 (x22_2 + 1))) else (none)) else (impl_BlockersOf.l1 k2 x4_2 (rd_L1 l0_1 x16_1) l0_1 (l0_1.length : Int) x16_1 (rd_L1 l0_1 x16_1) ((rd_L1 l0_1 x16_1).length : Int) (wrap64 (x22_2 + 1)))) = some (r1, r2) := H
                            have A19 := Aside0.mk A190
                            clear A190
                            by_cases c20 : t408 < (rd (rd_L1 l0_1 x16_1) x22_2)
                            · rw [if_pos c20] at H
                              have c20b0 : decide (t408 < (rd (rd_L1 l0_1 x16_1) x22_2)) = true := decide_eq_true c20
                              clear c20
                              by_cases c21 : x4_2.length < 17592186044416
                              · rw [if_pos c21] at H
                                have LMc21 := Aside0.mk c21
                                clear c21
                                obtain ⟨y409, hy409⟩ : ∃ y_ : List Int, y_ = (x4_2 ++ [rd (rd_L1 l0_1 x16_1) x22_2]) := ⟨_, rfl⟩
                                replace H : (impl_BlockersOf.l1 k2 y409 (rd_L1 l0_1 x16_1) l0_1 (l0_1.length : Int) x16_1 (rd_L1 l0_1 x16_1) ((rd_L1 l0_1 x16_1).length : Int) (wrap64 (x22_2 + 1))) = some (r1, r2) := by first | (rw [hy409]; with_reducible exact H) | (have H2_ := (Option.bind_some _ _).symm.trans H; rw [hy409]; with_reducible exact H2_) | (have H2_ := (Option.bind_some _ _).symm.trans H; with_reducible exact H2_) | with_reducible exact H | (rw [hy409]; exact H) | exact H
                                have Ny409 := Aside0.mk hy409
                                clear hy409
                                have H' := Aside0.mk H
                                clear H
                                have p406 : 0 ≤ (x22_2 : Int) := of_decide_eq_true (by first | (with_reducible assumption) | assumption)
                                have q406 : x22_2 < ((rd_L1 l0_1 x16_1).length : Int) := of_decide_eq_true (by first | (with_reducible assumption) | assumption)
                                obtain ⟨ad406, e406, hx406_0⟩ := Kd.at_int HR405_0.out x22_2 p406 q406
                                cases e406
                                replace hx406_0 := (HB.out.cell (World.block_lt_of_cell? w _ hx406_0)).trans hx406_0
                                replace p406 := eq_true p406
                                replace q406 := eq_true q406
                                obtain ⟨i022, hi022, _, hsz22, _⟩ := info_parts info2
                                obtain ⟨hcut22, hA22, hC22⟩ := print_take_of (P := Try.prog) (Value.int .i64) 0 31 2 .i64 Try.underlying31 hi022 hsz22 (some ad406) c405_0 (rd_L1 l0_1 x16_1) x22_2 (of_decide_eq_true (by first | (with_reducible assumption) | assumption)) (of_decide_eq_true (by first | (with_reducible assumption) | assumption)) HC405_0.out
                                have HR407 := Aside0.mk (Kd.C_of_reads (h1 := fun _ => rfl) (hA22 _ (Kd.reads_of_C HR405_0.out)))
                                have HC407 := Aside0.mk hC22
                                clear hA22 hC22 hi022 hsz22
                                go_wp2_with (first | (go_at_call 46; refine calls_of_args (args' := #[.slice (some ad406) ((rd_L1 l0_1 x16_1).take (x22_2 : Int).toNat).length c405_0]) (by have p_ := of_eq_true p406; have q_ := of_eq_true q406; rw [List.length_take, Nat.min_eq_left (by omega)]) ?_; (with_reducible refine (slices_Min_int64_int64.calls _ _ ((rd_L1 l0_1 x16_1).take (x22_2 : Int).toNat) t408 _ ?side1 ?side2 A19.out).mono ?_); (case side1 => repeat (first | exact (Kd.C_below HR407.out HB.out) | (with_reducible refine Kd.C_alloc ?_ _) | (with_reducible refine Kd.C_drewN ?_ _) | (with_reducible refine Kd.C_drew ?_))); (case side2 => exact HC407.out); rintro e w23 ⟨rfl, hb⟩; have n0_ := Aside0.mk (Kd.R_below (by (with_reducible repeat (first | apply Kd.R_alloc | apply Kd.R_drewN | apply Kd.R_drew)); exact HO_4.out) hb); have n1_ := Aside0.mk (blk_below (g := gb399) (o := .cells #[.int .i64 a0_0, .slice (some ad405) l0_1.length c0_1] 27 (0, 0)) (by (with_reducible repeat (first | refine blk_drewN ?_ _ | refine blk_drew ?_ | refine blk_alloc ?_ _)); exact BK399.out) hb); have n2_ := Aside0.mk (below_step (by repeat (first | (with_reducible first | exact HB.out | apply below_alloc | apply pw_below_drewN | apply below_drew1 | refine below_set ?_ GE399.out) | exact HB.out)) hb); clear HO_4; clear BK399; clear HB; have HO_4 := n0_; have BK399 := n1_; have HB := n2_; clear n0_ n1_ n2_; (try clear hb); (try clear hb2); (try clear hk); (try clear hi)) | ((with_reducible refine gate_builtin (b := .append) (xs := #[.tmp 37, .tmp 39]) rfl ?_); at_builtin; refine Kd.R_append (Kd.int .i64) (w0 := w) w.heap.size rfl (.tmp 37) (.tmp 39) 31 2 (.int .i64 0) 8 rfl Try.underlying31 info2 rfl (by decide) (by omega) u4 x4_2 (rd (rd_L1 l0_1 x16_1) x22_2) [.int .i64 (rd (rd_L1 l0_1 x16_1) x22_2)] (fun _ => True) (fun _ => False) rfl rfl ?aP (fun _ hk => hk.elim) ?aF ?aO ?aB ?aS ?aL ?_; (case aP => exact rfl); (case aB => exact (by repeat (first | (with_reducible first | exact HB.out | apply below_alloc | apply pw_below_drewN | apply below_drew1 | refine below_set ?_ GE399.out) | exact HB.out))); (case aF => exact (fun _ _ => trivial)); (case aO => exact (by (with_reducible repeat (first | apply Kd.R_alloc | apply Kd.R_drewN | apply Kd.R_drew)); exact HO_4.out)); (case aS => exact (below_size (by repeat (first | (with_reducible first | exact HB.out | apply below_alloc | apply pw_below_drewN | apply below_drew1 | refine below_set ?_ GE399.out) | exact HB.out)))); (case aL => have := LMc21.out; omega); intro v410 w24 ho hb hg hat; rw [← Ny409.out] at ho; have n0_ := Aside0.mk (blk_grown (g := gb399) (o := .cells #[.int .i64 a0_0, .slice (some ad405) l0_1.length c0_1] 27 (0, 0)) (by (with_reducible repeat (first | refine blk_drewN ?_ _ | refine blk_drew ?_ | refine blk_alloc ?_ _)); exact BK399.out) hg (Kd.R_ne HO_4.out BK399.out (by decide))); have n1_ := Aside0.mk (hb); have n2_ := Aside0.mk (ho); clear BK399; clear HB; clear HO_4; have BK399 := n0_; have HB := n1_; have HO411 := n2_; clear n0_ n1_ n2_; clear ho hb hg hat))
                                go_roundg k2
                                case measure => have := HK1.out; have := HK2.out; omega
                                case rel => exact ⟨(y409), (wrap64 (x22_2 + 1)), (by first | rfl | (simp; done) | (simp [*]; done)), H', ⟨by have := HK1.out; have := HK2.out; omega⟩, ⟨by (with_reducible repeat (first | apply Kd.R_alloc | apply Kd.R_drewN | apply Kd.R_drew)); exact HO411.out⟩, ⟨by (with_reducible repeat (first | refine blk_drewN ?_ _ | refine blk_drew ?_ | refine blk_alloc ?_ _)); exact BK399.out⟩, ⟨by repeat (first | (with_reducible first | exact HB.out | apply below_alloc | apply pw_below_drewN | apply below_drew1 | refine below_set ?_ GE399.out) | exact HB.out)⟩⟩
                              · rw [if_neg c21] at H
                                exact absurd H (by simp)
                            · rw [if_neg c20] at H
                              have c20b0 : decide (t408 < (rd (rd_L1 l0_1 x16_1) x22_2)) = false := decide_eq_false c20
                              clear c20
                              have H' := Aside0.mk H
                              clear H
                              have p406 : 0 ≤ (x22_2 : Int) := of_decide_eq_true (by first | (with_reducible assumption) | assumption)
                              have q406 : x22_2 < ((rd_L1 l0_1 x16_1).length : Int) := of_decide_eq_true (by first | (with_reducible assumption) | assumption)
                              obtain ⟨ad406, e406, hx406_0⟩ := Kd.at_int HR405_0.out x22_2 p406 q406
                              cases e406
                              replace hx406_0 := (HB.out.cell (World.block_lt_of_cell? w _ hx406_0)).trans hx406_0
                              replace p406 := eq_true p406
                              replace q406 := eq_true q406
                              obtain ⟨i025, hi025, _, hsz25, _⟩ := info_parts info2
                              obtain ⟨hcut25, hA25, hC25⟩ := print_take_of (P := Try.prog) (Value.int .i64) 0 31 2 .i64 Try.underlying31 hi025 hsz25 (some ad406) c405_0 (rd_L1 l0_1 x16_1) x22_2 (of_decide_eq_true (by first | (with_reducible assumption) | assumption)) (of_decide_eq_true (by first | (with_reducible assumption) | assumption)) HC405_0.out
                              have HR407 := Aside0.mk (Kd.C_of_reads (h1 := fun _ => rfl) (hA25 _ (Kd.reads_of_C HR405_0.out)))
                              have HC407 := Aside0.mk hC25
                              clear hA25 hC25 hi025 hsz25
                              go_wp2_with (first | (go_at_call 46; refine calls_of_args (args' := #[.slice (some ad406) ((rd_L1 l0_1 x16_1).take (x22_2 : Int).toNat).length c405_0]) (by have p_ := of_eq_true p406; have q_ := of_eq_true q406; rw [List.length_take, Nat.min_eq_left (by omega)]) ?_; (with_reducible refine (slices_Min_int64_int64.calls _ _ ((rd_L1 l0_1 x16_1).take (x22_2 : Int).toNat) t408 _ ?side1 ?side2 A19.out).mono ?_); (case side1 => repeat (first | exact (Kd.C_below HR407.out HB.out) | (with_reducible refine Kd.C_alloc ?_ _) | (with_reducible refine Kd.C_drewN ?_ _) | (with_reducible refine Kd.C_drew ?_))); (case side2 => exact HC407.out); rintro e w26 ⟨rfl, hb⟩; have n0_ := Aside0.mk (Kd.R_below (by (with_reducible repeat (first | apply Kd.R_alloc | apply Kd.R_drewN | apply Kd.R_drew)); exact HO_4.out) hb); have n1_ := Aside0.mk (blk_below (g := gb399) (o := .cells #[.int .i64 a0_0, .slice (some ad405) l0_1.length c0_1] 27 (0, 0)) (by (with_reducible repeat (first | refine blk_drewN ?_ _ | refine blk_drew ?_ | refine blk_alloc ?_ _)); exact BK399.out) hb); have n2_ := Aside0.mk (below_step (by repeat (first | (with_reducible first | exact HB.out | apply below_alloc | apply pw_below_drewN | apply below_drew1 | refine below_set ?_ GE399.out) | exact HB.out)) hb); clear HO_4; clear BK399; clear HB; have HO_4 := n0_; have BK399 := n1_; have HB := n2_; clear n0_ n1_ n2_; (try clear hb); (try clear hb2); (try clear hk); (try clear hi)))
                              go_roundg k2
                              case measure => have := HK1.out; have := HK2.out; omega
                              case rel => exact ⟨(x4_2), (wrap64 (x22_2 + 1)), (by first | rfl | (simp; done) | (simp [*]; done)), H', ⟨by have := HK1.out; have := HK2.out; omega⟩, ⟨by (with_reducible repeat (first | apply Kd.R_alloc | apply Kd.R_drewN | apply Kd.R_drew)); exact HO_4.out⟩, ⟨by (with_reducible repeat (first | refine blk_drewN ?_ _ | refine blk_drew ?_ | refine blk_alloc ?_ _)); exact BK399.out⟩, ⟨by repeat (first | (with_reducible first | exact HB.out | apply below_alloc | apply pw_below_drewN | apply below_drew1 | refine below_set ?_ GE399.out) | exact HB.out)⟩⟩
                          · rw [if_neg c18] at H
                            exact absurd H (by simp)
                        · rw [if_neg c16] at H
                          have c16b0 : decide (0 < x22_2) = false := decide_eq_false c16
                          clear c16
                          have H' := Aside0.mk H
                          clear H
                          have p406 : 0 ≤ (x22_2 : Int) := of_decide_eq_true (by first | (with_reducible assumption) | assumption)
                          have q406 : x22_2 < ((rd_L1 l0_1 x16_1).length : Int) := of_decide_eq_true (by first | (with_reducible assumption) | assumption)
                          obtain ⟨ad406, e406, hx406_0⟩ := Kd.at_int HR405_0.out x22_2 p406 q406
                          cases e406
                          replace hx406_0 := (HB.out.cell (World.block_lt_of_cell? w _ hx406_0)).trans hx406_0
                          replace p406 := eq_true p406
                          replace q406 := eq_true q406
                          go_wp2
                          go_roundg k2
                          case measure => have := HK1.out; have := HK2.out; omega
                          case rel => exact ⟨(x4_2), (wrap64 (x22_2 + 1)), (by first | rfl | (simp; done) | (simp [*]; done)), H', ⟨by have := HK1.out; have := HK2.out; omega⟩, ⟨by (with_reducible repeat (first | apply Kd.R_alloc | apply Kd.R_drewN | apply Kd.R_drew)); exact HO_4.out⟩, ⟨by (with_reducible repeat (first | refine blk_drewN ?_ _ | refine blk_drew ?_ | refine blk_alloc ?_ _)); exact BK399.out⟩, ⟨by repeat (first | (with_reducible first | exact HB.out | apply below_alloc | apply pw_below_drewN | apply below_drew1 | refine below_set ?_ GE399.out) | exact HB.out)⟩⟩
                      · rw [if_neg c15] at H
                        exact absurd H (by simp)
                    · rw [if_neg c14] at H
                      exact absurd H (by simp)
                  · rw [if_neg c13] at H
                    have c13b0 : decide (x22_2 < ((rd_L1 l0_1 x16_1).length : Int)) = false := decide_eq_false c13
                    clear c13
                    have H' := Aside0.mk H
                    clear H
                    go_wp2
                    go_roundg k2
                    case measure => have := HK1.out; have := HK2.out; omega
                    case rel => exact ⟨(x4_2), (wrap64 (x16_1 + 1)), (by first | rfl | (simp; done) | (simp [*]; done)), H', ⟨by have := HK1.out; have := HK2.out; omega⟩, ⟨by (with_reducible repeat (first | apply Kd.R_alloc | apply Kd.R_drewN | apply Kd.R_drew)); exact HO_4.out⟩, ⟨by (with_reducible repeat (first | refine blk_drewN ?_ _ | refine blk_drew ?_ | refine blk_alloc ?_ _)); exact BK399.out⟩, ⟨by repeat (first | (with_reducible first | exact HB.out | apply below_alloc | apply pw_below_drewN | apply below_drew1 | refine below_set ?_ GE399.out) | exact HB.out)⟩⟩
            · rw [if_neg c12] at H
              exact absurd H (by simp)
          · rw [if_neg c11] at H
            exact absurd H (by simp)
        · rw [if_neg c10] at H
          have c10b0 : decide (x16_1 < (l0_1.length : Int)) = false := decide_eq_false c10
          clear c10
          replace H := Option.bind_eq_some_iff.mp H
          obtain ⟨t404, A270, H⟩ := H
          replace H : (some (t404, true)) = some (r1, r2) := H
          have A27 := Aside0.mk A270
          clear A270
          simp only [Option.some.injEq, Prod.mk.injEq] at H
          obtain ⟨rfl, rfl⟩ := H
          obtain ⟨Ao28, co28, eo28⟩ := Kd.R_slice HO_4.out
          subst eo28
          go_wp2_with (first | ((with_reducible refine gate_callee (f := 47) rfl ?_); refine goesL_ (some 44) rfl rfl Try.func47 (by kernel_rfl) rfl #[.slice Ao28 x4_1.length co28] rfl (by (try simp only [List.map_toArray, List.map_cons, List.map_nil]); first | done | rfl | (simp only [List.length_drop, List.length_take]; rfl)) ?_; (with_reducible refine (slices_Sort_int64_int64.calls (fun k_ => some k_ = (.slice Ao28 x4_1.length co28 : Value).ownBlock) (.slice Ao28 x4_1.length co28) x4_1 t404 w _ ?side1 ?side2 A27.out).mono ?_); (case side1 => repeat (first | (with_reducible first | exact HB.out | apply below_alloc | apply pw_below_drewN | apply below_drew1 | refine below_set ?_ GE399.out) | exact HB.out)); (case side2 => exact Kd.R_tight rfl HO_4.out); rintro e w29 ⟨rfl, hy0, hb, hkp⟩; refine ⟨_, rfl, ?_⟩; have n0_ := Aside0.mk (Kd.R_reok rfl hy0 (fun k_ e_ => HO_4.out.1 k_ e_)); have n1_ := Aside0.mk (blk_kept (by (with_reducible repeat (first | refine blk_drewN ?_ _ | refine blk_drew ?_ | refine blk_alloc ?_ _)); exact BK399.out) hkp (fun hs_ => (fun e_ => (Kd.R_ne HO_4.out BK399.out (by decide)) e_) hs_)); have n2_ := Aside0.mk (hb); clear HO_4; clear BK399; clear HB; have HO_4 := n0_; have BK399 := n1_; have HB := n2_; clear n0_ n1_ n2_; (try clear hb); (try clear hkp); (try clear hy0)))
          go_ret2
          exact ⟨_, by first | rfl | (simp [errW_none, errW_some] <;> rfl) | (simp [*, errW_none, errW_some] <;> rfl), by (with_reducible repeat (first | apply Kd.R_alloc | apply Kd.R_drewN | apply Kd.R_drew)); exact HO_4.out, by repeat (first | (with_reducible first | exact HB.out | apply below_alloc | apply pw_below_drewN | apply below_drew1 | refine below_set ?_ GE399.out) | exact HB.out)⟩
  · replace c3 := Bool.eq_false_iff.mpr c3
    subst c3
    have H1 : (some (([] : List Int), false)) = some (r1, r2) := by rw [if_neg (show ¬ (false = true) by decide)] at H; exact H
    clear H
    have H := H1
    clear H1
    simp only [Option.some.injEq, Prod.mk.injEq] at H
    obtain ⟨rfl, rfl⟩ := H
    go_enter Try.func23, Try.ntmps23
    go_wp2_with (first | ((with_reducible refine gate_dst (N := 1) rfl ?_); refine box_event ?hg (N := 1) ?hd (cs := #[.int .i64 a0_0, .slice A0_1 l0_1.length c0_1]) (t := 27) ?hr ?_; (case hd => rfl); (case hg => rfl); (case hr => first | (go_simp; done) | (go_simp; rfl)); intro gb399 hg w30 hbox hb; have n0_ := Aside0.mk (below_step (by repeat (first | (with_reducible first | exact HB.out | apply below_alloc | apply pw_below_drewN | apply below_drew1) | exact HB.out)) hb); have n1_ := Aside0.mk (hbox); have n2_ := Aside0.mk ((by rw [hg]; exact (below_size (by repeat (first | (with_reducible first | exact HB.out | apply below_alloc | apply pw_below_drewN | apply below_drew1) | exact HB.out))) : w.heap.size ≤ gb399)); have n3_ := Aside0.mk ((by rw [hg]; exact (below_size (by repeat (first | (with_reducible first | exact HB.out | apply below_alloc | apply pw_below_drewN | apply below_drew1) | exact HB.out))) : w.heap.size ≤ gb399)); clear HB; have HB := n0_; have BK399 := n1_; have GW399 := n2_; have GE399 := n3_; clear n0_ n1_ n2_ n3_; clear hb hbox hg; have hcz31_0 : w30.cell? ⟨gb399, 0, none⟩ = some (.int .i64 a0_0) := (blk_cell BK399.out 0).trans rfl; have hcz31_1 : w30.cell? ⟨gb399, 1, none⟩ = some (.slice A0_1 l0_1.length c0_1) := (blk_cell BK399.out 1).trans rfl; have hfz31_0 := blk_frozen BK399.out 0; have hfz31_1 := blk_frozen BK399.out 1) | ((with_reducible refine gate_callee (f := 13) rfl ?_); refine goesL_ (some 10) rfl rfl Try.func13 (by kernel_rfl) rfl #[.agg #[.int .i64 a0_0, .slice A0_1 l0_1.length c0_1]] rfl (by (try simp only [List.map_toArray, List.map_cons, List.map_nil]); first | done | rfl | (simp only [List.length_drop, List.length_take]; rfl)) ?_; (with_reducible refine (impl_ValidYard.calls a0_0 _ _ l0_1 false _ ?side1 ?side2 A2.out).mono ?_); (case side1 => repeat (first | exact (Kd.C_below HR0_1.out HB.out) | (with_reducible refine Kd.C_alloc ?_ _) | (with_reducible refine Kd.C_drewN ?_ _) | (with_reducible refine Kd.C_drew ?_))); (case side2 => exact HC0_1.out); rintro e w32 ⟨rfl, hb⟩; refine ⟨_, rfl, ?_⟩; have n0_ := Aside0.mk (blk_below (g := gb399) (o := .cells #[.int .i64 a0_0, .slice A0_1 l0_1.length c0_1] 27 (0, 0)) (by (with_reducible repeat (first | refine blk_drewN ?_ _ | refine blk_drew ?_ | refine blk_alloc ?_ _)); exact BK399.out) hb); have n1_ := Aside0.mk (below_step (by repeat (first | (with_reducible first | exact HB.out | apply below_alloc | apply pw_below_drewN | apply below_drew1 | refine below_set ?_ GE399.out) | exact HB.out)) hb); clear BK399; clear HB; have BK399 := n0_; have HB := n1_; clear n0_ n1_; (try clear hb); (try clear hb2); (try clear hk); (try clear hi)))
    go_ret2
    exact ⟨_, by first | rfl | (simp [errW_none, errW_some] <;> rfl) | (simp [*, errW_none, errW_some] <;> rfl), by first | exact Kd.R_nil _ _ _ _ _ | exact Kd.N_nil _ _ _ _ _ | exact Kd.V_nil _ _ _ _ _ | exact Kd.Q_nil _ _ _ _ _ | exact Kd.S_nil _ _ _ _ _, by repeat (first | (with_reducible first | exact HB.out | apply below_alloc | apply pw_below_drewN | apply below_drew1 | refine below_set ?_ GE399.out) | exact HB.out)⟩

end Go.Proofs.Ytibaiaenfeppcaa.Q

-- mended

/- Plain: the topmost lots and the blockers of a yard, by both sides. -/
namespace Go.Proofs.Ytibaiaenfeppcaa.PuTO
open Go.RowKit Go.Proofs.YtibaiaenfeppcaaW.PrintWords Go.Proofs.Ytibaiaenfeppcaa.Q Go.Proofs.Ytibaiaenfeppcaa.PuY
def topOf (s : List Int) : Int := if s.length = 0 then -1 else rd s ((s.length : Int) - 1)
theorem implTops_loop (xs : List (List Int)) (hl : xs.length ≤ 4) (hr : ∀ r ∈ xs, r.length ≤ 4) : ∀ (d k i : Nat) (acc : List Int), i + d = xs.length → d < k → acc.length ≤ i →
    impl_TopsOf.l0 k acc xs (xs.length : Int) (i : Int) = some (acc ++ (xs.drop i).map topOf, true) := by
  intro d
  induction d with
  | zero =>
    intro k i acc hi hk ha
    obtain ⟨k, rfl⟩ : ∃ m, k = m + 1 := ⟨k - 1, by omega⟩
    simp only [impl_TopsOf.l0]
    rw [if_neg (by omega), List.drop_eq_nil_of_le (by omega)]; simp
  | succ d ih =>
    intro k i acc hi hk ha
    obtain ⟨k, rfl⟩ : ∃ m, k = m + 1 := ⟨k - 1, by omega⟩
    have hlt : i < xs.length := by omega
    have hx := hr xs[i] (List.getElem_mem hlt)
    simp only [impl_TopsOf.l0]
    rw [if_pos (by omega), if_pos (by omega), if_pos (by omega), rdL_at xs i hlt, List.drop_eq_getElem_cons hlt, wrap_succ i (by omega), wrap_id (x := (xs[i].length : Int) - 1) (by omega) (by omega)]
    by_cases h0 : xs[i].length = 0
    · rw [if_pos (by omega), if_pos (by omega), ih k (i + 1) _ (by omega) (by omega) (by simp; omega)]
      rw [List.map_cons, show topOf xs[i] = -1 from if_pos h0, List.append_assoc]; rfl
    · rw [if_neg (by omega), if_pos (by omega), if_pos (by omega), if_pos (by omega), ih k (i + 1) _ (by omega) (by omega) (by simp; omega)]
      rw [List.map_cons, show topOf xs[i] = rd xs[i] ((xs[i].length : Int) - 1) from if_neg h0, List.append_assoc]; rfl
theorem specTops_loop (h : Int) (xs : List (List Int)) (hl : xs.length ≤ 4) (hr : ∀ r ∈ xs, r.length ≤ 4) : ∀ (d k i : Nat) (acc : List Int), i + d = xs.length → d < k → acc.length ≤ i →
    spec_TopsOf.l0 k acc (i : Int) h xs = some (acc ++ (xs.drop i).map topOf, true) := by
  intro d
  induction d with
  | zero =>
    intro k i acc hi hk ha
    obtain ⟨k, rfl⟩ : ∃ m, k = m + 1 := ⟨k - 1, by omega⟩
    simp only [spec_TopsOf.l0]
    rw [if_neg (by omega), List.drop_eq_nil_of_le (by omega)]; simp
  | succ d ih =>
    intro k i acc hi hk ha
    obtain ⟨k, rfl⟩ : ∃ m, k = m + 1 := ⟨k - 1, by omega⟩
    have hlt : i < xs.length := by omega
    have hx := hr xs[i] (List.getElem_mem hlt)
    simp only [spec_TopsOf.l0]
    rw [if_pos (by omega), if_pos (by omega), rdL_at xs i hlt, List.drop_eq_getElem_cons hlt, wrap_succ i (by omega), wrap_id (x := (xs[i].length : Int) - 1) (by omega) (by omega)]
    by_cases h0 : xs[i].length = 0
    · rw [if_neg (by omega), if_pos (by omega), ih k (i + 1) _ (by omega) (by omega) (by simp; omega)]
      rw [List.map_cons, show topOf xs[i] = -1 from if_pos h0, List.append_assoc]; rfl
    · rw [if_pos (by omega), if_pos (by omega), if_pos (by omega), if_pos (by omega), ih k (i + 1) _ (by omega) (by omega) (by simp; omega)]
      rw [List.map_cons, show topOf xs[i] = rd xs[i] ((xs[i].length : Int) - 1) from if_neg h0, List.append_assoc]; rfl
/-- What a valid yard is. -/
theorem valid_parts {h : Int} {xs : List (List Int)} (hv : Yv.valid h xs = true) : 1 ≤ h ∧ h ≤ 4 ∧ 1 ≤ xs.length ∧ xs.length ≤ 4 ∧ (∀ r ∈ xs, (r.length : Int) ≤ h) ∧ xs.flatten.Nodup ∧ xs.flatten.length ≤ 7 ∧ (∀ x ∈ xs.flatten, 0 ≤ x ∧ x ≤ 99) := by
  unfold Yv.valid Ha.inB Ha.areIn at hv
  simp only [Bool.and_eq_true, decide_eq_true_eq, List.all_eq_true] at hv
  obtain ⟨⟨a1, a2⟩, ⟨b1, b2⟩, c, d, e, f⟩ := hv
  refine ⟨a1, a2, by omega, by omega, c, d, by omega, fun x hx => ?_⟩
  have := f x hx
  unfold Ha.inB at this
  simpa using this
def topsR (h : Int) (xs : List (List Int)) : List Int := if Yv.valid h xs = true then xs.map topOf else []
theorem implTops (h : Int) (xs : List (List Int)) (k : Nat) (hk : 10 < k) : impl_TopsOf.f k h xs = some (topsR h xs, Yv.valid h xs) := by
  simp only [impl_TopsOf.f, impl_ValidYard.f, Option.bind_some, topsR]
  by_cases hv : Yv.valid h xs = true
  · obtain ⟨_, h2, _, h4, h5, _⟩ := valid_parts hv
    have := implTops_loop xs h4 (fun r hr => by have := h5 r hr; omega) xs.length k 0 [] (by omega) (by omega) (by simp)
    rw [if_pos hv, if_pos hv, hv]
    simpa using this
  · rw [if_neg hv, if_neg hv]; simp at hv; rw [hv]
theorem specTops (h : Int) (xs : List (List Int)) (hl : xs.length ≤ 1048576) (k : Nat) (hk : 300000 ≤ k) : spec_TopsOf.f k h xs = some (topsR h xs, Yv.valid h xs) := by
  simp only [spec_TopsOf.f, specYard_eq h xs hl k hk, Option.bind_some, topsR]
  by_cases hv : Yv.valid h xs = true
  · obtain ⟨_, h2, _, h4, h5, _⟩ := valid_parts hv
    have := specTops_loop h xs h4 (fun r hr => by have := h5 r hr; omega) xs.length k 0 [] (by omega) (by omega) (by simp)
    rw [if_pos hv, if_pos hv, hv]
    simpa using this
  · rw [if_neg hv, if_neg hv]; simp at hv; rw [hv]
theorem topsR_len (h : Int) (xs : List (List Int)) : (topsR h xs).length ≤ 1048576 := by
  unfold topsR
  by_cases hv : Yv.valid h xs = true
  · obtain ⟨_, h2, _, h4, h5, _⟩ := valid_parts hv
    rw [if_pos hv, List.length_map]; omega
  · rw [if_neg hv]; simp
/-! blockers -/
/-- The lots of a stack that lie above lesser ones; pre: those below. -/
def blk (pre : List Int) : List Int → List Int
  | [] => []
  | x :: t => (if pre.any (fun y => decide (y < x)) then [x] else []) ++ blk (pre ++ [x]) t
theorem blk_sub (l : List Int) : ∀ pre, (blk pre l).Sublist l := by
  induction l with
  | nil => intro pre; exact List.Sublist.refl _
  | cons x t ih =>
    intro pre
    unfold blk
    split
    · exact (ih _).cons_cons x
    · exact (ih _).cons x
def blkAll (xs : List (List Int)) : List Int := (xs.map (blk [])).flatten
theorem blkAll_cons (r : List Int) (rest : List (List Int)) : blkAll (r :: rest) = blk [] r ++ blkAll rest := rfl
theorem blkAll_sub (xs : List (List Int)) : (blkAll xs).Sublist xs.flatten := by
  induction xs with
  | nil => exact List.Sublist.refl _
  | cons r rest ih => rw [blkAll_cons, List.flatten_cons]; exact (blk_sub r []).append ih
/-- A number to its place among rising ones, once. -/
def put : List Int → Int → List Int
  | [], x => [x]
  | y :: t, x => if y < x then y :: put t x else if x < y then x :: y :: t else y :: t
theorem put_len (l : List Int) (x : Int) : (put l x).length ≤ l.length + 1 := by
  induction l with
  | nil => simp [put]
  | cons y t ih =>
    simp only [put]
    split
    · simp; omega
    · split <;> simp
theorem put_done (l : List Int) (x : Int) (hl : l.length ≤ 1000000) : ∀ (d k i : Nat) (acc : List Int), i + d = l.length → 2 * d < k → acc.length ≤ i + 1 → spec_l00Put.l0 k l x acc true (i : Int) = some (acc ++ l.drop i) := by
  intro d
  induction d with
  | zero =>
    intro k i acc hi hk ha
    obtain ⟨k, rfl⟩ : ∃ m, k = m + 1 := ⟨k - 1, by omega⟩
    simp only [spec_l00Put.l0]
    rw [if_neg (by omega), if_pos trivial, List.drop_eq_nil_of_le (by omega)]; simp
  | succ d ih =>
    intro k i acc hi hk ha
    obtain ⟨k, rfl⟩ : ∃ m, k = m + 2 := ⟨k - 2, by omega⟩
    have hlt : i < l.length := by omega
    simp only [spec_l00Put.l0, spec_l00Put.j1]
    rw [if_pos (by omega), if_pos trivial]
    rw [if_neg (by decide), if_pos (by omega), if_pos (by omega), if_pos (by omega), wrap_succ i (by omega), rd_at l i hlt, ih k (i + 1) _ (by omega) (by omega) (by simp; omega), List.drop_eq_getElem_cons hlt]
    simp
theorem put_loop (l : List Int) (x : Int) (hl : l.length ≤ 1000000) : ∀ (d k i : Nat) (acc : List Int), i + d = l.length → 2 * d < k → acc.length ≤ i → spec_l00Put.l0 k l x acc false (i : Int) = some (acc ++ put (l.drop i) x) := by
  intro d
  induction d with
  | zero =>
    intro k i acc hi hk ha
    obtain ⟨k, rfl⟩ : ∃ m, k = m + 1 := ⟨k - 1, by omega⟩
    simp only [spec_l00Put.l0]
    rw [if_neg (by omega), if_neg (by decide), if_pos (by omega), List.drop_eq_nil_of_le (by omega)]; simp [put]
  | succ d ih =>
    intro k i acc hi hk ha
    obtain ⟨k, rfl⟩ : ∃ m, k = m + 2 := ⟨k - 2, by omega⟩
    have hlt : i < l.length := by omega
    simp only [spec_l00Put.l0, spec_l00Put.j1, rd_at l i hlt]
    rw [if_pos (by omega), if_neg (by decide), if_pos (by omega), List.drop_eq_getElem_cons hlt, wrap_succ i (by omega)]
    generalize l[i] = y
    simp only [put]
    by_cases h1 : y < x
    · rw [if_pos h1, if_neg (by simpa using h1), if_pos (by omega), if_pos (by omega), if_pos (by omega), ih k (i + 1) _ (by omega) (by omega) (by simp; omega)]
      simp
    · rw [if_neg h1, if_pos (by simpa using h1), if_pos (by omega), if_pos (by omega)]
      by_cases h2 : x < y
      · rw [if_pos h2, if_pos h2, if_pos (by omega)]
        simp only [Option.bind_some]
        rw [if_pos (by simp; omega), put_done l x hl d k (i + 1) _ (by omega) (by omega) (by simp; omega)]
        simp
      · rw [if_neg h2, if_neg h2, if_pos (by omega), put_done l x hl d k (i + 1) _ (by omega) (by omega) (by simp; omega)]
        simp
theorem put_eq (l : List Int) (x : Int) (hl : l.length ≤ 1000000) (k : Nat) (hk : 3000000 ≤ k) : spec_l00Put.f k l x = some (put l x) := by
  have := put_loop l x hl l.length k 0 [] (by omega) (by omega) (by simp)
  simpa [spec_l00Put.f] using this
theorem put_perm (l : List Int) (x : Int) (hx : x ∉ l) : (put l x).Perm (x :: l) := by
  induction l with
  | nil => exact List.Perm.refl _
  | cons y t ih =>
    simp only [put]
    rw [List.mem_cons] at hx
    by_cases h1 : y < x
    · rw [if_pos h1]
      exact ((ih (fun h => hx (.inr h))).cons y).trans (List.Perm.swap x y t)
    · rw [if_neg h1, if_pos (by have : x ≠ y := fun h => hx (.inl h); omega)]
theorem put_sorted (l : List Int) (x : Int) (hs : l.Pairwise (fun a b => a ≤ b)) : (put l x).Pairwise (fun a b => a ≤ b) := by
  induction l with
  | nil => simp [put]
  | cons y t ih =>
    rw [List.pairwise_cons] at hs
    simp only [put]
    by_cases h1 : y < x
    · rw [if_pos h1, List.pairwise_cons]
      refine ⟨fun z hz => ?_, ih hs.2⟩
      have : ∀ (t : List Int), z ∈ put t x → z = x ∨ z ∈ t := by
        intro t
        induction t with
        | nil => intro h; simp [put] at h; exact .inl h
        | cons u t iht =>
          intro h
          simp only [put] at h
          split at h
          · rcases List.mem_cons.1 h with h | h
            · exact .inr (by simp [h])
            · rcases iht h with h | h
              · exact .inl h
              · exact .inr (by simp [h])
          · split at h
            · rcases List.mem_cons.1 h with h | h
              · exact .inl h
              · exact .inr h
            · exact .inr h
      rcases this t hz with h | h
      · omega
      · exact hs.1 z h
    · rw [if_neg h1]
      by_cases h2 : x < y
      · rw [if_pos h2, List.pairwise_cons]
        refine ⟨fun z hz => ?_, List.pairwise_cons.2 hs⟩
        rcases List.mem_cons.1 hz with rfl | h
        · omega
        · have := hs.1 z h; omega
      · rw [if_neg h2]; exact List.pairwise_cons.2 hs
theorem sorted_unique : ∀ (l m : List Int), l.Perm m → l.Pairwise (fun a b => a ≤ b) → m.Pairwise (fun a b => a ≤ b) → l = m := by
  intro l
  induction l with
  | nil => intro m hp _ _; exact (List.Perm.nil_eq hp)
  | cons a l ih =>
    intro m hp hl hm
    cases m with
    | nil => exact absurd hp.length_eq (by simp)
    | cons b m =>
      rw [List.pairwise_cons] at hl hm
      have h1 : a ≤ b := by
        have : b ∈ a :: l := hp.symm.mem_iff.1 (by simp)
        rcases List.mem_cons.1 this with rfl | h
        · omega
        · exact hl.1 b h
      have h2 : b ≤ a := by
        have : a ∈ b :: m := hp.mem_iff.1 (by simp)
        rcases List.mem_cons.1 this with rfl | h
        · omega
        · exact hm.1 a h
      obtain rfl : a = b := by omega
      rw [ih m (List.Perm.cons_inv hp) hl.2 hm.2]
theorem puts_perm (l : List Int) : ∀ (acc : List Int), (acc ++ l).Nodup → acc.Pairwise (fun a b => a ≤ b) → (l.foldl put acc).Perm (acc ++ l) ∧ (l.foldl put acc).Pairwise (fun a b => a ≤ b) := by
  induction l with
  | nil => intro acc _ hs; simp [hs]
  | cons x t ih =>
    intro acc hn hs
    have hx : x ∉ acc := by
      intro h
      rw [List.nodup_append] at hn
      exact hn.2.2 x h x (by simp) rfl
    have hp := put_perm acc x hx
    have hp2 : (put acc x ++ t).Perm (acc ++ x :: t) := (hp.append_right t).trans (by rw [List.cons_append]; exact List.perm_middle.symm)
    obtain ⟨h1, h2⟩ := ih (put acc x) (hp2.nodup_iff.2 hn) (put_sorted acc x hs)
    exact ⟨h1.trans hp2, h2⟩
theorem puts_eq (l : List Int) (hn : l.Nodup) : l.foldl put [] = Sv.srt l := by
  obtain ⟨h1, h2⟩ := puts_perm l [] (by simpa using hn) List.Pairwise.nil
  exact sorted_unique _ _ (h1.trans (by simpa using (Yv.srt_perm l).symm)) h2 (Yv.srt_sorted l)
theorem min_eq' (a b : Int) : spec_l00Min.f a b = some (min a b) := by
  unfold spec_l00Min.f
  by_cases h : a < b
  · rw [if_pos h]; congr 1; omega
  · rw [if_neg h]; congr 1; omega
def least (pre : List Int) : Int := pre.foldl min 100
theorem least_any (pre : List Int) (x : Int) (hx : x ≤ 99) : decide (least pre < x) = pre.any (fun y => decide (y < x)) := by
  have key : ∀ (pre : List Int) (m : Int), (pre.foldl min m < x) ↔ (m < x ∨ ∃ y ∈ pre, y < x) := by
    intro pre
    induction pre with
    | nil => intro m; simp
    | cons y t ih =>
      intro m
      rw [List.foldl_cons, ih]
      constructor
      · rintro (h | ⟨z, hz, h⟩)
        · by_cases hm : m < x
          · exact .inl hm
          · exact .inr ⟨y, by simp, by omega⟩
        · exact .inr ⟨z, by simp [hz], h⟩
      · rintro (h | ⟨z, hz, h⟩)
        · exact .inl (by omega)
        · rcases List.mem_cons.1 hz with rfl | hz
          · exact .inl (by omega)
          · exact .inr ⟨z, hz, h⟩
  rw [Bool.eq_iff_iff, decide_eq_true_eq, List.any_eq_true]
  unfold least
  rw [key]
  simp only [decide_eq_true_eq]
  constructor
  · rintro (h | h)
    · omega
    · exact h
  · exact .inr
theorem specRow_loop (h : Int) (xs : List (List Int)) (i : Nat) (hi : i < xs.length) (K0 : Nat) (hK : 4000000 ≤ K0) (hx99 : ∀ x ∈ xs[i], x ≤ 99) (hrl : xs[i].length ≤ 4) (hxl : xs.length ≤ 4) (res : List Int)
    (acc0 : List Int) (hnext : ∀ k, K0 ≤ k → spec_l09Blockers.l0 k ((blk [] xs[i]).foldl put acc0) ((i + 1 : Nat) : Int) h xs = some (res, h)) :
    ∀ (d k j : Nat) (acc : List Int), j + d = xs[i].length → K0 + d + 1 ≤ k → acc.length + d ≤ 100000 → (blk (xs[i].take j) (xs[i].drop j)).foldl put acc = (blk [] xs[i]).foldl put acc0 →
      spec_l09Blockers.l1 k acc (i : Int) (least (xs[i].take j)) (j : Int) h xs = some (res, h) := by
  intro d
  induction d with
  | zero =>
    intro k j acc hj hk ha he
    obtain ⟨k, rfl⟩ : ∃ m, k = m + 1 := ⟨k - 1, by omega⟩
    simp only [spec_l09Blockers.l1]
    rw [if_pos (by omega), if_pos (by omega), rdL_at xs i hi, if_neg (by omega), wrap_succ i (by omega)]
    rw [List.drop_eq_nil_of_le (by omega)] at he
    simp only [blk, List.foldl_nil] at he
    rw [he]
    exact hnext k (by omega)
  | succ d ih =>
    intro k j acc hj hk ha he
    obtain ⟨k, rfl⟩ : ∃ m, k = m + 1 := ⟨k - 1, by omega⟩
    have hlt : j < xs[i].length := by omega
    have htk : xs[i].take (j + 1) = xs[i].take j ++ [xs[i][j]] := List.take_succ_eq_append_getElem hlt
    have hle : least (xs[i].take (j + 1)) = min (least (xs[i].take j)) xs[i][j] := by rw [htk]; unfold least; rw [List.foldl_append]; rfl
    have hla := least_any (xs[i].take j) xs[i][j] (hx99 _ (List.getElem_mem hlt))
    rw [List.drop_eq_getElem_cons hlt] at he
    simp only [blk] at he
    rw [← htk, ← hla] at he
    simp only [spec_l09Blockers.l1]
    rw [if_pos (by omega), if_pos (by omega), rdL_at xs i hi, if_pos (by omega), if_pos (by omega), rd_at _ j hlt, wrap_succ j (by omega)]
    by_cases hc : least (xs[i].take j) < xs[i][j]
    · rw [if_pos hc, put_eq acc _ (by omega) k (by omega)]
      simp only [Option.bind_some, min_eq']
      rw [← hle]
      rw [if_pos (by simpa using hc), List.foldl_append] at he
      exact ih k (j + 1) _ (by omega) (by omega) (by have := put_len acc xs[i][j]; omega) he
    · rw [if_neg hc]
      simp only [Option.bind_some, min_eq']
      rw [← hle]
      rw [if_neg (by simpa using hc)] at he
      exact ih k (j + 1) _ (by omega) (by omega) (by omega) he
theorem specBlk_loop (h : Int) (xs : List (List Int)) (hxl : xs.length ≤ 4) (hr : ∀ r ∈ xs, r.length ≤ 4) (hx99 : ∀ r ∈ xs, ∀ x ∈ r, x ≤ 99) : ∀ (d i k : Nat) (acc : List Int), i + d = xs.length → 4000000 + 10 * d < k → acc.length ≤ 4 * i →
    spec_l09Blockers.l0 k acc (i : Int) h xs = some ((blkAll (xs.drop i)).foldl put acc, h) := by
  intro d
  induction d with
  | zero =>
    intro i k acc hi hk ha
    obtain ⟨k, rfl⟩ : ∃ m, k = m + 1 := ⟨k - 1, by omega⟩
    simp only [spec_l09Blockers.l0]
    rw [if_neg (by omega), List.drop_eq_nil_of_le (by omega)]; rfl
  | succ d ih =>
    intro i k acc hi hk ha
    obtain ⟨k, rfl⟩ : ∃ m, k = m + 1 := ⟨k - 1, by omega⟩
    have hlt : i < xs.length := by omega
    have hrl := hr _ (List.getElem_mem hlt)
    simp only [spec_l09Blockers.l0]
    rw [if_pos (by omega), List.drop_eq_getElem_cons hlt, blkAll_cons, List.foldl_append]
    have hlen : ∀ (l acc : List Int), (l.foldl put acc).length ≤ acc.length + l.length := by
      intro l
      induction l with
      | nil => intro acc; simp
      | cons x t iht => intro acc; rw [List.foldl_cons, List.length_cons]; have := iht (put acc x); have := put_len acc x; omega
    refine specRow_loop h xs i hlt (4000000 + 10 * d + 1) (by omega) (hx99 _ (List.getElem_mem hlt)) hrl hxl _ acc (fun k hk => ?_) xs[i].length k 0 acc (by omega) (by omega) (by omega) (by simp)
    refine ih (i + 1) k _ (by omega) (by omega) ?_
    have h1 := hlen (blk [] xs[i]) acc
    have h2 := (blk_sub xs[i] []).length_le
    omega
theorem minOf_any (pre : List Int) (x : Int) (hp : 0 < pre.length) : decide (Yv.minOf pre < x) = pre.any (fun y => decide (y < x)) := by
  cases pre with
  | nil => simp at hp
  | cons a t =>
    have key : ∀ (t : List Int) (m : Int), (t.foldl (fun m y => if y < m then y else m) m < x) ↔ (m < x ∨ ∃ y ∈ t, y < x) := by
      intro t
      induction t with
      | nil => intro m; simp
      | cons y t ih =>
        intro m
        rw [List.foldl_cons, ih]
        constructor
        · rintro (h | ⟨z, hz, h⟩)
          · by_cases hm : m < x
            · exact .inl hm
            · split at h
              · exact .inr ⟨y, by simp, h⟩
              · exact absurd h hm
          · exact .inr ⟨z, by simp [hz], h⟩
        · rintro (h | ⟨z, hz, h⟩)
          · refine .inl ?_
            split <;> omega
          · rcases List.mem_cons.1 hz with rfl | hz
            · refine .inl ?_
              split <;> omega
            · exact .inr ⟨z, hz, h⟩
    rw [Bool.eq_iff_iff, decide_eq_true_eq, List.any_eq_true]
    simp only [Yv.minOf, key, decide_eq_true_eq, List.mem_cons]
    constructor
    · rintro (h | ⟨y, hy, h⟩)
      · exact ⟨a, .inl rfl, h⟩
      · exact ⟨y, .inr hy, h⟩
    · rintro ⟨y, rfl | hy, h⟩
      · exact .inl h
      · exact .inr ⟨y, hy, h⟩
theorem implRow_loop (xs : List (List Int)) (i : Nat) (s : List Int) (hrl : s.length ≤ 4) (K0 : Nat) (res : List Int × Bool) (acc0 : List Int)
    (hnext : ∀ k, K0 ≤ k → impl_BlockersOf.l0 k (acc0 ++ blk [] s) xs (xs.length : Int) ((i + 1 : Nat) : Int) = some res) (hil : i ≤ 4) :
    ∀ (d k j : Nat) (acc : List Int), j + d = s.length → K0 + d + 1 ≤ k → acc.length + d ≤ 100000 → acc ++ blk (s.take j) (s.drop j) = acc0 ++ blk [] s →
      impl_BlockersOf.l1 k acc s xs (xs.length : Int) (i : Int) s (s.length : Int) (j : Int) = some res := by
  intro d
  induction d with
  | zero =>
    intro k j acc hj hk ha he
    obtain ⟨k, rfl⟩ : ∃ m, k = m + 1 := ⟨k - 1, by omega⟩
    simp only [impl_BlockersOf.l1]
    rw [if_neg (by omega), wrap_succ i (by omega)]
    rw [List.drop_eq_nil_of_le (by omega)] at he
    simp only [blk, List.append_nil] at he
    rw [he]
    exact hnext k (by omega)
  | succ d ih =>
    intro k j acc hj hk ha he
    obtain ⟨k, rfl⟩ : ∃ m, k = m + 1 := ⟨k - 1, by omega⟩
    have hlt : j < s.length := by omega
    have htk : s.take (j + 1) = s.take j ++ [s[j]] := List.take_succ_eq_append_getElem hlt
    rw [List.drop_eq_getElem_cons hlt] at he
    simp only [blk] at he
    rw [← htk] at he
    simp only [impl_BlockersOf.l1]
    rw [if_pos (by omega), if_pos (by omega), if_pos (by omega), wrap_succ j (by omega), rd_at _ j hlt]
    by_cases h0 : j = 0
    · subst h0
      rw [if_neg (by omega)]
      refine ih k 1 acc (by omega) (by omega) (by omega) ?_
      simpa using he
    · have hm := minOf_any (s.take j) s[j] (by rw [List.length_take]; omega)
      rw [← hm] at he
      rw [if_pos (by omega), if_pos (by omega), Int.toNat_natCast]
      simp only [slices_Min_int64_int64.f]
      rw [if_pos (by rw [List.length_take]; omega)]
      simp only [Option.bind_some]
      by_cases hc : Yv.minOf (s.take j) < s[j]
      · rw [if_pos hc, if_pos (by omega)]
        rw [if_pos (by simpa using hc), ← List.append_assoc] at he
        exact ih k (j + 1) _ (by omega) (by omega) (by simp; omega) he
      · rw [if_neg hc]
        rw [if_neg (by simpa using hc), List.nil_append] at he
        exact ih k (j + 1) _ (by omega) (by omega) (by omega) he
theorem implBlk_loop (xs : List (List Int)) (hxl : xs.length ≤ 4) (hr : ∀ r ∈ xs, r.length ≤ 4) : ∀ (d i k : Nat) (acc : List Int), i + d = xs.length → 100 + 10 * d < k → acc.length ≤ 4 * i →
    impl_BlockersOf.l0 k acc xs (xs.length : Int) (i : Int) = some (Sv.srt (acc ++ blkAll (xs.drop i)), true) := by
  intro d
  induction d with
  | zero =>
    intro i k acc hi hk ha
    obtain ⟨k, rfl⟩ : ∃ m, k = m + 1 := ⟨k - 1, by omega⟩
    simp only [impl_BlockersOf.l0, slices_Sort_int64_int64.f]
    rw [if_neg (by omega), if_pos (by omega), List.drop_eq_nil_of_le (by omega)]; simp [blkAll]
  | succ d ih =>
    intro i k acc hi hk ha
    obtain ⟨k, rfl⟩ : ∃ m, k = m + 1 := ⟨k - 1, by omega⟩
    have hlt : i < xs.length := by omega
    have hrl := hr _ (List.getElem_mem hlt)
    simp only [impl_BlockersOf.l0]
    rw [if_pos (by omega), if_pos (by omega), if_pos (by omega), rdL_at xs i hlt, List.drop_eq_getElem_cons hlt, blkAll_cons, ← List.append_assoc]
    refine implRow_loop xs i xs[i] hrl (100 + 10 * d + 1) _ acc (fun k hk => ?_) (by omega) xs[i].length k 0 acc (by omega) (by omega) (by omega) (by simp)
    refine ih (i + 1) k _ (by omega) (by omega) ?_
    have h2 := (blk_sub xs[i] []).length_le
    rw [List.length_append]; omega
def blkR (h : Int) (xs : List (List Int)) : List Int := if Yv.valid h xs = true then Sv.srt (blkAll xs) else []
theorem implBlk (h : Int) (xs : List (List Int)) (k : Nat) (hk : 1000 < k) : impl_BlockersOf.f k h xs = some (blkR h xs, Yv.valid h xs) := by
  simp only [impl_BlockersOf.f, impl_ValidYard.f, Option.bind_some, blkR]
  by_cases hv : Yv.valid h xs = true
  · obtain ⟨_, h2, _, h4, h5, _⟩ := valid_parts hv
    have := implBlk_loop xs h4 (fun r hr => by have := h5 r hr; omega) xs.length 0 k [] (by omega) (by omega) (by simp)
    rw [if_pos hv, if_pos hv, hv]
    simpa using this
  · rw [if_neg hv, if_neg hv]; simp at hv; rw [hv]
theorem specBlk (h : Int) (xs : List (List Int)) (hl : xs.length ≤ 1048576) (k : Nat) (hk : 5000000 ≤ k) : spec_BlockersOf.f k h xs = some (blkR h xs, Yv.valid h xs) := by
  simp only [spec_BlockersOf.f, specYard_eq h xs hl k (by omega), Option.bind_some, blkR]
  by_cases hv : Yv.valid h xs = true
  · obtain ⟨_, h2, _, h4, h5, h6, h7, h8⟩ := valid_parts hv
    have := specBlk_loop h xs h4 (fun r hr => by have := h5 r hr; omega) (fun r hr x hx => (h8 x (List.mem_flatten.2 ⟨r, hr, hx⟩)).2) xs.length 0 k [] (by omega) (by omega) (by simp)
    rw [if_pos hv, if_pos hv, hv]
    simp only [spec_l09Blockers.f]
    have h0 : ((0 : Nat) : Int) = 0 := rfl
    rw [h0] at this
    rw [this]
    simp only [Option.bind_some, List.drop_zero]
    rw [puts_eq _ (h6.sublist (blkAll_sub xs))]
  · rw [if_neg hv, if_neg hv]; simp at hv; rw [hv]
theorem blkR_len (h : Int) (xs : List (List Int)) : (blkR h xs).length ≤ 1048576 := by
  unfold blkR
  by_cases hv : Yv.valid h xs = true
  · obtain ⟨_, h2, _, h4, h5, _, h7, _⟩ := valid_parts hv
    rw [if_pos hv, Sv.srt_len]
    have := (blkAll_sub xs).length_le
    omega
  · rw [if_neg hv]; simp
end Go.Proofs.Ytibaiaenfeppcaa.PuTO

/- Moving and taking, told once for all arguments, by both sides. -/
namespace Go.Proofs.Ytibaiaenfeppcaa.Yq
open Go Go.RowKit Go.Proofs.YtibaiaenfeppcaaW.PrintWords Go.Proofs.YtibaiaenfeppcaaW.PrintLast Go.Proofs.YtibaiaenfeppcaaW.PrintMore Go.Proofs.Ytibaiaenfeppcaa.Q Go.Proofs.Ytibaiaenfeppcaa.PuY Go.Proofs.Ytibaiaenfeppcaa.PuTO Go.Proofs.Ytibaiaenfeppcaa.Lw Go.Proofs.Ytibaiaenfeppcaa.Ow Go.Proofs.Ytibaiaenfeppcaa.Yo Go.Proofs.Ytibaiaenfeppcaa.Yt
set_option linter.unusedVariables false
/-- A move that can be made. -/
def moveB (h : Int) (xs : List (List Int)) (f t : Int) : Bool :=
  decide (0 ≤ f ∧ f < (xs.length : Int) ∧ 0 ≤ t ∧ t < (xs.length : Int) ∧ f ≠ t ∧ 0 < (xs.getD f.toNat []).length ∧ ((xs.getD t.toNat []).length : Int) < h)
def moveR (h : Int) (xs : List (List Int)) (f t : Int) : Option (List (List Int)) := if moveB h xs f t = true then some (moveRows xs f.toNat t.toNat) else none
/-- A yard's height and rows, where there is one. -/
def hR (h : Int) (o : Option (List (List Int))) : Int × List (List Int) := match o with | some ys => (h, ys) | none => (0, [])
/-- What is handed back where a yard may come out. -/
def Out (h : Int) (o : Option (List (List Int))) (w : World) (e : Ending) (w' : World) : Prop :=
  ∃ v, e = .returned (.tuple #[.agg #[.int .i64 (hR h o).1, v], .bool o.isSome]) ∧ Kd.S dW 31 w' w.heap.size (fun _ => True) v (hR h o).2 ∧ Below w.heap.size w w'
theorem out_none {h : Int} {w w' : World} {e : Ending} (he : e = .returned (.tuple #[.agg #[.int .i64 0, .slice none 0 0], .bool false])) (hb : Below w.heap.size w w') : Out h none w e w' := ⟨_, he, Kd.S_nil _ _ _ _ _, hb⟩
theorem getD_at (xs : List (List Int)) (i : Nat) (hi : i < xs.length) : xs.getD i [] = xs[i] := by rw [List.getD_eq_getElem?_getD, List.getElem?_eq_getElem hi]; rfl
theorem flat_le (b : Nat) : ∀ ys : List (List Int), (∀ r ∈ ys, r.length ≤ b) → ys.flatten.length ≤ ys.length * b
  | [], _ => by simp
  | r :: rs, h => by
    have := flat_le b rs (fun s hs => h s (List.mem_cons_of_mem _ hs))
    have := h r (List.mem_cons_self ..)
    rw [List.flatten_cons, List.length_append, List.length_cons, Nat.add_mul]; omega
theorem small_of (ys : List (List Int)) (hl : ys.length ≤ 100) (hr : ∀ r ∈ ys, r.length ≤ 100) : Small ys :=
  ⟨by omega, by have := flat_le 100 ys hr; omega, fun r h => by have := hr r h; omega⟩
/-- Why a move cannot be made. -/
theorem move_cases (h : Int) (xs : List (List Int)) (f t : Int) : (f < 0 ∨ (xs.length : Int) ≤ f) ∨ ∃ i : Nat, f = (i : Int) ∧ ∃ hi : i < xs.length, (t < 0 ∨ (xs.length : Int) ≤ t) ∨ t = (i : Int) ∨ ∃ j : Nat, t = (j : Int) ∧ ∃ hj : j < xs.length, i ≠ j ∧ (xs[i].length = 0 ∨ 0 < xs[i].length ∧ (h ≤ (xs[j].length : Int) ∨ (xs[j].length : Int) < h)) := by
  by_cases h1 : f < 0 ∨ (xs.length : Int) ≤ f
  · exact .inl h1
  · refine .inr ⟨f.toNat, by omega, by omega, ?_⟩
    by_cases h2 : t < 0 ∨ (xs.length : Int) ≤ t
    · exact .inl h2
    · by_cases h3 : t = f
      · exact .inr (.inl (by omega))
      · refine .inr (.inr ⟨t.toNat, by omega, by omega, by omega, ?_⟩)
        by_cases h4 : xs[f.toNat].length = 0
        · exact .inl h4
        · exact .inr ⟨by omega, by omega⟩
theorem moveB_no1 {h : Int} {xs : List (List Int)} {f t : Int} (h1 : f < 0 ∨ (xs.length : Int) ≤ f) : moveB h xs f t = false := decide_eq_false (by omega)
theorem moveB_no2 {h : Int} {xs : List (List Int)} {f t : Int} (h1 : t < 0 ∨ (xs.length : Int) ≤ t) : moveB h xs f t = false := decide_eq_false (by omega)
theorem moveB_no3 {h : Int} {xs : List (List Int)} {f : Int} : moveB h xs f f = false := decide_eq_false (by omega)
theorem moveB_no4 {h : Int} {xs : List (List Int)} {i : Nat} {t : Int} (hi : i < xs.length) (h1 : xs[i].length = 0) : moveB h xs (i : Int) t = false := decide_eq_false (by rw [Int.toNat_natCast, getD_at xs i hi]; omega)
theorem moveB_no5 {h : Int} {xs : List (List Int)} {j : Nat} {f : Int} (hj : j < xs.length) (h1 : h ≤ (xs[j].length : Int)) : moveB h xs f (j : Int) = false := decide_eq_false (by rw [Int.toNat_natCast, getD_at xs j hj]; omega)
theorem moveB_yes {h : Int} {xs : List (List Int)} {i j : Nat} (hi : i < xs.length) (hj : j < xs.length) (hij : i ≠ j) (h1 : 0 < xs[i].length) (h2 : (xs[j].length : Int) < h) : moveB h xs (i : Int) (j : Int) = true :=
  decide_eq_true (by rw [Int.toNat_natCast, Int.toNat_natCast, getD_at xs i hi, getD_at xs j hj]; omega)
/-- The program's moved. -/
theorem moved_any (h : Int) (xs : List (List Int)) (hv : Yv.valid h xs = true) (f t : Int) (A : Option Addr) (c : Nat) (w : World) (hC : Kd.C dR w A xs.length xs) (hcl : xs.length ≤ c) :
    Calls Try.prog 50 #[.agg #[.int .i64 h, .slice A xs.length c], .int .i64 f, .int .i64 t] w (Out h (moveR h xs f t) w) := by
  obtain ⟨p1, p2, p3, p4, p5, -⟩ := valid_parts hv
  have hr4 : ∀ r ∈ xs, r.length ≤ 4 := fun r hr => by have := p5 r hr; omega
  rcases move_cases h xs f t with h1 | ⟨i, rfl, hi, h1 | rfl | ⟨j, rfl, hj, hij, h1 | ⟨h1, h2 | h2⟩⟩⟩
  · rw [moveR, if_neg (by rw [moveB_no1 h1]; decide)]
    exact (Ymv.no_from h xs p4 p2 hr4 f t h1 A c w hC hcl).mono fun e w' hh => out_none hh.1 hh.2
  · rw [moveR, if_neg (by rw [moveB_no2 h1]; decide)]
    exact (Ymv.no_to h xs p4 p2 hr4 i hi t h1 A c w hC hcl).mono fun e w' hh => out_none hh.1 hh.2
  · rw [moveR, if_neg (by rw [moveB_no3]; decide)]
    exact (Ymv.no_same h xs p4 p2 hr4 i hi A c w hC hcl).mono fun e w' hh => out_none hh.1 hh.2
  · rw [moveR, if_neg (by rw [moveB_no4 hi h1]; decide)]
    exact (Ymv.no_lot h xs p4 p2 hr4 i j hi hj hij h1 A c w hC hcl).mono fun e w' hh => out_none hh.1 hh.2
  · rw [moveR, if_neg (by rw [moveB_no5 hj h2]; decide)]
    have := p5 _ (List.getElem_mem hj)
    exact (Ymv.no_room h xs p4 p2 hr4 i j hi hj hij h1 (by omega) A c w hC hcl).mono fun e w' hh => out_none hh.1 hh.2
  · rw [moveR, if_pos (moveB_yes hi hj hij h1 h2)]
    exact (Ymv.yes h xs p4 p2 hr4 i j hi hj hij h1 h2 A c w hC hcl).mono fun e w' ⟨v, h1, h2, h3⟩ => ⟨v, h1, h2, h3⟩
/-- The reference's l09Move. -/
theorem move_any (lo g : Nat) (h : Int) (xs : List (List Int)) (hv : Yv.valid h xs = true) (f t : Int) (W : World) (y : YO lo W g h xs) :
    Calls Try.prog 55 #[.pointer (some ⟨g, 0, none⟩), .int .i64 f, .int .i64 t] W fun e w' => e = .returned (.bool (moveB h xs f t)) ∧ YO lo w' g h ((moveR h xs f t).getD xs) ∧ Below lo W w' := by
  obtain ⟨p1, p2, p3, p4, p5, -⟩ := valid_parts hv
  have hr4 : ∀ r ∈ xs, r.length ≤ 4 := fun r hr => by have := p5 r hr; omega
  have hlo : lo ≤ W.heap.size := y.choose_spec.choose_spec.2.2.1
  rcases move_cases h xs f t with h1 | ⟨i, rfl, hi, h1 | rfl | ⟨j, rfl, hj, hij, h1 | ⟨h1, h2 | h2⟩⟩⟩
  · rw [moveR, moveB_no1 h1, if_neg (by decide)]
    exact (Yx.no_from lo g h xs (by omega) f t h1 W y).mono fun e w' hh => ⟨hh.1, y.below hh.2, hh.2.mono hlo⟩
  · rw [moveR, moveB_no2 h1, if_neg (by decide)]
    exact (Yx.no_to lo g h xs (by omega) i hi t h1 W y).mono fun e w' hh => ⟨hh.1, y.below hh.2, hh.2.mono hlo⟩
  · rw [moveR, moveB_no3, if_neg (by decide)]
    exact (Yx.no_same lo g h xs (by omega) i hi W y).mono fun e w' hh => ⟨hh.1, y.below hh.2, hh.2.mono hlo⟩
  · rw [moveR, moveB_no4 hi h1, if_neg (by decide)]
    exact (Yx.no_lot lo g h xs (by omega) i j hi hj hij h1 W y).mono fun e w' hh => ⟨hh.1, y.below hh.2, hh.2.mono hlo⟩
  · rw [moveR, moveB_no5 hj h2, if_neg (by decide)]
    exact (Yx.no_room lo g h xs (by omega) i j hi hj hij h1 h2 W y).mono fun e w' hh => ⟨hh.1, y.below hh.2, hh.2.mono hlo⟩
  · rw [moveR, moveB_yes hi hj hij h1 h2, if_pos rfl]
    exact (Yt.move_yes lo g h xs i j hi hj hij h1 h2 p4 p2 hr4 W y).mono fun e w' hh => ⟨hh.1, hh.2.1, hh.2.2⟩
end Go.Proofs.Ytibaiaenfeppcaa.Yq

/- Words of the laws whose results are yards: rows of cut capacity made, marked, held. -/
namespace Go.Proofs.Ytibaiaenfeppcaa.Lx
set_option linter.unusedVariables false
open Go Go.RowKit Go.Proofs.YtibaiaenfeppcaaW.PrintWords Go.Proofs.YtibaiaenfeppcaaW.PrintLast Go.Proofs.YtibaiaenfeppcaaW.PrintMore Go.Proofs.Ytibaiaenfeppcaa.Q Go.Proofs.Ytibaiaenfeppcaa.PuY Go.Proofs.Ytibaiaenfeppcaa.Lw Go.Proofs.Ytibaiaenfeppcaa.Ow Go.Proofs.Ytibaiaenfeppcaa.Yq
/-- A list of rows that was made between two block numbers, rows cut or not. -/
structure WS (lo hi : Nat) (w : World) (v : Value) (xs : List (List Int)) : Prop where
  s : Kd.S dW 31 w lo (fun k => lo ≤ k ∧ k < hi) v xs
  le : hi ≤ w.heap.size
theorem WS.make {w w' : World} {v : Value} {xs : List (List Int)} (h : Kd.S dW 31 w' w.heap.size (fun _ => True) v xs) : WS w.heap.size w'.heap.size w' v xs := ⟨Kd.S_mono (Kd.S_bound h) (fun _ hk => ⟨hk.2.1, hk.2.2.1⟩), Nat.le_refl _⟩
theorem WS.below {lo hi : Nat} {w w' : World} {v : Value} {xs : List (List Int)} (h : WS lo hi w v xs) (hb : Below w.heap.size w w') : WS lo hi w' v xs := ⟨Kd.S_below h.s hb, Nat.le_trans h.le hb.size⟩
theorem WS.kept {lo hi : Nat} {w w' : World} {v : Value} {xs : List (List Int)} {T : Nat → Prop} (h : WS lo hi w v xs) (hk : Kept w w' T) (hT : ∀ k, lo ≤ k → k < hi → ¬ T k) : WS lo hi w' v xs :=
  ⟨Kd.S_kept (S := T) h.s hk (fun k hk => hT k hk.1 hk.2), Nat.le_trans h.le hk.1⟩
theorem WS.reads {lo hi : Nat} {w : World} {v : Value} {xs : List (List Int)} (h : WS lo hi w v xs) : ∃ A c, v = .slice A xs.length c ∧ xs.length ≤ c ∧ Kd.C dR w A xs.length xs := Kd.S_reads (d := dW) h.s
theorem WS.c {lo hi : Nat} {w : World} {A : Option Addr} {c n : Nat} {xs : List (List Int)} (h : WS lo hi w (.slice A n c) xs) : Kd.C dR w A xs.length xs := (Kd.S_reads' (d := dW) h.s).2.2
theorem upTo_snoc (a : Int) (j : Nat) : (upTo a (j + 1)) = upTo a j ++ [a + (j : Int)] := by simp [upTo, List.range_succ]
set_option maxRecDepth 100000 in
set_option maxHeartbeats 2000000 in
/-- Marking a row whose capacity may be cut. -/
theorem markW_any (P : Nat → Prop) (v : Value) (l : List Int) (hl : l.length ≤ 1048576) (a : Int) (ha : 0 ≤ a) (hb : a ≤ 100000000) (w0 w : World) (hB : Below w0.heap.size w0 w) (ho : RowW w w0.heap.size P v l) :
    Calls Try.prog 19 #[v, .int .i64 a] w fun e w' => e = .returned (.int .i64 (a + (l.length : Int))) ∧ RowW w' w0.heap.size (fun k => P k ∨ w.heap.size ≤ k) v (upTo a l.length) ∧ Below w0.heap.size w0 w' ∧ Kept w w' P := by
  obtain ⟨n, hn⟩ : ∃ n, n = l.length := ⟨_, rfl⟩
  have HB := Aside0.mk hB
  have HN := Aside0.mk hn
  have hn1 : n ≤ 1048576 := by omega
  rcases ho with ⟨rfl, rfl⟩ | ⟨g, cap, cur, rfl, hg, hp, hh, h1, h2, h3, h4⟩
  · simp only [List.length_nil] at hn ⊢
    subst hn
    clear hB HN
    go_enter Try.func19, Try.ntmps19
    go_wp2
    go_loopw [1, 5] (fun v1 v5 wz => v1 = .int .i64 a ∧ v5 = .int .i64 0 ∧ Aside0 (Below w0.heap.size w0 wz) ∧ Aside0 (Kept w wz P)) (fun _ v _ => 0)
    case atStart => exact ⟨rfl, rfl, HB, ⟨Kept.refl _ _⟩⟩
    case round =>
      obtain ⟨rfl, rfl, hb, hk⟩ := hrel
      go_wp2
      go_ret
      exact ⟨Ha.ret_int (by simp), .inl ⟨rfl, rfl⟩, hb.out, hk.out⟩
  · rw [← hn] at h1 h4 ⊢
    have HG := Aside0.mk hg
    have HP := Aside0.mk hp
    have HH := Aside0.mk hh
    have H123 := Aside0.mk (And.intro h1 (And.intro h2 h3))
    clear hB hn hg hp hh h1 h2 h3 h4
    go_enter Try.func19, Try.ntmps19
    go_wp2
    go_loopw [1, 5] (fun v1 v5 wz => ∃ j : Nat, j ≤ n ∧ v5 = .int .i64 (j : Int) ∧ v1 = .int .i64 (a + (j : Int)) ∧ Aside0 (∃ cz : Array Value, wz.heap[g]? = some (.cells cz 2 (0, 0)) ∧ cz.size = cur.size ∧ cz.toList.take j = nums .i64 (upTo a j)) ∧ Aside0 (Below w0.heap.size w0 wz) ∧ Aside0 (Kept w wz P)) (fun _ v _ => n - (intOf v).toNat)
    case atStart => exact ⟨0, by omega, rfl, by simp, ⟨cur, HH.out, rfl, by simp [upTo, nums]⟩, HB, ⟨Kept.refl _ _⟩⟩
    case round =>
      obtain ⟨j, hj, rfl, rfl, hZ, hb, hk⟩ := hrel
      by_cases hlt : j < n
      · have c0 : decide ((j : Int) < (n : Int)) = true := decide_eq_true (by omega)
        have p1 : (0 ≤ (j : Int)) = True := eq_true (by omega)
        have q1 : ((j : Int) < (n : Int)) = True := eq_true (by omega)
        obtain ⟨cz, z1, z2, z3⟩ := hZ.out
        have hjc : j < cz.size := by have := H123.out; omega
        have x1 : wr.cell? ⟨g, j, none⟩ = some cz[j] := (blk_cell z1 j).trans (Array.getElem?_eq_getElem hjc)
        have x2 := blk_frozen z1 j
        have Z := Aside0.mk (And.intro z1 (And.intro z2 z3))
        have HJ := Aside0.mk hlt
        have HJC := Aside0.mk hjc
        have HW := Aside0.mk (show wrap64 ((j : Int) + 1) = ((j + 1 : Nat) : Int) by unfold wrap64; omega)
        have HV := Aside0.mk (show wrap64 (a + (j : Int) + 1) = a + ((j + 1 : Nat) : Int) by unfold wrap64; omega)
        clear z1 z2 z3 hZ
        go_wp2_with (fail)
        go_roundw
        case rel =>
          refine ⟨j + 1, by have := HJ.out; omega, by have h2 := HW.out; first | (congr 1; done) | (congr 1; omega), by have := HV.out; first | (congr 1; done) | (congr 1; omega), ⟨cz.setIfInBounds j (.int .i64 (a + (j : Int))), ?_, by rw [Array.size_setIfInBounds, Z.out.2.1], ?_⟩, ⟨?_⟩, ⟨?_⟩⟩
          · first | exact blk_put Z.out.1 j _ rfl | exact blk_drewN (blk_put Z.out.1 j _ rfl) _
          · rw [upTo_snoc, Array.toList_setIfInBounds, List.take_succ_eq_append_getElem (by rw [List.length_set, Array.length_toList]; exact HJC.out), List.getElem_set_self, List.take_set_of_le (Nat.le_refl j), Z.out.2.2]
            simp [nums]
          · first | exact below_set hb.out HG.out | exact pw_below_drewN (below_set hb.out HG.out) _
          · exact Kept.setCell hk.out (p := ⟨g, j, none⟩) (.inl HP.out) _
        case measure => have := HJ.out; have h2 := HW.out; simp only [intOf]; omega
      · have c0 : decide ((j : Int) < (n : Int)) = false := decide_eq_false (by omega)
        obtain rfl : j = n := by omega
        clear hlt hj
        go_wp2
        go_ret
        obtain ⟨cz, z1, z2, z3⟩ := hZ.out
        refine ⟨Ha.ret_int rfl, .inr ⟨g, cap, cz, by rw [upTo_len], HG.out, .inl HP.out, ?_, by rw [upTo_len]; exact H123.out.1, H123.out.2.1, by rw [z2]; exact H123.out.2.2, by rw [upTo_len]; exact z3⟩, ?_, ?_⟩
        · exact z1
        · exact hb.out
        · exact hk.out
set_option maxRecDepth 100000 in
set_option maxHeartbeats 2000000 in
theorem markSSW_any (P : Nat → Prop) (v : Value) (l : List (List Int)) (hs : Small l) (w0 w : World) (hB : Below w0.heap.size w0 w) (ho : Kd.S dW 31 w w0.heap.size P v l) :
    Calls Try.prog 37 #[v, .int .i64 1] w fun e w' => e = .returned (.int .i64 (1 + (l.flatten.length : Int))) ∧ Kd.S dW 31 w' w0.heap.size (fun k => P k ∨ w.heap.size ≤ k) v (markL l 1) ∧ Below w0.heap.size w0 w' ∧ Kept w w' P := by
  obtain ⟨hs1, hs2, hs3⟩ := hs
  have HB := Aside0.mk hB
  have HS3 := Aside0.mk hs3
  obtain ⟨n, hn⟩ : ∃ n, n = l.length := ⟨_, rfl⟩
  have HN := Aside0.mk hn
  have hn1 : n ≤ 1048576 := by omega
  obtain ⟨A, c, hv⟩ := Kd.S_slice ho
  rw [← hn] at hv
  subst hv
  have HO := Aside0.mk (show Kd.S dW 31 w w0.heap.size (fun k => P k ∨ w.heap.size ≤ k) (.slice A n c) (markTo l 0) by
    have := Kd.S_mono (ok' := fun k => P k ∨ w.heap.size ≤ k) ho (fun k hk => .inl hk)
    simpa [markTo, markL] using this)
  clear ho hB hs3 hn hs1
  go_enter Try.func37, Try.ntmps37
  go_wp2
  go_loopw [1, 5] (fun v1 v5 wz => ∃ j : Nat, j ≤ n ∧ v5 = .int .i64 (j : Int) ∧ v1 = .int .i64 (1 + ((l.take j).flatten.length : Int)) ∧ Aside0 (Kd.S dW 31 wz w0.heap.size (fun k => P k ∨ w.heap.size ≤ k) (.slice A n c) (markTo l j)) ∧ Aside0 (Below w0.heap.size w0 wz) ∧ Aside0 (Kept w wz P)) (fun _ v _ => n - (intOf v).toNat)
  case atStart => exact ⟨0, by omega, rfl, by simp, HO, HB, ⟨Kept.refl _ _⟩⟩
  case round =>
    obtain ⟨j, hj, rfl, rfl, ho, hb, hk⟩ := hrel
    obtain ⟨m, hm⟩ : ∃ m, m = (l.take j).flatten.length := ⟨_, rfl⟩
    have hm1 := flat_take_le l j
    rw [← hm] at hm1 ⊢
    by_cases hlt : j < n
    · have hjl : j < l.length := by rw [← HN.out]; exact hlt
      have c0 : decide ((j : Int) < (n : Int)) = true := decide_eq_true (by omega)
      have p1 : 0 ≤ (j : Int) := by omega
      have q1 : (j : Int) < (n : Int) := by omega
      obtain ⟨g, rfl⟩ : ∃ g, A = some ⟨g, 0, none⟩ := by
        have hl : (markTo l j).length = n := by rw [markTo_len, HN.out]
        obtain ⟨g, cap, he, _⟩ := Kd.S_form ho.out (by omega)
        injection he with he _ _
        exact ⟨g, he⟩
      obtain ⟨oki, ce, hcl, hM, hcc, hoki, hH⟩ := Kd.S_lend ho.out [] (j : Int) p1 q1
      rw [Int.toNat_natCast, markTo_get l j hjl] at hM
      obtain ⟨u, rfl, hR⟩ := hM
      have hx : wr.cell? ⟨g, j, none⟩ = some u := by
        have := hcc 0 u rfl
        rw [Int.toNat_natCast] at this
        simpa [dW] using this
      have hx' : wr.cell? ((⟨g, 0, none⟩ : Addr).add j) = some u := by rw [add_plain]; exact hx
      obtain ⟨r, hr⟩ : ∃ r, r = l[j] := ⟨_, rfl⟩
      rw [← hr] at hR
      have hrl : r.length ≤ 1048576 := HS3.out r (by rw [hr]; exact List.getElem_mem hjl)
      have hfs := flat_succ l j hjl
      rw [← hr, ← hm] at hfs
      have hft := flat_take_le l (j + 1)
      have hmk := markTo_succ l j hjl
      rw [← hr, ← hm] at hmk
      have HR := Aside0.mk hR
      have HH := Aside0.mk hH
      have HOK := Aside0.mk hoki
      have HF := Aside0.mk hfs
      have HMK := Aside0.mk hmk
      have HW := Aside0.mk (show wrap64 ((j : Int) + 1) = ((j + 1 : Nat) : Int) by unfold wrap64; omega)
      have HMA := Aside0.mk (And.intro (show 0 ≤ 1 + (m : Int) by omega) (show 1 + (m : Int) ≤ 100000000 by omega))
      have HRL := Aside0.mk hrl
      have HJ := Aside0.mk hlt
      obtain ⟨Ar, cr, rfl, -, -⟩ := hR.reads
      replace p1 := eq_true p1
      replace q1 := eq_true q1
      clear hfs hmk hR hH hoki hcl hcc hr hm hft
      go_wp2_with (go_at_call 19; refine (markW_any oki (.slice Ar r.length cr) r HRL.out (1 + (m : Int)) HMA.out.1 HMA.out.2 w0 _ hb.out HR.out).mono ?_; rintro e w1 ⟨rfl, hR1, hb1, hk1⟩; have HR1 := Aside0.mk hR1; have HB1 := Aside0.mk hb1; have HK1 := Aside0.mk hk1; clear hR1 hb1 hk1 hx hx')
      go_roundw
      case rel =>
        refine ⟨j + 1, by have := HJ.out; omega, by have h2 := HW.out; first | (congr 1; done) | (congr 1; omega), by have := HF.out; congr 1; omega, ⟨?_⟩, HB1, ⟨?_⟩⟩
        · rw [← HMK.out]
          have hH2 := Kd.H_widen HH.out
          have hH3 := Kd.H_kept (S := oki) hH2 HK1.out (fun k hk1 hn h3 => hn (.inl h3))
          have := Kd.H_back hH3 (x' := upTo (1 + (m : Int)) r.length) ⟨_, rfl, HR1.out⟩ (fun k hk' => hk'.elim .inl (fun h => .inr ⟨.inr (Nat.le_trans hk.out.1 h), h⟩))
          rw [Int.toNat_natCast] at this; exact this
        · exact (hk.out.then_ HK1.out (fun k hk1 => by
            rcases (HOK.out k hk1).1 with h | h
            · exact .inl h
            · exact .inr h))
      case measure => have := HJ.out; have h2 := HW.out; simp only [intOf]; omega
    · have c0 : decide ((j : Int) < (n : Int)) = false := decide_eq_false (by omega)
      obtain rfl : j = n := by omega
      have HM := Aside0.mk hm
      clear hlt hj hm
      go_wp2
      go_ret
      have e1 : l.take j = l := by rw [HN.out, List.take_length]
      have e2 : markTo l j = markL l 1 := by unfold markTo; rw [e1, HN.out, List.drop_length, List.append_nil]
      refine ⟨Ha.ret_int (by rw [HM.out, e1]), by rw [← e2]; exact ho.out, hb.out, hk.out⟩
/-- Marking a yard. -/
theorem markYardW_any (h : Int) (P : Nat → Prop) (v : Value) (l : List (List Int)) (hs : Small l) (w0 w : World) (hB : Below w0.heap.size w0 w) (ho : Kd.S dW 31 w w0.heap.size P v l) :
    Calls Try.prog 18 #[.agg #[.int .i64 h, v], .int .i64 1] w fun e w' => e = .returned (.int .i64 (1 + (l.flatten.length : Int))) ∧ Kd.S dW 31 w' w0.heap.size (fun k => P k ∨ w.heap.size ≤ k) v (markL l 1) ∧ Below w0.heap.size w0 w' ∧ Kept w w' P := by
  obtain ⟨A, c, rfl⟩ := Kd.S_slice ho
  obtain ⟨n, hn⟩ : ∃ n, n = l.length := ⟨_, rfl⟩
  rw [← hn] at ho ⊢
  obtain ⟨q, hq⟩ : ∃ q, q = l.flatten.length := ⟨_, rfl⟩
  rw [← hq]
  have HQ := Aside0.mk hq
  have hu := Try.underlying27
  have HB := Aside0.mk hB
  have HO := Aside0.mk ho
  have HS := Aside0.mk hs
  clear hB ho hs hn hq
  go_enter Try.func18, Try.ntmps18
  go_wp2_with (go_at_call 37; refine (markSSW_any P _ l HS.out w0 _ (HB.out.trans (below_alloc (Below.refl _ _) (.cells #[.int .i64 h, .slice A n c] 27) |>.mono HB.out.size)) (Kd.S_alloc HO.out _)).mono ?_; rintro e w1 ⟨he, h1, h2, h3⟩; rw [← HQ.out] at he; subst he; have H1 := Aside0.mk h1; have H2 := Aside0.mk h2; have H3 := Aside0.mk h3; clear h1 h2 h3)
  go_ret
  refine ⟨rfl, Kd.S_mono H1.out (fun k hk => hk.elim .inl (fun h => .inr (Nat.le_trans (by simp) h))), H2.out, (Kept.alloc (Kept.refl w P) _).then_ H3.out (fun k hk => .inl hk)⟩
/-- What was marked is held. -/
theorem heldYard_any (h : Int) {A : Option Addr} {c n : Nat} {W : World} (xs : List (List Int)) (hs : Small xs) (hn : n = xs.length) (hM : Kd.C dR W A (markL xs 1).length (markL xs 1)) (hc : n ≤ c) :
    Calls Try.prog 31 #[.agg #[.int .i64 h, .slice A n c], .int .i64 1] W fun e w' => e = .returned (.int .i64 (1 + (xs.flatten.length : Int))) ∧ Below W.heap.size W w' := by
  have := laws_heldYard.calls 4000000 h A c (markL xs 1) 1 _ W hM (by rw [markL_len]; omega) (heldYard_eq h xs hs 4000000 (by decide))
  rw [markL_len, ← hn] at this
  exact this
end Go.Proofs.Ytibaiaenfeppcaa.Lx

/- The next lot: both sides find it. -/
namespace Go.Proofs.Ytibaiaenfeppcaa.PuTN
open Go Go.RowKit Go.Proofs.YtibaiaenfeppcaaW.PrintWords Go.Proofs.YtibaiaenfeppcaaW.PrintLast Go.Proofs.YtibaiaenfeppcaaW.PrintMore Go.Proofs.Ytibaiaenfeppcaa.Q Go.Proofs.Ytibaiaenfeppcaa.PuY Go.Proofs.Ytibaiaenfeppcaa.PuTO Go.Proofs.Ytibaiaenfeppcaa.Lw Go.Proofs.Ytibaiaenfeppcaa.Ow Go.Proofs.Ytibaiaenfeppcaa.Yo Go.Proofs.Ytibaiaenfeppcaa.Yk Go.Proofs.Ytibaiaenfeppcaa.Yq
set_option linter.unusedVariables false
theorem minOf_spec (l : List Int) : ∀ m : Int, (l.foldl (fun m x => if x < m then x else m) m ≤ m ∧ ∀ x ∈ l, l.foldl (fun m x => if x < m then x else m) m ≤ x) ∧ (l.foldl (fun m x => if x < m then x else m) m = m ∨ l.foldl (fun m x => if x < m then x else m) m ∈ l) := by
  induction l with
  | nil => intro m; exact ⟨⟨Int.le_refl _, fun x hx => by simp at hx⟩, .inl rfl⟩
  | cons y l ih =>
    intro m
    simp only [List.foldl_cons]
    obtain ⟨⟨h1, h2⟩, h3⟩ := ih (if y < m then y else m)
    have e : (if y < m then y else m) ≤ m ∧ (if y < m then y else m) ≤ y := by split <;> omega
    refine ⟨⟨Int.le_trans h1 e.1, fun x hx => ?_⟩, ?_⟩
    · rcases List.mem_cons.1 hx with rfl | hx
      · exact Int.le_trans h1 e.2
      · exact h2 x hx
    · rcases h3 with h3 | h3
      · rw [h3]
        by_cases c : y < m
        · rw [if_pos c]; exact .inr (List.mem_cons_self ..)
        · rw [if_neg c]; exact .inl rfl
      · exact .inr (List.mem_cons_of_mem _ h3)
theorem minOf_mem (l : List Int) (h : l ≠ []) : Yv.minOf l ∈ l ∧ ∀ x ∈ l, Yv.minOf l ≤ x := by
  cases l with
  | nil => exact absurd rfl h
  | cons y l =>
    obtain ⟨⟨h1, h2⟩, h3⟩ := minOf_spec l y
    refine ⟨?_, fun x hx => ?_⟩
    · rcases h3 with h3 | h3
      · show l.foldl _ y ∈ _
        rw [h3]; exact List.mem_cons_self ..
      · exact List.mem_cons_of_mem _ h3
    · rcases List.mem_cons.1 hx with rfl | hx
      · exact h1
      · exact h2 x hx
/-- The stack with the next lot. -/
def nextR (xs : List (List Int)) : Option Nat := if xs.flatten = [] then none else some (xs.findIdx fun r => decide (Yv.minOf xs.flatten ∈ r))
def nextI (xs : List (List Int)) : Int := match nextR xs with | none => -1 | some i => (i : Int)
theorem nextR_some {xs : List (List Int)} {i : Nat} (h : nextR xs = some i) : ∃ hi : i < xs.length, Yv.minOf xs.flatten ∈ xs[i] ∧ (∀ x ∈ xs.flatten, Yv.minOf xs.flatten ≤ x) ∧ ∀ j (hj : j < i), Yv.minOf xs.flatten ∉ xs[j] := by
  unfold nextR at h
  by_cases h0 : xs.flatten = []
  · rw [if_pos h0] at h; cases h
  rw [if_neg h0] at h
  injection h with h
  obtain ⟨hm, hle⟩ := minOf_mem _ h0
  obtain ⟨r, hr, hmr⟩ := List.mem_flatten.1 hm
  have hi : xs.findIdx (fun r => decide (Yv.minOf xs.flatten ∈ r)) < xs.length := List.findIdx_lt_length_of_exists ⟨r, hr, by simpa using hmr⟩
  subst h
  refine ⟨hi, ?_, hle, fun j hj => ?_⟩
  · have := List.findIdx_getElem (w := hi); simpa using this
  · have := List.not_of_lt_findIdx hj; simpa using this
theorem nextR_is {xs : List (List Int)} {i : Nat} (hi : i < xs.length) (h1 : Yv.minOf xs.flatten ∈ xs[i]) (h2 : ∀ j (hj : j < i), Yv.minOf xs.flatten ∉ xs[j]) : nextR xs = some i := by
  have h0 : xs.flatten ≠ [] := fun h => by
    have := List.mem_flatten.2 ⟨xs[i], List.getElem_mem hi, h1⟩
    rw [h] at this; simp at this
  unfold nextR
  rw [if_neg h0]
  congr 1
  exact (List.findIdx_eq hi).2 ⟨by simpa using h1, fun j hj => by simpa using h2 j hj⟩
/-! the reference's -/
def At (xs : List (List Int)) (S : List Int) (best least : Int) : Prop :=
  (S = [] ∧ best = -1 ∧ least = 100) ∨ ∃ b : Nat, ∃ hb : b < xs.length, best = (b : Int) ∧ least ∈ xs[b] ∧ least ∈ S ∧ (∀ x ∈ S, least ≤ x) ∧ ∀ b' (hb' : b' < b), least ∉ xs[b']
theorem At.step {xs : List (List Int)} {S : List Int} {best least : Int} (h : At xs S best least) (i : Nat) (hi : i < xs.length) (x : Int) (hx : x ∈ xs[i]) (h99 : x ≤ 99) (hS : ∀ b' (hb' : b' < i), ∀ y ∈ xs[b'], y ∈ S) :
    (x < least → At xs (S ++ [x]) (i : Int) x) ∧ (¬ x < least → At xs (S ++ [x]) best least) := by
  constructor
  · intro hlt
    refine .inr ⟨i, hi, rfl, hx, by simp, fun y hy => ?_, fun b' hb' hm => ?_⟩
    · rcases List.mem_append.1 hy with hy | hy
      · rcases h with ⟨rfl, _, _⟩ | ⟨b, hb, _, _, _, h4, _⟩
        · simp at hy
        · have := h4 y hy; omega
      · rcases List.mem_singleton.1 hy with rfl; exact Int.le_refl _
    · have hm' := hS b' hb' x hm
      rcases h with ⟨rfl, _, _⟩ | ⟨b, hb, _, _, _, h4, _⟩
      · simp at hm'
      · have := h4 x hm'; omega
  · intro hge
    rcases h with ⟨rfl, rfl, rfl⟩ | ⟨b, hb, rfl, h2, h3, h4, h5⟩
    · omega
    · refine .inr ⟨b, hb, rfl, h2, by simp [h3], fun y hy => ?_, h5⟩
      rcases List.mem_append.1 hy with hy | hy
      · exact h4 y hy
      · rcases List.mem_singleton.1 hy with rfl; omega
theorem At.last {xs : List (List Int)} {best least : Int} (h : At xs xs.flatten best least) : best = nextI xs := by
  rcases h with ⟨h1, rfl, _⟩ | ⟨b, hb, rfl, h2, h3, h4, h5⟩
  · unfold nextI nextR; rw [if_pos h1]
  · have h0 : xs.flatten ≠ [] := fun h => by rw [h] at h3; simp at h3
    obtain ⟨hm, hle⟩ := minOf_mem _ h0
    have e : Yv.minOf xs.flatten = least := by have a1 := hle _ h3; have a2 := h4 _ hm; omega
    unfold nextI
    rw [nextR_is hb (by rw [e]; exact h2) (by rw [e]; exact h5)]
theorem inner (h : Int) (xs : List (List Int)) (i : Nat) (hi : i < xs.length) (r : List Int) (hr : r = xs[i]) (h99 : ∀ x ∈ r, x ≤ 99) (hl : r.length ≤ 1000) (hn : xs.length ≤ 1000) (F : Nat) (R : Option (Int × Int)) (S0 : List Int) (hS0 : ∀ b' (hb' : b' < i), ∀ y ∈ xs[b'], y ∈ S0)
    (hnext : ∀ best least f, F ≤ f → At xs (S0 ++ r) best least → spec_l09Next.l0 f best least ((i + 1 : Nat) : Int) h xs = R) :
    ∀ (d k f : Nat) (best least : Int), k + d = r.length → F + d + 1 ≤ f → At xs (S0 ++ r.take k) best least → spec_l09Next.l1 f best least (i : Int) (k : Int) h xs = R := by
  intro d
  induction d with
  | zero =>
    intro k f best least hk hf ha
    obtain ⟨f, rfl⟩ : ∃ m, f = m + 1 := ⟨f - 1, by omega⟩
    simp only [spec_l09Next.l1]
    rw [if_pos (by omega), if_pos (by omega), rdL_at xs i hi, ← hr, if_neg (by omega), wrap_succ i (by omega)]
    rw [List.take_of_length_le (by omega)] at ha
    exact hnext best least f (by omega) ha
  | succ d ih =>
    intro k f best least hk hf ha
    obtain ⟨f, rfl⟩ : ∃ m, f = m + 1 := ⟨f - 1, by omega⟩
    have hkl : k < r.length := by omega
    simp only [spec_l09Next.l1]
    rw [if_pos (by omega), if_pos (by omega), rdL_at xs i hi, ← hr, if_pos (by omega), if_pos (by omega), rd_at r k hkl, wrap_succ k (by omega)]
    have hs := ha.step i hi r[k] (by rw [← hr]; exact List.getElem_mem hkl) (h99 _ (List.getElem_mem hkl)) (fun b' hb' y hy => List.mem_append_left _ (hS0 b' hb' y hy))
    rw [List.append_assoc, ← List.take_succ_eq_append_getElem hkl] at hs
    by_cases hc : r[k] < least
    · rw [if_pos hc]; exact ih (k + 1) f _ _ (by omega) (by omega) (hs.1 hc)
    · rw [if_neg hc]; exact ih (k + 1) f _ _ (by omega) (by omega) (hs.2 hc)
theorem outer (h : Int) (xs : List (List Int)) (h99 : ∀ x ∈ xs.flatten, x ≤ 99) (hl : ∀ r ∈ xs, r.length ≤ 1000) (hn : xs.length ≤ 1000) :
    ∀ (d i f : Nat) (best least : Int), i + d = xs.length → 1003 * d + 1 ≤ f → At xs (xs.take i).flatten best least → spec_l09Next.l0 f best least (i : Int) h xs = some (nextI xs, h) := by
  intro d
  induction d with
  | zero =>
    intro i f best least hi hf ha
    obtain ⟨f, rfl⟩ : ∃ m, f = m + 1 := ⟨f - 1, by omega⟩
    simp only [spec_l09Next.l0]
    rw [List.take_of_length_le (by omega)] at ha
    rw [if_neg (by omega), ha.last]
  | succ d ih =>
    intro i f best least hi hf ha
    obtain ⟨f, rfl⟩ : ∃ m, f = m + 1 := ⟨f - 1, by omega⟩
    have hil : i < xs.length := by omega
    have hrl := hl xs[i] (List.getElem_mem hil)
    simp only [spec_l09Next.l0]
    rw [if_pos (by omega)]
    refine inner h xs i hil xs[i] rfl (fun x hx => h99 x (List.mem_flatten.2 ⟨_, List.getElem_mem hil, hx⟩)) hrl hn (1003 * d + 1) _ (xs.take i).flatten (fun b' hb' y hy => List.mem_flatten.2 ⟨_, List.mem_take_iff_getElem.2 ⟨b', by omega, rfl⟩, hy⟩) (fun best least f hf ha => ?_) xs[i].length 0 f best least (by omega) (by omega) (by simpa using ha)
    refine ih (i + 1) f best least (by omega) hf ?_
    rw [List.take_succ_eq_append_getElem hil, List.flatten_append]
    simpa using ha
theorem next_eq (h : Int) (xs : List (List Int)) (h99 : ∀ x ∈ xs.flatten, x ≤ 99) (hl : ∀ r ∈ xs, r.length ≤ 1000) (hn : xs.length ≤ 1000) : spec_l09Next.f 2000000 h xs = some (nextI xs, h) :=
  outer h xs h99 hl hn xs.length 0 2000000 (-1) 100 (by omega) (by omega) (.inl ⟨by simp, rfl, rfl⟩)
/-! the program's -/
theorem index_eq (r : List Int) (m : Int) (hl : r.length ≤ 1000) : ∀ (d i f : Nat), i + d = r.length → d + 1 ≤ f → (∀ j (hj : j < r.length), j < i → r[j] ≠ m) →
    ∃ p : Int, slices_Index_int64_int64.l0 f r m (r.length : Int) (i : Int) = some p ∧ ((m ∉ r ∧ p = -1) ∨ ∃ q : Nat, p = (q : Int) ∧ ∃ hq : q < r.length, r[q] = m) := by
  intro d
  induction d with
  | zero =>
    intro i f hi hf hj
    obtain ⟨f, rfl⟩ : ∃ m, f = m + 1 := ⟨f - 1, by omega⟩
    simp only [slices_Index_int64_int64.l0]
    rw [if_neg (by omega)]
    refine ⟨_, rfl, .inl ⟨fun hm => ?_, rfl⟩⟩
    obtain ⟨j, hjl, e⟩ := List.mem_iff_getElem.1 hm
    exact hj j hjl (by omega) e
  | succ d ih =>
    intro i f hi hf hj
    obtain ⟨f, rfl⟩ : ∃ m, f = m + 1 := ⟨f - 1, by omega⟩
    have hil : i < r.length := by omega
    simp only [slices_Index_int64_int64.l0]
    rw [if_pos (by omega), if_pos (by omega), if_pos (by omega), rd_at r i hil, wrap_succ i (by omega)]
    by_cases hc : m = r[i]
    · rw [if_pos hc]; exact ⟨_, rfl, .inr ⟨i, rfl, hil, hc.symm⟩⟩
    · rw [if_neg hc]
      refine ih (i + 1) f (by omega) (by omega) (fun j hjl hlt => ?_)
      by_cases h : j = i
      · subst h; exact fun e => hc e.symm
      · exact hj j hjl (by omega)
def topB (xs : List (List Int)) : Bool := match nextR xs with | none => false | some i => !lowB (xs.getD i [])
/-- The next lot lies topmost just where no lot of its stack lies below a greater topmost one. -/
theorem top_iff (r : List Int) (hnd : r.Nodup) (m : Int) (hle : ∀ x ∈ r, m ≤ x) (q : Nat) (hq : q < r.length) (e : r[q] = m) : ((q : Int) == wrap64 ((r.length : Int) - 1)) = !lowB r ∨ 1000 < r.length := by
  by_cases hl : r.length ≤ 1000
  · left
    have hw : wrap64 ((r.length : Int) - 1) = (r.length : Int) - 1 := wrap_id (by omega) (by omega)
    have hlast : rd r ((r.length : Int) - 1) = r[r.length - 1]'(by omega) := by
      rw [show (r.length : Int) - 1 = ((r.length - 1 : Nat) : Int) by omega, rd_at r _ (by omega)]
    rw [hw]
    by_cases h : q = r.length - 1
    · rw [show ((q : Int) == (r.length : Int) - 1) = true from beq_iff_eq.2 (by omega)]
      rw [low_no r (fun k hk => ?_)]
      · rfl
      · rw [hlast, rd_at r k (by omega)]
        have := hle r[k] (List.getElem_mem _)
        subst h
        omega
    · rw [show ((q : Int) == (r.length : Int) - 1) = false from beq_eq_false_iff_ne.2 (by omega)]
      rw [low_yes r q (by omega)]
      · rfl
      · rw [hlast, rd_at r q hq]
        have h1 := hle (r[r.length - 1]'(by omega)) (List.getElem_mem _)
        have h2 : r[q] ≠ r[r.length - 1]'(by omega) := fun e' => h ((List.getElem_inj hnd).1 e')
        omega
  · right; omega
theorem holder_loop (xs : List (List Int)) (hl : ∀ r ∈ xs, r.length ≤ 1000) (hn : xs.length ≤ 1000) (hnd : ∀ r ∈ xs, r.Nodup) (i0 : Nat) (h0 : nextR xs = some i0) :
    ∀ (d i f : Nat), i + d = xs.length → i ≤ i0 → 2000 + d ≤ f → impl_Yard_holder.l0 f (Yv.minOf xs.flatten) xs (xs.length : Int) (i : Int) = some ((i0 : Int), !lowB (xs.getD i0 [])) := by
  obtain ⟨hi0, hm, hle, hbef⟩ := nextR_some h0
  intro d
  induction d with
  | zero => intro i f hi hii; omega
  | succ d ih =>
    intro i f hi hii hf
    obtain ⟨f, rfl⟩ : ∃ m, f = m + 1 := ⟨f - 1, by omega⟩
    have hil : i < xs.length := by omega
    have hrl := hl xs[i] (List.getElem_mem hil)
    simp only [impl_Yard_holder.l0]
    rw [if_pos (by omega), if_pos (by omega), if_pos (by omega), rdL_at xs i hil, wrap_succ i (by omega)]
    obtain ⟨p, hp, hcase⟩ := index_eq xs[i] (Yv.minOf xs.flatten) hrl xs[i].length 0 f (by omega) (by omega) (fun j _ hj => absurd hj (by omega))
    have hp' : slices_Index_int64_int64.f f xs[i] (Yv.minOf xs.flatten) = some p := hp
    rw [hp', Option.bind_some]
    rcases hcase with ⟨hnm, rfl⟩ | ⟨q, rfl, hq, e⟩
    · rw [if_neg (by decide)]
      have : i ≠ i0 := fun h => by subst h; exact hnm hm
      exact ih (i + 1) f (by omega) (by omega) (by omega)
    · have hii0 : i = i0 := by
        by_cases h : i < i0
        · exact absurd (e ▸ List.getElem_mem hq) (hbef i h)
        · omega
      subst hii0
      rw [if_pos (by omega), getD_at xs i hil]
      rcases top_iff xs[i] (hnd _ (List.getElem_mem hil)) (Yv.minOf xs.flatten) (fun x hx => hle x (List.mem_flatten.2 ⟨_, List.getElem_mem hil, hx⟩)) q hq e with h | h
      · rw [h]
      · omega
theorem holder_eq (h : Int) (xs : List (List Int)) (hl : ∀ r ∈ xs, r.length ≤ 1000) (hn : xs.length ≤ 1000) (hnd : ∀ r ∈ xs, r.Nodup) : impl_Yard_holder.f 2000000 h xs = some (nextI xs, topB xs) := by
  have hfl := flat_le 1000 xs hl
  have hfl2 : xs.length * 1000 ≤ 1000000 := by omega
  simp only [impl_Yard_holder.f, impl_Yard_lots.f]
  rw [if_pos ⟨by omega, by omega⟩, Option.bind_some]
  by_cases h0 : xs.flatten = []
  · rw [if_pos (by rw [h0]; rfl)]
    unfold nextI topB nextR
    rw [if_pos h0]
  · have hpos : 0 < xs.flatten.length := List.length_pos_iff.2 h0
    rw [if_neg (by omega)]
    simp only [slices_Min_int64_int64.f]
    rw [if_pos hpos, Option.bind_some]
    obtain ⟨i0, hi0⟩ : ∃ i0, nextR xs = some i0 := ⟨_, by unfold nextR; rw [if_neg h0]⟩
    unfold nextI topB
    rw [hi0]
    exact holder_loop xs hl hn hnd i0 hi0 xs.length 0 2000000 (by omega) (by omega) (by omega)
/-! taking -/
def takeR (xs : List (List Int)) : Option (List (List Int)) := match nextR xs with
  | none => none
  | some i => if lowB (xs.getD i []) = true then none else some (xs.set i ((xs.getD i []).take ((xs.getD i []).length - 1)))
end Go.Proofs.Ytibaiaenfeppcaa.PuTN

/- Taking the next lot, told once for all arguments, by both sides. -/
namespace Go.Proofs.Ytibaiaenfeppcaa.Yr
open Go Go.RowKit Go.Proofs.YtibaiaenfeppcaaW.PrintWords Go.Proofs.YtibaiaenfeppcaaW.PrintLast Go.Proofs.YtibaiaenfeppcaaW.PrintMore Go.Proofs.Ytibaiaenfeppcaa.Q Go.Proofs.Ytibaiaenfeppcaa.PuY Go.Proofs.Ytibaiaenfeppcaa.PuTO Go.Proofs.Ytibaiaenfeppcaa.PuTN Go.Proofs.Ytibaiaenfeppcaa.Lw Go.Proofs.Ytibaiaenfeppcaa.Ow Go.Proofs.Ytibaiaenfeppcaa.Yo Go.Proofs.Ytibaiaenfeppcaa.Yk Go.Proofs.Ytibaiaenfeppcaa.Yq
set_option linter.unusedVariables false
theorem row_nodup {xs : List (List Int)} (h : xs.flatten.Nodup) : ∀ r ∈ xs, r.Nodup := fun r hr => h.sublist (List.sublist_flatten_of_mem hr)
theorem take_parts {h : Int} {xs : List (List Int)} (hv : Yv.valid h xs = true) : xs.length ≤ 4 ∧ h ≤ 4 ∧ (∀ r ∈ xs, r.length ≤ 4) ∧ spec_l09Next.f 2000000 h xs = some (nextI xs, h) ∧ impl_Yard_holder.f 2000000 h xs = some (nextI xs, topB xs) := by
  obtain ⟨p1, p2, p3, p4, p5, p6, p7, p8⟩ := valid_parts hv
  have h4 : ∀ r ∈ xs, r.length ≤ 4 := fun r hr => by have := p5 r hr; omega
  exact ⟨p4, p2, h4, next_eq h xs (fun x hx => (p8 x hx).2) (fun r hr => by have := h4 r hr; omega) (by omega), holder_eq h xs (fun r hr => by have := h4 r hr; omega) (by omega) (row_nodup p6)⟩
theorem nextR_pos {xs : List (List Int)} {i : Nat} (h : nextR xs = some i) : ∃ hi : i < xs.length, 0 < xs[i].length := by
  obtain ⟨hi, hm, -⟩ := nextR_some h
  exact ⟨hi, List.length_pos_of_mem hm⟩
/-- The program's taken. -/
theorem taken_any (h : Int) (xs : List (List Int)) (hv : Yv.valid h xs = true) (A : Option Addr) (c : Nat) (w : World) (hC : Kd.C dR w A xs.length xs) (hcl : xs.length ≤ c) :
    Calls Try.prog 51 #[.agg #[.int .i64 h, .slice A xs.length c]] w (Out h (takeR xs) w) := by
  obtain ⟨h1, h2, h3, -, h5⟩ := take_parts hv
  cases hn : nextR xs with
  | none =>
    have e : takeR xs = none := by unfold takeR; rw [hn]
    have e2 : topB xs = false := by unfold topB; rw [hn]
    rw [e2] at h5
    rw [e]
    exact (Ytn.no h xs h1 h2 h3 2000000 _ h5 A c w hC hcl).mono fun e w' hh => out_none hh.1 hh.2
  | some i =>
    obtain ⟨hi, hp⟩ := nextR_pos hn
    have e3 : nextI xs = (i : Int) := by unfold nextI; rw [hn]
    have e2 : topB xs = !lowB (xs.getD i []) := by unfold topB; rw [hn]
    rw [e2, e3] at h5
    by_cases hl : lowB (xs.getD i []) = true
    · have e : takeR xs = none := by unfold takeR; rw [hn]; simp only [hl, if_true]
      rw [e]
      rw [hl] at h5
      exact (Ytn.no h xs h1 h2 h3 2000000 _ h5 A c w hC hcl).mono fun e w' hh => out_none hh.1 hh.2
    · have e : takeR xs = some (xs.set i ((xs.getD i []).take ((xs.getD i []).length - 1))) := by unfold takeR; rw [hn]; simp only [hl]; rfl
      rw [e]
      have hl' : lowB (xs.getD i []) = false := by simpa using hl
      rw [hl'] at h5
      exact (Ytn.yes h xs h1 h2 h3 2000000 i hi hp h5 A c w hC hcl).mono fun e w' ⟨v, a1, a2, a3⟩ => ⟨v, a1, a2, a3⟩
/-- The reference's l09Take. -/
theorem take_any (lo g : Nat) (h : Int) (xs : List (List Int)) (hv : Yv.valid h xs = true) (W : World) (y : YO lo W g h xs) :
    Calls Try.prog 57 #[.pointer (some ⟨g, 0, none⟩)] W fun e w' => e = .returned (.bool (takeR xs).isSome) ∧ YO lo w' g h ((takeR xs).getD xs) ∧ Below lo W w' := by
  obtain ⟨h1, h2, h3, h4, -⟩ := take_parts hv
  have hlo : lo ≤ W.heap.size := y.choose_spec.choose_spec.2.2.1
  cases hn : nextR xs with
  | none =>
    have e : takeR xs = none := by unfold takeR; rw [hn]
    have e3 : nextI xs = -1 := by unfold nextI; rw [hn]
    rw [e]
    rw [e3] at h4
    exact (take_none lo g h xs (-1) (by decide) 2000000 h4 W y).mono fun e w' hh => ⟨hh.1, y.below hh.2, hh.2.mono hlo⟩
  | some i =>
    obtain ⟨hi, hp⟩ := nextR_pos hn
    have e3 : nextI xs = (i : Int) := by unfold nextI; rw [hn]
    rw [e3] at h4
    refine (take_row lo g h xs i hi h1 h3 hp 2000000 h4 W y).mono fun e w' hh => ?_
    obtain ⟨q1, q2, q3⟩ := hh
    have eg := getD_at xs i hi
    by_cases hl : lowB (xs.getD i []) = true
    · have e : takeR xs = none := by unfold takeR; rw [hn]; simp only [hl, if_true]
      rw [eg] at hl
      rw [hl] at q1 q2
      rw [e]
      exact ⟨q1, q2, q3⟩
    · have e : takeR xs = some (xs.set i ((xs.getD i []).take ((xs.getD i []).length - 1))) := by unfold takeR; rw [hn]; simp only [hl]; rfl
      rw [eg] at hl
      have hl' : lowB xs[i] = false := by simpa using hl
      rw [hl'] at q1 q2
      rw [e, eg]
      exact ⟨q1, q2, q3⟩
theorem take_len {xs ys : List (List Int)} (h : takeR xs = some ys) : ys.length = xs.length ∧ ∀ i, (ys.getD i []).length ≤ (xs.getD i []).length := by
  unfold takeR at h
  cases hn : nextR xs with
  | none => rw [hn] at h; cases h
  | some i =>
    rw [hn] at h
    by_cases hl : lowB (xs.getD i []) = true
    · simp only [hl, if_true] at h; cases h
    · simp only [hl] at h
      injection h with h
      subst h
      refine ⟨by rw [List.length_set], fun j => ?_⟩
      simp only [List.getD_eq_getElem?_getD, List.getElem?_set]
      split
      · next e =>
        subst e
        split
        · simp only [Option.getD_some, List.length_take]; omega
        · simp
      · exact Nat.le_refl _
end Go.Proofs.Ytibaiaenfeppcaa.Yr

/- TakeNext, told once for all arguments, by both sides. -/
namespace Go.Proofs.Ytibaiaenfeppcaa.TN
open Go Go.RowKit Go.Proofs.YtibaiaenfeppcaaW.PrintWords Go.Proofs.YtibaiaenfeppcaaW.PrintLast Go.Proofs.YtibaiaenfeppcaaW.PrintMore Go.Proofs.Ytibaiaenfeppcaa.Q Go.Proofs.Ytibaiaenfeppcaa.PuY Go.Proofs.Ytibaiaenfeppcaa.PuTO Go.Proofs.Ytibaiaenfeppcaa.Lw Go.Proofs.Ytibaiaenfeppcaa.Ow Go.Proofs.Ytibaiaenfeppcaa.Yo Go.Proofs.Ytibaiaenfeppcaa.Yn Go.Proofs.Ytibaiaenfeppcaa.Yt Go.Proofs.Ytibaiaenfeppcaa.Yq
set_option linter.unusedVariables false
set_option linter.unusedSimpArgs false
open Go.Proofs.Ytibaiaenfeppcaa.PuTN Go.Proofs.Ytibaiaenfeppcaa.Yr
set_option maxRecDepth 100000 in
set_option maxHeartbeats 4000000 in
theorem impl_no (h : Int) (xs : List (List Int)) (hv : Yv.valid h xs = false)  (A : Option Addr) (c : Nat) (w : World) (hC : Kd.C dR w A xs.length xs) (hcl : xs.length ≤ c) :
    Calls Try.prog 26 #[.agg #[.int .i64 h, .slice A xs.length c]] w (Out h none w) := by
  have hu := Try.underlying27
  have HR := Aside0.mk hC
  have HC := Aside0.mk hcl
  have HV := Aside0.mk (show impl_ValidYard.f h xs = some false from congrArg some hv)
  clear hC hcl hv
  go_enter Try.func26, Try.ntmps26
  go_wp2_with (fail)
  have b2 := below_alloc (below_alloc (Below.refl w.heap.size w) (.cells #[.int .i64 h, .slice A xs.length c] 27)) (.cells #[.int .i64 0, .slice none 0 0] 27)
  refine (impl_ValidYard.calls h A c xs false _ (Kd.C_below HR.out b2) HC.out HV.out).mono ?_
  rintro e w1 ⟨rfl, hb⟩
  have HB := Aside0.mk (below_step b2 hb)
  have B6 := Aside0.mk (blk_below (blk_new' w (.cells #[.int .i64 h, .slice A xs.length c] 27) (.cells #[.int .i64 0, .slice none 0 0] 27)) hb)
  clear hb b2
  have g0 : w1.cell? ⟨w.heap.size + 1, 0, none⟩ = some (.int .i64 0) := (blk_cell B6.out 0).trans rfl
  have g1 : w1.cell? ⟨w.heap.size + 1, 1, none⟩ = some (.slice none 0 0) := (blk_cell B6.out 1).trans rfl
  have g2 := blk_frozen B6.out 0
  have g3 := blk_frozen B6.out 1
  go_wp2_with (fail)
  have b7 := blk_put (blk_put B6.out 0 (.int .i64 0) rfl) 1 (.slice none 0 0) rfl
  refine bodyPost_ret (results_ct rfl _ _ (w.heap.size + 1) 27 #[.int .i64 0, .slice none 0 0] (0, 0) _ rfl b7 Try.underlying27 rfl (by kernel_rfl)) rfl ?_
  exact out_none rfl (((HB.out).setCell (p := ⟨w.heap.size + 1, 0, none⟩) (Nat.le_succ _) _).setCell (p := ⟨w.heap.size + 1, 1, none⟩) (Nat.le_succ _) _)
set_option maxRecDepth 100000 in
set_option maxHeartbeats 4000000 in
theorem impl_any (h : Int) (xs : List (List Int)) (hv : Yv.valid h xs = true)  (A : Option Addr) (c : Nat) (w : World) (hC : Kd.C dR w A xs.length xs) (hcl : xs.length ≤ c) :
    Calls Try.prog 26 #[.agg #[.int .i64 h, .slice A xs.length c]] w (Out h (takeR xs) w) := by
  have hu := Try.underlying27
  have HR := Aside0.mk hC
  have HC := Aside0.mk hcl
  have HV := Aside0.mk (show impl_ValidYard.f h xs = some true from congrArg some hv)
  have HVV := Aside0.mk hv
  clear hC hcl hv
  go_enter Try.func26, Try.ntmps26
  go_wp2_with (fail)
  have b2 := below_alloc (below_alloc (Below.refl w.heap.size w) (.cells #[.int .i64 h, .slice A xs.length c] 27)) (.cells #[.int .i64 0, .slice none 0 0] 27)
  refine (impl_ValidYard.calls h A c xs true _ (Kd.C_below HR.out b2) HC.out HV.out).mono ?_
  rintro e w1 ⟨rfl, hb⟩
  have HB := Aside0.mk (below_step b2 hb)
  have B6 := Aside0.mk (blk_below (blk_new' w (.cells #[.int .i64 h, .slice A xs.length c] 27) (.cells #[.int .i64 0, .slice none 0 0] 27)) hb)
  have HBB := Aside0.mk hb
  clear hb b2
  have hcK0 : w1.cell? ⟨w.heap.size, 0, none⟩ = some (.int .i64 h) := by
    have := HB.out
    exact (blk_cell (blk_below (blk_alloc (blk_new w (.cells #[.int .i64 h, .slice A xs.length c] 27)) (.cells #[.int .i64 0, .slice none 0 0] 27)) (show Below ((w.alloc (.cells #[.int .i64 h, .slice A xs.length c] 27)).alloc (.cells #[.int .i64 0, .slice none 0 0] 27)).heap.size ((w.alloc (.cells #[.int .i64 h, .slice A xs.length c] 27)).alloc (.cells #[.int .i64 0, .slice none 0 0] 27)) w1 from HBB.out)) 0).trans rfl
  have hcK1 : w1.cell? ⟨w.heap.size, 1, none⟩ = some (.slice A xs.length c) := (blk_cell (blk_below (blk_alloc (blk_new w (.cells #[.int .i64 h, .slice A xs.length c] 27)) (.cells #[.int .i64 0, .slice none 0 0] 27)) HBB.out) 1).trans rfl
  go_wp2_with (fail)
  refine (taken_any h xs HVV.out A c w1 (Kd.C_below HR.out HB.out) HC.out).mono ?_
  rintro e w2 ⟨v, rfl, hS, hb⟩
  obtain ⟨Av, cv, rfl⟩ := Kd.S_slice hS
  have HS := Aside0.mk hS
  have HLT := Aside0.mk (blk_lt B6.out)
  have B6 := Aside0.mk (blk_below B6.out hb)
  have HB := Aside0.mk (below_step HB.out hb)
  clear hS hb hcK0 hcK1
  have g0 : w2.cell? ⟨w.heap.size + 1, 0, none⟩ = some (.int .i64 0) := (blk_cell B6.out 0).trans rfl
  have g1 : w2.cell? ⟨w.heap.size + 1, 1, none⟩ = some (.slice none 0 0) := (blk_cell B6.out 1).trans rfl
  have g2 := blk_frozen B6.out 0
  have g3 := blk_frozen B6.out 1
  go_wp2_with (fail)
  have b7 := blk_put (blk_put B6.out 0 (.int .i64 (hR h (takeR xs)).1) rfl) 1 (.slice Av (hR h (takeR xs)).2.length cv) rfl
  refine bodyPost_ret (results_ct rfl _ _ (w.heap.size + 1) 27 #[.int .i64 (hR h (takeR xs)).1, .slice Av (hR h (takeR xs)).2.length cv] (0, 0) _ rfl b7 Try.underlying27 rfl (by kernel_rfl)) rfl ?_
  refine ⟨_, rfl, ?_, (((HB.out).setCell (p := ⟨w.heap.size + 1, 0, none⟩) (Nat.le_succ _) _).setCell (p := ⟨w.heap.size + 1, 1, none⟩) (Nat.le_succ _) _)⟩
  exact Kd.S_mono (Kd.S_far (p := ⟨w.heap.size + 1, 1, none⟩) (Kd.S_far (p := ⟨w.heap.size + 1, 0, none⟩) (Kd.S_lower (Kd.S_bound HS.out) (by have := HLT.out; omega)) (fun k hk => by have := hk.2.1; have := HLT.out; show k ≠ w.heap.size + 1; omega) _) (fun k hk => by have := hk.2.1; have := HLT.out; show k ≠ w.heap.size + 1; omega) _) (fun _ _ => trivial)
set_option maxRecDepth 100000 in
set_option maxHeartbeats 4000000 in
theorem spec_no (h : Int) (xs : List (List Int)) (hl : xs.length ≤ 1048576) (hv : Yv.valid h xs = false)  (A : Option Addr) (c : Nat) (w : World) (hC : Kd.C dR w A xs.length xs) (hcl : xs.length ≤ c) :
    Calls Try.prog 32 #[.agg #[.int .i64 h, .slice A xs.length c]] w (Out h none w) := by
  have hu := Try.underlying27
  have HR := Aside0.mk hC
  have HC := Aside0.mk hcl
  have HV := Aside0.mk (show spec_l09Yard.f 300000 h xs = some (false, h) by rw [specYard_eq h xs hl 300000 (by decide), hv])
  clear hC hcl hv
  go_enter Try.func32, Try.ntmps32
  go_wp2_with (fail)
  have b2 := below_alloc (below_alloc (Below.refl w.heap.size w) (.cells #[.int .i64 h, .slice A xs.length c] 27)) (.cells #[.int .i64 0, .slice none 0 0] 27)
  have hI : IsS27 w ((w.alloc (.cells #[.int .i64 h, .slice A xs.length c] 27)).alloc (.cells #[.int .i64 0, .slice none 0 0] 27)) w.heap.size h xs := ⟨A, c, blk_alloc (blk_new w (.cells #[.int .i64 h, .slice A xs.length c] 27)) (.cells #[.int .i64 0, .slice none 0 0] 27), Nat.le_refl _, HR.out⟩
  refine (spec_l09Yard.calls 300000 w.heap.size h xs false h w _ hI b2 HV.out).mono ?_
  rintro e w1 ⟨rfl, hI1, hb, hk⟩
  have HB := Aside0.mk hb
  have B6 := Aside0.mk ((hk.2 (w.heap.size + 1) (by simp) (by omega) (by simp)).trans (blk_new' w (.cells #[.int .i64 h, .slice A xs.length c] 27) (.cells #[.int .i64 0, .slice none 0 0] 27)))
  have HI := Aside0.mk hI1
  clear hb b2 hI hI1 hk
  have g0 : w1.cell? ⟨w.heap.size + 1, 0, none⟩ = some (.int .i64 0) := (blk_cell B6.out 0).trans rfl
  have g1 : w1.cell? ⟨w.heap.size + 1, 1, none⟩ = some (.slice none 0 0) := (blk_cell B6.out 1).trans rfl
  have g2 := blk_frozen B6.out 0
  have g3 := blk_frozen B6.out 1
  go_wp2_with (fail)
  have b7 := blk_put (blk_put B6.out 0 (.int .i64 0) rfl) 1 (.slice none 0 0) rfl
  refine bodyPost_ret (results_ct rfl _ _ (w.heap.size + 1) 27 #[.int .i64 0, .slice none 0 0] (0, 0) _ rfl b7 Try.underlying27 rfl (by kernel_rfl)) rfl ?_
  exact out_none rfl (((HB.out).setCell (p := ⟨w.heap.size + 1, 0, none⟩) (Nat.le_succ _) _).setCell (p := ⟨w.heap.size + 1, 1, none⟩) (Nat.le_succ _) _)
set_option maxRecDepth 100000 in
set_option maxHeartbeats 4000000 in
theorem spec_fail (h : Int) (xs : List (List Int)) (hl : xs.length ≤ 1048576) (hv : Yv.valid h xs = true)  (o : Option (List (List Int))) (ho : takeR xs = none) (hb1 : (takeR xs).isSome = false) (A : Option Addr) (c : Nat) (w : World) (hC : Kd.C dR w A xs.length xs) (hcl : xs.length ≤ c) :
    Calls Try.prog 32 #[.agg #[.int .i64 h, .slice A xs.length c]] w (Out h none w) := by
  have hu := Try.underlying27
  have HR := Aside0.mk hC
  have HC := Aside0.mk hcl
  have HV := Aside0.mk (show spec_l09Yard.f 300000 h xs = some (true, h) by rw [specYard_eq h xs hl 300000 (by decide), hv])
  have HVV := Aside0.mk hv
  have HO1 := Aside0.mk ho
  have HB1 := Aside0.mk hb1
  clear hC hcl hv ho hb1
  go_enter Try.func32, Try.ntmps32
  go_wp2_with (fail)
  have b2 := below_alloc (below_alloc (Below.refl w.heap.size w) (.cells #[.int .i64 h, .slice A xs.length c] 27)) (.cells #[.int .i64 0, .slice none 0 0] 27)
  have hI : IsS27 w ((w.alloc (.cells #[.int .i64 h, .slice A xs.length c] 27)).alloc (.cells #[.int .i64 0, .slice none 0 0] 27)) w.heap.size h xs := ⟨A, c, blk_alloc (blk_new w (.cells #[.int .i64 h, .slice A xs.length c] 27)) (.cells #[.int .i64 0, .slice none 0 0] 27), Nat.le_refl _, HR.out⟩
  refine (spec_l09Yard.calls 300000 w.heap.size h xs true h w _ hI b2 HV.out).mono ?_
  rintro e w1 ⟨rfl, hI1, hb, hk⟩
  have HB := Aside0.mk hb
  have B6 := Aside0.mk ((hk.2 (w.heap.size + 1) (by simp) (by omega) (by simp)).trans (blk_new' w (.cells #[.int .i64 h, .slice A xs.length c] 27) (.cells #[.int .i64 0, .slice none 0 0] 27)))
  have HI := Aside0.mk hI1
  clear hb b2 hI hI1 hk
  obtain ⟨A1, c1, hb1, -, hC1⟩ := HI.out
  go_wp2_with (fail)
  obtain ⟨p1, p2, p3, p4, p5, -⟩ := valid_parts HVV.out
  refine (Yn.own_any h xs (by omega) (fun r hr => by have := p5 r hr; omega) w.heap.size xs.length c1 A1 w1 hb1 rfl (Kd.C_below hC1 HB.out)).mono ?_
  rintro e w2 ⟨v, rfl, hS, hb⟩
  have HLT := Aside0.mk (blk_lt B6.out)
  have B6 := Aside0.mk (blk_below B6.out hb)
  have HB := Aside0.mk (below_step HB.out hb)
  have hS1 : Kd.S dR 31 w2 w1.heap.size (fun k => k ≠ w2.heap.size) v xs := Kd.S_mono (Kd.S_elderB hS w2.heap.size (Nat.le_refl _)) (fun k hk => hk.2)
  have hz := hb.size
  obtain ⟨Av, cv, rfl⟩ := Kd.S_slice hS1
  have Y := Aside0.mk (show YO w1.heap.size (w2.alloc (.cells #[.int .i64 h, .slice Av xs.length cv] 27)) w2.heap.size h xs from ⟨Av, cv, blk_new w2 _, hz, by rw [World.size_alloc]; omega, Kd.S_alloc hS1 _⟩)
  have HZ := Aside0.mk hz
  clear hS hS1 hb hb1 hC1 hz p1 p2 p3 p4 p5
  go_wp2_with (fail)
  refine (take_any w1.heap.size w2.heap.size h xs HVV.out _ Y.out).mono ?_
  rintro e w3 ⟨he, hY, hb⟩
  rw [HB1.out] at he
  subst he
  have HB := Aside0.mk (show Below w.heap.size w w3 from (HB.out.trans ((below_alloc (Below.refl w2.heap.size w2) (.cells #[.int .i64 h, .slice Av xs.length cv] 27)).mono HB.out.size)).trans (hb.mono (by have := HLT.out; omega)))
  have B6 := Aside0.mk ((hb.block (w.heap.size + 1) HLT.out).trans (blk_alloc B6.out (.cells #[.int .i64 h, .slice Av xs.length cv] 27)))
  have Y := Aside0.mk hY
  clear hb hY
  have g0 : w3.cell? ⟨w.heap.size + 1, 0, none⟩ = some (.int .i64 0) := (blk_cell B6.out 0).trans rfl
  have g1 : w3.cell? ⟨w.heap.size + 1, 1, none⟩ = some (.slice none 0 0) := (blk_cell B6.out 1).trans rfl
  have g2 := blk_frozen B6.out 0
  have g3 := blk_frozen B6.out 1
  go_wp2_with (fail)
  have b7 := blk_put (blk_put B6.out 0 (.int .i64 0) rfl) 1 (.slice none 0 0) rfl
  refine bodyPost_ret (results_ct rfl _ _ (w.heap.size + 1) 27 #[.int .i64 0, .slice none 0 0] (0, 0) _ rfl b7 Try.underlying27 rfl (by kernel_rfl)) rfl ?_
  exact out_none rfl (((HB.out).setCell (p := ⟨w.heap.size + 1, 0, none⟩) (Nat.le_succ _) _).setCell (p := ⟨w.heap.size + 1, 1, none⟩) (Nat.le_succ _) _)
set_option maxRecDepth 100000 in
set_option maxHeartbeats 4000000 in
theorem spec_yes (h : Int) (xs : List (List Int)) (hl : xs.length ≤ 1048576) (hv : Yv.valid h xs = true)  (o : Option (List (List Int))) (ho : takeR xs = o) (hb1 : (takeR xs).isSome = true) (hos : o.isSome = true) (A : Option Addr) (c : Nat) (w : World) (hC : Kd.C dR w A xs.length xs) (hcl : xs.length ≤ c) :
    Calls Try.prog 32 #[.agg #[.int .i64 h, .slice A xs.length c]] w (Out h o w) := by
  have hu := Try.underlying27
  have HR := Aside0.mk hC
  have HC := Aside0.mk hcl
  have HV := Aside0.mk (show spec_l09Yard.f 300000 h xs = some (true, h) by rw [specYard_eq h xs hl 300000 (by decide), hv])
  have HVV := Aside0.mk hv
  have HO1 := Aside0.mk ho
  have HB1 := Aside0.mk hb1
  have HOS := Aside0.mk hos
  clear hC hcl hv ho hb1 hos
  go_enter Try.func32, Try.ntmps32
  go_wp2_with (fail)
  have b2 := below_alloc (below_alloc (Below.refl w.heap.size w) (.cells #[.int .i64 h, .slice A xs.length c] 27)) (.cells #[.int .i64 0, .slice none 0 0] 27)
  have hI : IsS27 w ((w.alloc (.cells #[.int .i64 h, .slice A xs.length c] 27)).alloc (.cells #[.int .i64 0, .slice none 0 0] 27)) w.heap.size h xs := ⟨A, c, blk_alloc (blk_new w (.cells #[.int .i64 h, .slice A xs.length c] 27)) (.cells #[.int .i64 0, .slice none 0 0] 27), Nat.le_refl _, HR.out⟩
  refine (spec_l09Yard.calls 300000 w.heap.size h xs true h w _ hI b2 HV.out).mono ?_
  rintro e w1 ⟨rfl, hI1, hb, hk⟩
  have HB := Aside0.mk hb
  have B6 := Aside0.mk ((hk.2 (w.heap.size + 1) (by simp) (by omega) (by simp)).trans (blk_new' w (.cells #[.int .i64 h, .slice A xs.length c] 27) (.cells #[.int .i64 0, .slice none 0 0] 27)))
  have HI := Aside0.mk hI1
  clear hb b2 hI hI1 hk
  obtain ⟨A1, c1, hb1, -, hC1⟩ := HI.out
  go_wp2_with (fail)
  obtain ⟨p1, p2, p3, p4, p5, -⟩ := valid_parts HVV.out
  refine (Yn.own_any h xs (by omega) (fun r hr => by have := p5 r hr; omega) w.heap.size xs.length c1 A1 w1 hb1 rfl (Kd.C_below hC1 HB.out)).mono ?_
  rintro e w2 ⟨v, rfl, hS, hb⟩
  have HLT := Aside0.mk (blk_lt B6.out)
  have B6 := Aside0.mk (blk_below B6.out hb)
  have HB := Aside0.mk (below_step HB.out hb)
  have hS1 : Kd.S dR 31 w2 w1.heap.size (fun k => k ≠ w2.heap.size) v xs := Kd.S_mono (Kd.S_elderB hS w2.heap.size (Nat.le_refl _)) (fun k hk => hk.2)
  have hz := hb.size
  obtain ⟨Av, cv, rfl⟩ := Kd.S_slice hS1
  have Y := Aside0.mk (show YO w1.heap.size (w2.alloc (.cells #[.int .i64 h, .slice Av xs.length cv] 27)) w2.heap.size h xs from ⟨Av, cv, blk_new w2 _, hz, by rw [World.size_alloc]; omega, Kd.S_alloc hS1 _⟩)
  have HZ := Aside0.mk hz
  clear hS hS1 hb hb1 hC1 hz p1 p2 p3 p4 p5
  go_wp2_with (fail)
  refine (take_any w1.heap.size w2.heap.size h xs HVV.out _ Y.out).mono ?_
  rintro e w3 ⟨he, hY, hb⟩
  rw [HB1.out] at he
  subst he
  have HB := Aside0.mk (show Below w.heap.size w w3 from (HB.out.trans ((below_alloc (Below.refl w2.heap.size w2) (.cells #[.int .i64 h, .slice Av xs.length cv] 27)).mono HB.out.size)).trans (hb.mono (by have := HLT.out; omega)))
  have B6 := Aside0.mk ((hb.block (w.heap.size + 1) HLT.out).trans (blk_alloc B6.out (.cells #[.int .i64 h, .slice Av xs.length cv] 27)))
  have Y := Aside0.mk hY
  clear hb hY
  have g0 : w3.cell? ⟨w.heap.size + 1, 0, none⟩ = some (.int .i64 0) := (blk_cell B6.out 0).trans rfl
  have g1 : w3.cell? ⟨w.heap.size + 1, 1, none⟩ = some (.slice none 0 0) := (blk_cell B6.out 1).trans rfl
  have g2 := blk_frozen B6.out 0
  have g3 := blk_frozen B6.out 1
  obtain ⟨r, hr⟩ : ∃ r, o = some r := Option.isSome_iff_exists.1 HOS.out
  subst hr
  have hrr := HO1.out
  obtain ⟨A3, c3, hb3, -, -, hS3⟩ := Y.out
  rw [hrr] at hb3 hS3
  simp only [Option.getD_some] at hb3 hS3
  have y0 : w3.cell? ⟨w2.heap.size, 0, none⟩ = some (.int .i64 h) := (blk_cell hb3 0).trans rfl
  have y1 : w3.cell? ⟨w2.heap.size, 1, none⟩ = some (.slice A3 r.length c3) := (blk_cell hb3 1).trans rfl
  have HS3 := Aside0.mk hS3
  have HNE := Aside0.mk (show w2.heap.size ≠ w.heap.size + 1 by have := HZ.out; have := HLT.out; omega)
  clear hS3 hb3 hrr
  go_wp2_with (fail)
  have b7 := blk_put (blk_put B6.out 0 (.int .i64 h) rfl) 1 (.slice A3 r.length c3) rfl
  refine bodyPost_ret (results_ct rfl _ _ (w.heap.size + 1) 27 #[.int .i64 h, .slice A3 r.length c3] (0, 0) _ rfl b7 Try.underlying27 rfl (by kernel_rfl)) rfl ?_
  refine ⟨_, rfl, ?_, (((HB.out).setCell (p := ⟨w.heap.size + 1, 0, none⟩) (Nat.le_succ _) _).setCell (p := ⟨w.heap.size + 1, 1, none⟩) (Nat.le_succ _) _)⟩
  exact Kd.S_mono (Kd.S_far (p := ⟨w.heap.size + 1, 1, none⟩) (Kd.S_far (p := ⟨w.heap.size + 1, 0, none⟩) (Kd.S_lower (Kd.S_bound (sW_of_sR HS3.out)) (by have := HLT.out; omega)) (fun k hk => by have := hk.2.1; have := HLT.out; show k ≠ w.heap.size + 1; omega) _) (fun k hk => by have := hk.2.1; have := HLT.out; show k ≠ w.heap.size + 1; omega) _) (fun _ _ => trivial)
/-- What TakeNext hands back. -/
def res (h : Int) (xs : List (List Int)) : Option (List (List Int)) := if Yv.valid h xs = true then takeR xs else none
theorem impl_calls (h : Int) (xs : List (List Int)) (A : Option Addr) (c : Nat) (w : World) (hC : Kd.C dR w A xs.length xs) (hcl : xs.length ≤ c) :
    Calls Try.prog 26 #[.agg #[.int .i64 h, .slice A xs.length c]] w (Out h (res h xs) w) := by
  unfold res
  by_cases hv : Yv.valid h xs = true
  · rw [if_pos hv]; exact impl_any h xs hv A c w hC hcl
  · rw [if_neg hv]; exact impl_no h xs (by simpa using hv) A c w hC hcl
theorem spec_calls (h : Int) (xs : List (List Int)) (hl : xs.length ≤ 1048576) (A : Option Addr) (c : Nat) (w : World) (hC : Kd.C dR w A xs.length xs) (hcl : xs.length ≤ c) :
    Calls Try.prog 32 #[.agg #[.int .i64 h, .slice A xs.length c]] w (Out h (res h xs) w) := by
  unfold res
  by_cases hv : Yv.valid h xs = true
  · rw [if_pos hv]
    cases e : takeR xs with
    | some ys => exact spec_yes h xs hl hv _ e (by rw [e]; rfl) rfl A c w hC hcl
    | none => exact spec_fail h xs hl hv none e (by rw [e]; rfl) A c w hC hcl
  · rw [if_neg hv]; exact spec_no h xs hl (by simpa using hv) A c w hC hcl
theorem small (h : Int) (xs : List (List Int)) (hs : Small xs) : Small (hR h (res h xs)).2 := by
  unfold res
  by_cases hv : Yv.valid h xs = true
  · rw [if_pos hv]
    obtain ⟨h1, h2, h4, -⟩ := take_parts hv
    cases e : takeR xs with
    | none => exact small_of _ (by simp [hR]) (by simp [hR])
    | some ys =>
      obtain ⟨a1, a2⟩ := take_len e
      refine small_of _ (by simp only [hR]; omega) (fun r hr => ?_)
      simp only [hR] at hr
      obtain ⟨i, hi, rfl⟩ := List.mem_iff_getElem.1 hr
      have b1 := a2 i
      rw [getD_at ys i hi, getD_at xs i (by omega)] at b1
      have b2 := h4 _ (List.getElem_mem (show i < xs.length by omega))
      omega
  · rw [if_neg hv]; exact small_of _ (by simp [hR]) (by simp [hR])
end Go.Proofs.Ytibaiaenfeppcaa.TN

/- The law on TakeNext, walked where both sides hand back the same. -/
namespace Go.Proofs.Ytibaiaenfeppcaa.LTN
open Go Go.RowKit Go.Proofs.YtibaiaenfeppcaaW.PrintWords Go.Proofs.YtibaiaenfeppcaaW.PrintLast Go.Proofs.YtibaiaenfeppcaaW.PrintMore Go.Proofs.Ytibaiaenfeppcaa.Q Go.Proofs.Ytibaiaenfeppcaa.PuY Go.Proofs.Ytibaiaenfeppcaa.Lw Go.Proofs.Ytibaiaenfeppcaa.Ow Go.Proofs.Ytibaiaenfeppcaa.Yq Go.Proofs.Ytibaiaenfeppcaa.Lx
set_option linter.unusedVariables false
set_option linter.unusedSimpArgs false
/-- What both sides hand back of a yard. -/
def Hands (fn : FuncId) (h : Int) (xs : List (List Int)) (h' : Int) (ys : List (List Int)) (b : Bool) : Prop :=
  ∀ (W : World) (A : Option Addr) (c : Nat), Kd.C dR W A xs.length xs → xs.length ≤ c → Calls Try.prog fn #[.agg #[.int .i64 h, .slice A xs.length c]] W fun e w' => ∃ v, e = .returned (.tuple #[.agg #[.int .i64 h', v], .bool b]) ∧ Kd.S dW 31 w' W.heap.size (fun _ => True) v ys ∧ Below W.heap.size W w'
set_option maxRecDepth 100000 in
set_option maxHeartbeats 4000000 in
theorem walk (h : Int) (A : Option Addr) (c : Nat) (xs : List (List Int)) (h' : Int) (ys : List (List Int)) (b : Bool) (hsm : Small xs) (hsy : Small ys) (t_ : Int) (hsz : laws_szYard.f 4000000 h xs 1048576 = some t_) (ht : 0 ≤ t_)
    (h1 : Hands 32 h xs h' ys b) (h2 : Hands 26 h xs h' ys b) (w : World) (hr : Kd.C dR w A xs.length xs) (hc : xs.length ≤ c) :
    Calls Try.prog 8 #[.agg #[.int .i64 h, .slice A xs.length c]] w fun e w' => e = .returned (.bool true) ∧ Below w.heap.size w w' := by
  have hu := Try.underlying24
  have hu2 := Try.underlying27
  have HR := Aside0.mk hr
  have HC := Aside0.mk hc
  have HSM := Aside0.mk hsm
  have HSY := Aside0.mk hsy
  have H1 := Aside0.mk h1
  have H2 := Aside0.mk h2
  have HSZ := Aside0.mk hsz
  have HT := Aside0.mk (toYard_eq h xs hsm 4000000 (by decide))
  have HEY := Aside0.mk (eqYard_eq h xs hsm 4000000 (by decide))
  have HEI := Aside0.mk (eqYard_eq h' ys hsy 4000000 (by decide))
  obtain ⟨q, hq⟩ : ∃ q, q = xs.flatten.length := ⟨_, rfl⟩
  have HQ := Aside0.mk hq
  obtain ⟨n, hn⟩ : ∃ n, n = ys.flatten.length := ⟨_, rfl⟩
  have HN := Aside0.mk hn
  have hb0 : (b != b) = false := bne_self_eq_false b
  have c1 : decide (t_ < 0) = false := decide_eq_false (by omega)
  have c3 : decide (1 + (q : Int) < 0) = false := decide_eq_false (by omega)
  have c4 : decide (1 + (n : Int) < 0) = false := decide_eq_false (by omega)
  have c5 : ((1 + (n : Int)) != (1 + (n : Int))) = false := bne_self_eq_false _
  clear hr hc hsm hsy h1 h2 hsz hq hn ht
  go_enter Try.func8, Try.ntmps8
  go_wp2_with (fail)
  refine (laws_szYard.calls 4000000 h A c xs 1048576 t_ _ (Kd.C_below HR.out (below_alloc (Below.refl _ _) (.cells #[.int .i64 h, .slice A xs.length c] 24))) HC.out HSZ.out).mono ?_
  rintro e w1 ⟨rfl, hb⟩
  have HB := Aside0.mk (below_step (below_alloc (Below.refl w.heap.size w) (.cells #[.int .i64 h, .slice A xs.length c] 24)) hb)
  have K := Aside0.mk (blk_below (blk_new w (.cells #[.int .i64 h, .slice A xs.length c] 24)) hb)
  clear hb
  have hcK0 : w1.cell? ⟨w.heap.size, 0, none⟩ = some (.int .i64 h) := (blk_cell K.out 0).trans rfl
  have hcK1 : w1.cell? ⟨w.heap.size, 1, none⟩ = some (.slice A xs.length c) := (blk_cell K.out 1).trans rfl
  go_wp2_with (fail)
  refine (laws_toYard.calls 4000000 h A c xs h xs _ (Kd.C_below HR.out HB.out) HC.out HT.out).mono ?_
  rintro e w2 ⟨v, rfl, hS, hb⟩
  clear hcK0 hcK1
  have hzw2 := hb.size
  have HLK2 := Aside0.mk (Nat.lt_of_lt_of_le (show w.heap.size < w1.heap.size from blk_lt K.out) hzw2)
  have HB := Aside0.mk (below_step HB.out hb)
  have K := Aside0.mk (blk_below K.out hb)
  have Y := Aside0.mk (YS.make hS)
  obtain ⟨AY, cY, rfl, hcY, _⟩ := Y.out.reads
  have HCY := Aside0.mk hcY
  clear hcY hS
  clear hb
  have hcK0 : w2.cell? ⟨w.heap.size, 0, none⟩ = some (.int .i64 h) := (blk_cell K.out 0).trans rfl
  have hcK1 : w2.cell? ⟨w.heap.size, 1, none⟩ = some (.slice A xs.length c) := (blk_cell K.out 1).trans rfl
  go_wp2_with (fail)
  refine (H1.out w2 AY cY Y.out.c HCY.out).mono ?_
  rintro e w3 ⟨v, rfl, hS, hb⟩
  clear hcK0 hcK1
  have hzw3 := hb.size
  have Y := Aside0.mk (Y.out.below hb)
  have HB := Aside0.mk (below_step HB.out hb)
  have K := Aside0.mk (blk_below K.out hb)
  have Z := Aside0.mk (WS.make hS)
  obtain ⟨AZ, cZ, rfl, hcZ, _⟩ := Z.out.reads
  have HCZ := Aside0.mk hcZ
  clear hcZ hS hb
  clear Y HCY
  have hb := below_alloc (Below.refl w3.heap.size w3) (.cells #[.int .i64 h', .slice AZ ys.length cZ] 27)
  have Z := Aside0.mk (Z.out.below hb)
  have HB := Aside0.mk (below_step HB.out hb)
  have K := Aside0.mk (blk_below K.out hb)
  clear hb
  have S := Aside0.mk (blk_new w3 (.cells #[.int .i64 h', .slice AZ ys.length cZ] 27))
  have HB3 := HB
  have hcK0 : (w3.alloc (.cells #[.int .i64 h', .slice AZ ys.length cZ] 27)).cell? ⟨w.heap.size, 0, none⟩ = some (.int .i64 h) := (blk_cell K.out 0).trans rfl
  have hcK1 : (w3.alloc (.cells #[.int .i64 h', .slice AZ ys.length cZ] 27)).cell? ⟨w.heap.size, 1, none⟩ = some (.slice A xs.length c) := (blk_cell K.out 1).trans rfl
  have hcS0 : (w3.alloc (.cells #[.int .i64 h', .slice AZ ys.length cZ] 27)).cell? ⟨w3.heap.size, 0, none⟩ = some (.int .i64 h') := (blk_cell S.out 0).trans rfl
  have hcS1 : (w3.alloc (.cells #[.int .i64 h', .slice AZ ys.length cZ] 27)).cell? ⟨w3.heap.size, 1, none⟩ = some (.slice AZ ys.length cZ) := (blk_cell S.out 1).trans rfl
  have BX := Aside0.mk (Below.refl (w3.alloc (.cells #[.int .i64 h', .slice AZ ys.length cZ] 27)).heap.size (w3.alloc (.cells #[.int .i64 h', .slice AZ ys.length cZ] 27)))
  go_wp2_with (fail)
  refine (laws_toYard.calls 4000000 h A c xs h xs _ (Kd.C_below HR.out HB.out) HC.out HT.out).mono ?_
  rintro e w4 ⟨v, rfl, hS, hb⟩
  clear hcK0 hcK1 hcS0 hcS1
  have hzw4 := hb.size
  have Z := Aside0.mk (Z.out.below hb)
  have HB := Aside0.mk (below_step HB.out hb)
  have BX := Aside0.mk (below_step BX.out hb)
  have K := Aside0.mk (blk_below K.out hb)
  have S := Aside0.mk (blk_below S.out hb)
  have X := Aside0.mk (YS.make hS)
  obtain ⟨AX, cX, rfl, hcX, _⟩ := X.out.reads
  have HCX := Aside0.mk hcX
  clear hcX hS
  clear hb
  have hb := below_alloc (Below.refl w4.heap.size w4) (.cells #[.int .i64 h, .slice AX xs.length cX] 27)
  have Z := Aside0.mk (Z.out.below hb)
  have X := Aside0.mk (X.out.below hb)
  have HB := Aside0.mk (below_step HB.out hb)
  have BX := Aside0.mk (below_step BX.out hb)
  have K := Aside0.mk (blk_below K.out hb)
  have S := Aside0.mk (blk_below S.out hb)
  clear hb
  have XB := Aside0.mk (blk_new w4 (.cells #[.int .i64 h, .slice AX xs.length cX] 27))
  have hcK0 : (w4.alloc (.cells #[.int .i64 h, .slice AX xs.length cX] 27)).cell? ⟨w.heap.size, 0, none⟩ = some (.int .i64 h) := (blk_cell K.out 0).trans rfl
  have hcK1 : (w4.alloc (.cells #[.int .i64 h, .slice AX xs.length cX] 27)).cell? ⟨w.heap.size, 1, none⟩ = some (.slice A xs.length c) := (blk_cell K.out 1).trans rfl
  have hcS0 : (w4.alloc (.cells #[.int .i64 h, .slice AX xs.length cX] 27)).cell? ⟨w3.heap.size, 0, none⟩ = some (.int .i64 h') := (blk_cell S.out 0).trans rfl
  have hcS1 : (w4.alloc (.cells #[.int .i64 h, .slice AX xs.length cX] 27)).cell? ⟨w3.heap.size, 1, none⟩ = some (.slice AZ ys.length cZ) := (blk_cell S.out 1).trans rfl
  have hcXB0 : (w4.alloc (.cells #[.int .i64 h, .slice AX xs.length cX] 27)).cell? ⟨w4.heap.size, 0, none⟩ = some (.int .i64 h) := (blk_cell XB.out 0).trans rfl
  have hcXB1 : (w4.alloc (.cells #[.int .i64 h, .slice AX xs.length cX] 27)).cell? ⟨w4.heap.size, 1, none⟩ = some (.slice AX xs.length cX) := (blk_cell XB.out 1).trans rfl
  go_wp2_with (fail)
  refine (H2.out (w4.alloc (.cells #[.int .i64 h, .slice AX xs.length cX] 27)) AX cX X.out.c HCX.out).mono ?_
  rintro e w5 ⟨v, rfl, hS, hb⟩
  clear hcK0 hcK1 hcS0 hcS1 hcXB0 hcXB1
  have hzw5 := hb.size
  have Z := Aside0.mk (Z.out.below hb)
  have X := Aside0.mk (X.out.below hb)
  have HB := Aside0.mk (below_step HB.out hb)
  have BX := Aside0.mk (below_step BX.out hb)
  have K := Aside0.mk (blk_below K.out hb)
  have S := Aside0.mk (blk_below S.out hb)
  have XB := Aside0.mk (blk_below XB.out hb)
  have G := Aside0.mk (WS.make hS)
  obtain ⟨AG, cG, rfl, hcG, _⟩ := G.out.reads
  have HCG := Aside0.mk hcG
  clear hcG hS hb
  have hb := below_alloc (Below.refl w5.heap.size w5) (.cells #[.int .i64 h', .slice AG ys.length cG] 27)
  have Z := Aside0.mk (Z.out.below hb)
  have X := Aside0.mk (X.out.below hb)
  have G := Aside0.mk (G.out.below hb)
  have HB := Aside0.mk (below_step HB.out hb)
  have BX := Aside0.mk (below_step BX.out hb)
  have K := Aside0.mk (blk_below K.out hb)
  have S := Aside0.mk (blk_below S.out hb)
  have XB := Aside0.mk (blk_below XB.out hb)
  clear hb
  have GB := Aside0.mk (blk_new w5 (.cells #[.int .i64 h', .slice AG ys.length cG] 27))
  have hcK0 : (w5.alloc (.cells #[.int .i64 h', .slice AG ys.length cG] 27)).cell? ⟨w.heap.size, 0, none⟩ = some (.int .i64 h) := (blk_cell K.out 0).trans rfl
  have hcK1 : (w5.alloc (.cells #[.int .i64 h', .slice AG ys.length cG] 27)).cell? ⟨w.heap.size, 1, none⟩ = some (.slice A xs.length c) := (blk_cell K.out 1).trans rfl
  have hcS0 : (w5.alloc (.cells #[.int .i64 h', .slice AG ys.length cG] 27)).cell? ⟨w3.heap.size, 0, none⟩ = some (.int .i64 h') := (blk_cell S.out 0).trans rfl
  have hcS1 : (w5.alloc (.cells #[.int .i64 h', .slice AG ys.length cG] 27)).cell? ⟨w3.heap.size, 1, none⟩ = some (.slice AZ ys.length cZ) := (blk_cell S.out 1).trans rfl
  have hcXB0 : (w5.alloc (.cells #[.int .i64 h', .slice AG ys.length cG] 27)).cell? ⟨w4.heap.size, 0, none⟩ = some (.int .i64 h) := (blk_cell XB.out 0).trans rfl
  have hcXB1 : (w5.alloc (.cells #[.int .i64 h', .slice AG ys.length cG] 27)).cell? ⟨w4.heap.size, 1, none⟩ = some (.slice AX xs.length cX) := (blk_cell XB.out 1).trans rfl
  have hcGB0 : (w5.alloc (.cells #[.int .i64 h', .slice AG ys.length cG] 27)).cell? ⟨w5.heap.size, 0, none⟩ = some (.int .i64 h') := (blk_cell GB.out 0).trans rfl
  have hcGB1 : (w5.alloc (.cells #[.int .i64 h', .slice AG ys.length cG] 27)).cell? ⟨w5.heap.size, 1, none⟩ = some (.slice AG ys.length cG) := (blk_cell GB.out 1).trans rfl
  go_wp2_with (fail)
  refine (laws_eqYard.calls 4000000 h' AG cG ys h' AZ cZ ys true _ G.out.c HCG.out Z.out.c HCZ.out HEI.out).mono ?_
  rintro e w6 ⟨rfl, hb⟩
  clear hcK0 hcK1 hcS0 hcS1 hcXB0 hcXB1 hcGB0 hcGB1
  have Z := Aside0.mk (Z.out.below hb)
  have X := Aside0.mk (X.out.below hb)
  have G := Aside0.mk (G.out.below hb)
  have HB := Aside0.mk (below_step HB.out hb)
  have BX := Aside0.mk (below_step BX.out hb)
  have K := Aside0.mk (blk_below K.out hb)
  have S := Aside0.mk (blk_below S.out hb)
  have XB := Aside0.mk (blk_below XB.out hb)
  have GB := Aside0.mk (blk_below GB.out hb)
  clear hb
  have hcK0 : w6.cell? ⟨w.heap.size, 0, none⟩ = some (.int .i64 h) := (blk_cell K.out 0).trans rfl
  have hcK1 : w6.cell? ⟨w.heap.size, 1, none⟩ = some (.slice A xs.length c) := (blk_cell K.out 1).trans rfl
  have hcS0 : w6.cell? ⟨w3.heap.size, 0, none⟩ = some (.int .i64 h') := (blk_cell S.out 0).trans rfl
  have hcS1 : w6.cell? ⟨w3.heap.size, 1, none⟩ = some (.slice AZ ys.length cZ) := (blk_cell S.out 1).trans rfl
  have hcXB0 : w6.cell? ⟨w4.heap.size, 0, none⟩ = some (.int .i64 h) := (blk_cell XB.out 0).trans rfl
  have hcXB1 : w6.cell? ⟨w4.heap.size, 1, none⟩ = some (.slice AX xs.length cX) := (blk_cell XB.out 1).trans rfl
  have hcGB0 : w6.cell? ⟨w5.heap.size, 0, none⟩ = some (.int .i64 h') := (blk_cell GB.out 0).trans rfl
  have hcGB1 : w6.cell? ⟨w5.heap.size, 1, none⟩ = some (.slice AG ys.length cG) := (blk_cell GB.out 1).trans rfl
  go_wp2_with (fail)
  refine start_ (n := 5) (S := fun w' => w'.cell? ⟨w4.heap.size, 0, none⟩ = some (.int .i64 h) ∧ w'.cell? ⟨w4.heap.size, 1, none⟩ = some (.slice AX xs.length cX) ∧ w'.cell? ⟨w.heap.size, 0, none⟩ = some (.int .i64 h) ∧ w'.cell? ⟨w.heap.size, 1, none⟩ = some (.slice A xs.length c)) (ds := []) #[false, false, false, false, false] (by kernel_rfl) rfl rfl ⟨(blk_cell XB.out 0).trans rfl, (blk_cell XB.out 1).trans rfl, (blk_cell K.out 0).trans rfl, (blk_cell K.out 1).trans rfl⟩ (fun hHeld => ?_)
  clear hcK0 hcK1 hcS0 hcS1 hcXB0 hcXB1 hcGB0 hcGB1
  have hb := below_drew (Below.refl w6.heap.size w6)
  have Z := Aside0.mk (Z.out.below hb)
  have X := Aside0.mk (X.out.below hb)
  have G := Aside0.mk (G.out.below hb)
  have HB := Aside0.mk (below_step HB.out hb)
  have BX := Aside0.mk (below_step BX.out hb)
  have K := Aside0.mk (blk_below K.out hb)
  have S := Aside0.mk (blk_below S.out hb)
  have XB := Aside0.mk (blk_below XB.out hb)
  have GB := Aside0.mk (blk_below GB.out hb)
  clear hb
  generalize w6.drew = w7 at Z X G HB BX K S XB GB hHeld ⊢
  refine take_ (i := 0) (N := some 41) (v := ?_) (a' := ?_) #[true, false, false, false, false] rfl rfl (by kernel_rfl) (fun _ _ _ h => h) (Or.inl ⟨by rfl, ?_⟩) hHeld ?_ ?_
  rotate_left
  · rintro w' ⟨s0, s1, s2, s3⟩
    go_simp
    with_reducible rfl
  rotate_left
  · simp only [Act.put, List.setIfInBounds_toArray, List.set_cons_zero, List.set_cons_succ, i64_w, i32_w]
    rfl
  refine take_ (i := 1) (N := some 42) (v := ?_) (a' := ?_) #[true, true, false, false, false] rfl rfl (by kernel_rfl) (fun _ _ _ h => h) (Or.inl ⟨by rfl, ?_⟩) hHeld ?_ ?_
  rotate_left
  · rintro w' ⟨s0, s1, s2, s3⟩
    go_simp
    with_reducible rfl
  rotate_left
  · simp only [Act.put, List.setIfInBounds_toArray, List.set_cons_zero, List.set_cons_succ, i64_w, i32_w]
    rfl
  refine one_ (i := 2) (N := some 43) #[true, true, true, false, false] rfl rfl (by kernel_rfl) (by decide) (fun K_ hK => ?_)
  refine goes_ Try.func12 (by kernel_rfl) rfl #[.agg #[.int .i64 h, .slice A xs.length c]] (by rfl) rfl rfl (by (try simp only [List.map_toArray, List.map_cons, List.map_nil]); first | done | rfl) ?_
  refine (laws_toYard.calls 4000000 h A c xs h xs w7 (Kd.C_below HR.out HB.out) HC.out HT.out).mono ?_
  rintro e w8 ⟨v, rfl, hS, hb⟩
  refine ⟨_, rfl, ?_⟩
  have hzw8 := hb.size
  have Z := Aside0.mk (Z.out.below hb)
  have X := Aside0.mk (X.out.below hb)
  have G := Aside0.mk (G.out.below hb)
  have HB := Aside0.mk (below_step HB.out hb)
  have BX := Aside0.mk (below_step BX.out hb)
  have K := Aside0.mk (blk_below K.out hb)
  have S := Aside0.mk (blk_below S.out hb)
  have XB := Aside0.mk (blk_below XB.out hb)
  have GB := Aside0.mk (blk_below GB.out hb)
  have Y := Aside0.mk (YS.make hS)
  obtain ⟨AY, cY, rfl, hcY, _⟩ := Y.out.reads
  have HCY := Aside0.mk hcY
  clear hcY hS hb hHeld
  refine hK.out _ _ ⟨(blk_cell XB.out 0).trans rfl, (blk_cell XB.out 1).trans rfl, (blk_cell K.out 0).trans rfl, (blk_cell K.out 1).trans rfl⟩ (fun hHeld => ?_)
  clear hK K_
  refine norm_ (a' := ?_) ?_ ?_
  rotate_left
  · show Act.put _ (some 43) _ = _
    simp only [Act.put, List.setIfInBounds_toArray, List.set_cons_zero, List.set_cons_succ, i64_w, i32_w]
    rfl
  refine one_ (i := 3) (N := some 44) #[true, true, true, true, false] rfl rfl (by kernel_rfl) (by decide) (fun K_ hK => ?_)
  refine goes_ Try.func14 (by kernel_rfl) rfl #[.agg #[.int .i64 h, .slice AX xs.length cX], .agg #[.int .i64 h, .slice AY xs.length cY]] (by rfl) rfl rfl (by (try simp only [List.map_toArray, List.map_cons, List.map_nil]); first | done | rfl) ?_
  refine (laws_eqYard.calls 4000000 h AX cX xs h AY cY xs true w8 X.out.c HCX.out Y.out.c HCY.out HEY.out).mono ?_
  rintro e w9 ⟨rfl, hb⟩
  refine ⟨_, rfl, ?_⟩
  have Z := Aside0.mk (Z.out.below hb)
  have X := Aside0.mk (X.out.below hb)
  have G := Aside0.mk (G.out.below hb)
  have HB := Aside0.mk (below_step HB.out hb)
  have BX := Aside0.mk (below_step BX.out hb)
  have K := Aside0.mk (blk_below K.out hb)
  have S := Aside0.mk (blk_below S.out hb)
  have XB := Aside0.mk (blk_below XB.out hb)
  have GB := Aside0.mk (blk_below GB.out hb)
  clear hb hHeld Y HCY
  refine hK.out _ _ ⟨(blk_cell XB.out 0).trans rfl, (blk_cell XB.out 1).trans rfl, (blk_cell K.out 0).trans rfl, (blk_cell K.out 1).trans rfl⟩ (fun hHeld => ?_)
  clear hK K_
  refine norm_ (a' := ?_) ?_ ?_
  rotate_left
  · show Act.put _ (some 44) _ = _
    simp only [Act.put, List.setIfInBounds_toArray, List.set_cons_zero, List.set_cons_succ, i64_w, i32_w]
    rfl
  refine pure_ (i := 4) (N := some 45) (v := ?_) (a' := ?_) #[true, true, true, true, true] rfl rfl (by kernel_rfl) (fun _ _ _ h => h) (Or.inl ⟨by rfl, ?_⟩) ?_ ?_
  rotate_left
  · intro w'
    go_simp
    with_reducible rfl
  rotate_left
  · simp only [Act.put, List.setIfInBounds_toArray, List.set_cons_zero, List.set_cons_succ, i64_w, i32_w]
    rfl
  refine done_ (by kernel_rfl) ?_
  clear hHeld
  have hcK0 : w9.cell? ⟨w.heap.size, 0, none⟩ = some (.int .i64 h) := (blk_cell K.out 0).trans rfl
  have hcK1 : w9.cell? ⟨w.heap.size, 1, none⟩ = some (.slice A xs.length c) := (blk_cell K.out 1).trans rfl
  have hcS0 : w9.cell? ⟨w3.heap.size, 0, none⟩ = some (.int .i64 h') := (blk_cell S.out 0).trans rfl
  have hcS1 : w9.cell? ⟨w3.heap.size, 1, none⟩ = some (.slice AZ ys.length cZ) := (blk_cell S.out 1).trans rfl
  have hcXB0 : w9.cell? ⟨w4.heap.size, 0, none⟩ = some (.int .i64 h) := (blk_cell XB.out 0).trans rfl
  have hcXB1 : w9.cell? ⟨w4.heap.size, 1, none⟩ = some (.slice AX xs.length cX) := (blk_cell XB.out 1).trans rfl
  have hcGB0 : w9.cell? ⟨w5.heap.size, 0, none⟩ = some (.int .i64 h') := (blk_cell GB.out 0).trans rfl
  have hcGB1 : w9.cell? ⟨w5.heap.size, 1, none⟩ = some (.slice AG ys.length cG) := (blk_cell GB.out 1).trans rfl
  have HLK := Aside0.mk (show w.heap.size < w9.heap.size from blk_lt K.out)
  have HZ := Aside0.mk (show w.heap.size < w2.heap.size ∧ w2.heap.size ≤ w3.heap.size ∧ (w3.alloc (.cells #[.int .i64 h', .slice AZ ys.length cZ] 27)).heap.size = w3.heap.size + 1 ∧ (w3.alloc (.cells #[.int .i64 h', .slice AZ ys.length cZ] 27)).heap.size ≤ w4.heap.size ∧ (w4.alloc (.cells #[.int .i64 h, .slice AX xs.length cX] 27)).heap.size = w4.heap.size + 1 ∧ (w4.alloc (.cells #[.int .i64 h, .slice AX xs.length cX] 27)).heap.size ≤ w5.heap.size from ⟨HLK2.out, hzw3, by simp, hzw4, by simp, hzw5⟩)
  clear HLK2 hzw2 hzw3 hzw4 hzw5 hzw8 HLK
  go_wp2_with (fail)
  refine (markYard_any h _ _ xs HSM.out (w3.alloc (.cells #[.int .i64 h', .slice AZ ys.length cZ] 27)) w9 BX.out X.out.s).mono ?_
  rintro e w10 ⟨he, _, hb, hk⟩
  rw [← HQ.out] at he
  subst he
  clear hcK0 hcK1 hcS0 hcS1 hcXB0 hcXB1 hcGB0 hcGB1
  clear X HCX
  have hk2 := hk
  have Z := Aside0.mk (Z.out.kept hk (fun k a1 a2 a3 => by have a4 := a3.1; have a5 := a3.2; have a6 := HZ.out; omega))
  have G := Aside0.mk (G.out.kept hk (fun k a1 a2 a3 => by have a4 := a3.1; have a5 := a3.2; have a6 := HZ.out; omega))
  have K := Aside0.mk (blk_kept K.out hk (fun a3 => by have a4 := a3.1; have a5 := a3.2; have a6 := HZ.out; omega))
  have S := Aside0.mk (blk_kept S.out hk (fun a3 => by have a4 := a3.1; have a5 := a3.2; have a6 := HZ.out; omega))
  have XB := Aside0.mk (blk_kept XB.out hk (fun a3 => by have a4 := a3.1; have a5 := a3.2; have a6 := HZ.out; omega))
  have GB := Aside0.mk (blk_kept GB.out hk (fun a3 => by have a4 := a3.1; have a5 := a3.2; have a6 := HZ.out; omega))
  have BX := Aside0.mk hb
  have HB := Aside0.mk (below_step HB3.out hb)
  clear hk hk2 hb
  have hcK0 : w10.cell? ⟨w.heap.size, 0, none⟩ = some (.int .i64 h) := (blk_cell K.out 0).trans rfl
  have hcK1 : w10.cell? ⟨w.heap.size, 1, none⟩ = some (.slice A xs.length c) := (blk_cell K.out 1).trans rfl
  have hcS0 : w10.cell? ⟨w3.heap.size, 0, none⟩ = some (.int .i64 h') := (blk_cell S.out 0).trans rfl
  have hcS1 : w10.cell? ⟨w3.heap.size, 1, none⟩ = some (.slice AZ ys.length cZ) := (blk_cell S.out 1).trans rfl
  have hcXB0 : w10.cell? ⟨w4.heap.size, 0, none⟩ = some (.int .i64 h) := (blk_cell XB.out 0).trans rfl
  have hcXB1 : w10.cell? ⟨w4.heap.size, 1, none⟩ = some (.slice AX xs.length cX) := (blk_cell XB.out 1).trans rfl
  have hcGB0 : w10.cell? ⟨w5.heap.size, 0, none⟩ = some (.int .i64 h') := (blk_cell GB.out 0).trans rfl
  have hcGB1 : w10.cell? ⟨w5.heap.size, 1, none⟩ = some (.slice AG ys.length cG) := (blk_cell GB.out 1).trans rfl
  go_wp2_with (fail)
  refine (laws_eqYard.calls 4000000 h' AG cG ys h' AZ cZ ys true _ G.out.c HCG.out Z.out.c HCZ.out HEI.out).mono ?_
  rintro e w11 ⟨rfl, hb⟩
  clear hcK0 hcK1 hcS0 hcS1 hcXB0 hcXB1 hcGB0 hcGB1
  have Z := Aside0.mk (Z.out.below hb)
  have G := Aside0.mk (G.out.below hb)
  have HB := Aside0.mk (below_step HB.out hb)
  have BX := Aside0.mk (below_step BX.out hb)
  have K := Aside0.mk (blk_below K.out hb)
  have S := Aside0.mk (blk_below S.out hb)
  have XB := Aside0.mk (blk_below XB.out hb)
  have GB := Aside0.mk (blk_below GB.out hb)
  clear hb
  have hcK0 : w11.cell? ⟨w.heap.size, 0, none⟩ = some (.int .i64 h) := (blk_cell K.out 0).trans rfl
  have hcK1 : w11.cell? ⟨w.heap.size, 1, none⟩ = some (.slice A xs.length c) := (blk_cell K.out 1).trans rfl
  have hcS0 : w11.cell? ⟨w3.heap.size, 0, none⟩ = some (.int .i64 h') := (blk_cell S.out 0).trans rfl
  have hcS1 : w11.cell? ⟨w3.heap.size, 1, none⟩ = some (.slice AZ ys.length cZ) := (blk_cell S.out 1).trans rfl
  have hcXB0 : w11.cell? ⟨w4.heap.size, 0, none⟩ = some (.int .i64 h) := (blk_cell XB.out 0).trans rfl
  have hcXB1 : w11.cell? ⟨w4.heap.size, 1, none⟩ = some (.slice AX xs.length cX) := (blk_cell XB.out 1).trans rfl
  have hcGB0 : w11.cell? ⟨w5.heap.size, 0, none⟩ = some (.int .i64 h') := (blk_cell GB.out 0).trans rfl
  have hcGB1 : w11.cell? ⟨w5.heap.size, 1, none⟩ = some (.slice AG ys.length cG) := (blk_cell GB.out 1).trans rfl
  go_wp2_with (fail)
  refine (markYardW_any h' _ _ ys HSY.out (w3.alloc (.cells #[.int .i64 h', .slice AZ ys.length cZ] 27)) w11 BX.out (Kd.S_lower G.out.s (by have := HZ.out; omega))).mono ?_
  rintro e w12 ⟨he, hG, hb, hk⟩
  rw [← HN.out] at he
  subst he
  clear hcK0 hcK1 hcS0 hcS1 hcXB0 hcXB1 hcGB0 hcGB1
  have M := Aside0.mk (show Kd.C dR w12 AG (markL ys 1).length (markL ys 1) from (Kd.S_reads' (d := dW) hG).2.2)
  clear hG
  clear G
  have hk2 := hk
  have Z := Aside0.mk (Z.out.kept hk (fun k a1 a2 a3 => by have a4 := a3.1; have a5 := a3.2; have a6 := HZ.out; omega))
  have K := Aside0.mk (blk_kept K.out hk (fun a3 => by have a4 := a3.1; have a5 := a3.2; have a6 := HZ.out; omega))
  have S := Aside0.mk (blk_kept S.out hk (fun a3 => by have a4 := a3.1; have a5 := a3.2; have a6 := HZ.out; omega))
  have XB := Aside0.mk (blk_kept XB.out hk (fun a3 => by have a4 := a3.1; have a5 := a3.2; have a6 := HZ.out; omega))
  have GB := Aside0.mk (blk_kept GB.out hk (fun a3 => by have a4 := a3.1; have a5 := a3.2; have a6 := HZ.out; omega))
  have BX := Aside0.mk hb
  have HB := Aside0.mk (below_step HB3.out hb)
  clear hk hk2 hb
  have hcK0 : w12.cell? ⟨w.heap.size, 0, none⟩ = some (.int .i64 h) := (blk_cell K.out 0).trans rfl
  have hcK1 : w12.cell? ⟨w.heap.size, 1, none⟩ = some (.slice A xs.length c) := (blk_cell K.out 1).trans rfl
  have hcS0 : w12.cell? ⟨w3.heap.size, 0, none⟩ = some (.int .i64 h') := (blk_cell S.out 0).trans rfl
  have hcS1 : w12.cell? ⟨w3.heap.size, 1, none⟩ = some (.slice AZ ys.length cZ) := (blk_cell S.out 1).trans rfl
  have hcXB0 : w12.cell? ⟨w4.heap.size, 0, none⟩ = some (.int .i64 h) := (blk_cell XB.out 0).trans rfl
  have hcXB1 : w12.cell? ⟨w4.heap.size, 1, none⟩ = some (.slice AX xs.length cX) := (blk_cell XB.out 1).trans rfl
  have hcGB0 : w12.cell? ⟨w5.heap.size, 0, none⟩ = some (.int .i64 h') := (blk_cell GB.out 0).trans rfl
  have hcGB1 : w12.cell? ⟨w5.heap.size, 1, none⟩ = some (.slice AG ys.length cG) := (blk_cell GB.out 1).trans rfl
  go_wp2_with (fail)
  refine (heldYard_any h' (W := w12) ys HSY.out rfl M.out HCG.out).mono ?_
  rintro e w13 ⟨he, hb⟩
  rw [← HN.out] at he
  subst he
  clear hcK0 hcK1 hcS0 hcS1 hcXB0 hcXB1 hcGB0 hcGB1
  have Z := Aside0.mk (Z.out.below hb)
  have HB := Aside0.mk (below_step HB.out hb)
  have BX := Aside0.mk (below_step BX.out hb)
  have K := Aside0.mk (blk_below K.out hb)
  have S := Aside0.mk (blk_below S.out hb)
  have XB := Aside0.mk (blk_below XB.out hb)
  have GB := Aside0.mk (blk_below GB.out hb)
  have M := Aside0.mk (Kd.C_below M.out hb)
  clear hb
  have hcK0 : w13.cell? ⟨w.heap.size, 0, none⟩ = some (.int .i64 h) := (blk_cell K.out 0).trans rfl
  have hcK1 : w13.cell? ⟨w.heap.size, 1, none⟩ = some (.slice A xs.length c) := (blk_cell K.out 1).trans rfl
  have hcS0 : w13.cell? ⟨w3.heap.size, 0, none⟩ = some (.int .i64 h') := (blk_cell S.out 0).trans rfl
  have hcS1 : w13.cell? ⟨w3.heap.size, 1, none⟩ = some (.slice AZ ys.length cZ) := (blk_cell S.out 1).trans rfl
  have hcXB0 : w13.cell? ⟨w4.heap.size, 0, none⟩ = some (.int .i64 h) := (blk_cell XB.out 0).trans rfl
  have hcXB1 : w13.cell? ⟨w4.heap.size, 1, none⟩ = some (.slice AX xs.length cX) := (blk_cell XB.out 1).trans rfl
  have hcGB0 : w13.cell? ⟨w5.heap.size, 0, none⟩ = some (.int .i64 h') := (blk_cell GB.out 0).trans rfl
  have hcGB1 : w13.cell? ⟨w5.heap.size, 1, none⟩ = some (.slice AG ys.length cG) := (blk_cell GB.out 1).trans rfl
  go_wp2_with (fail)
  refine (laws_toYard.calls 4000000 h A c xs h xs _ (Kd.C_below HR.out HB.out) HC.out HT.out).mono ?_
  rintro e w14 ⟨v, rfl, hS, hb⟩
  clear hcK0 hcK1 hcS0 hcS1 hcXB0 hcXB1 hcGB0 hcGB1
  have hzw14 := hb.size
  have Z := Aside0.mk (Z.out.below hb)
  have HB := Aside0.mk (below_step HB.out hb)
  have BX := Aside0.mk (below_step BX.out hb)
  have K := Aside0.mk (blk_below K.out hb)
  have S := Aside0.mk (blk_below S.out hb)
  have XB := Aside0.mk (blk_below XB.out hb)
  have GB := Aside0.mk (blk_below GB.out hb)
  have M := Aside0.mk (Kd.C_below M.out hb)
  have Y := Aside0.mk (YS.make hS)
  obtain ⟨AY, cY, rfl, hcY, _⟩ := Y.out.reads
  have HCY := Aside0.mk hcY
  clear hcY hS
  clear hb
  have hcK0 : w14.cell? ⟨w.heap.size, 0, none⟩ = some (.int .i64 h) := (blk_cell K.out 0).trans rfl
  have hcK1 : w14.cell? ⟨w.heap.size, 1, none⟩ = some (.slice A xs.length c) := (blk_cell K.out 1).trans rfl
  have hcS0 : w14.cell? ⟨w3.heap.size, 0, none⟩ = some (.int .i64 h') := (blk_cell S.out 0).trans rfl
  have hcS1 : w14.cell? ⟨w3.heap.size, 1, none⟩ = some (.slice AZ ys.length cZ) := (blk_cell S.out 1).trans rfl
  have hcXB0 : w14.cell? ⟨w4.heap.size, 0, none⟩ = some (.int .i64 h) := (blk_cell XB.out 0).trans rfl
  have hcXB1 : w14.cell? ⟨w4.heap.size, 1, none⟩ = some (.slice AX xs.length cX) := (blk_cell XB.out 1).trans rfl
  have hcGB0 : w14.cell? ⟨w5.heap.size, 0, none⟩ = some (.int .i64 h') := (blk_cell GB.out 0).trans rfl
  have hcGB1 : w14.cell? ⟨w5.heap.size, 1, none⟩ = some (.slice AG ys.length cG) := (blk_cell GB.out 1).trans rfl
  go_wp2_with (fail)
  refine (H2.out w14 AY cY Y.out.c HCY.out).mono ?_
  rintro e w15 ⟨v, rfl, hS, hb⟩
  clear hcK0 hcK1 hcS0 hcS1 hcXB0 hcXB1 hcGB0 hcGB1
  have hzw15 := hb.size
  have Z := Aside0.mk (Z.out.below hb)
  have Y := Aside0.mk (Y.out.below hb)
  have HB := Aside0.mk (below_step HB.out hb)
  have BX := Aside0.mk (below_step BX.out hb)
  have K := Aside0.mk (blk_below K.out hb)
  have S := Aside0.mk (blk_below S.out hb)
  have XB := Aside0.mk (blk_below XB.out hb)
  have GB := Aside0.mk (blk_below GB.out hb)
  have M := Aside0.mk (Kd.C_below M.out hb)
  have H := Aside0.mk (WS.make hS)
  obtain ⟨AH, cH, rfl, hcH, _⟩ := H.out.reads
  have HCH := Aside0.mk hcH
  clear hcH hS hb
  clear Y HCY
  have hb := below_alloc (Below.refl w15.heap.size w15) (.cells #[.int .i64 h', .slice AH ys.length cH] 27)
  have Z := Aside0.mk (Z.out.below hb)
  have H := Aside0.mk (H.out.below hb)
  have HB := Aside0.mk (below_step HB.out hb)
  have BX := Aside0.mk (below_step BX.out hb)
  have K := Aside0.mk (blk_below K.out hb)
  have S := Aside0.mk (blk_below S.out hb)
  have XB := Aside0.mk (blk_below XB.out hb)
  have GB := Aside0.mk (blk_below GB.out hb)
  have M := Aside0.mk (Kd.C_below M.out hb)
  clear hb
  have HBx := Aside0.mk (blk_new w15 (.cells #[.int .i64 h', .slice AH ys.length cH] 27))
  have hcK0 : (w15.alloc (.cells #[.int .i64 h', .slice AH ys.length cH] 27)).cell? ⟨w.heap.size, 0, none⟩ = some (.int .i64 h) := (blk_cell K.out 0).trans rfl
  have hcK1 : (w15.alloc (.cells #[.int .i64 h', .slice AH ys.length cH] 27)).cell? ⟨w.heap.size, 1, none⟩ = some (.slice A xs.length c) := (blk_cell K.out 1).trans rfl
  have hcS0 : (w15.alloc (.cells #[.int .i64 h', .slice AH ys.length cH] 27)).cell? ⟨w3.heap.size, 0, none⟩ = some (.int .i64 h') := (blk_cell S.out 0).trans rfl
  have hcS1 : (w15.alloc (.cells #[.int .i64 h', .slice AH ys.length cH] 27)).cell? ⟨w3.heap.size, 1, none⟩ = some (.slice AZ ys.length cZ) := (blk_cell S.out 1).trans rfl
  have hcXB0 : (w15.alloc (.cells #[.int .i64 h', .slice AH ys.length cH] 27)).cell? ⟨w4.heap.size, 0, none⟩ = some (.int .i64 h) := (blk_cell XB.out 0).trans rfl
  have hcXB1 : (w15.alloc (.cells #[.int .i64 h', .slice AH ys.length cH] 27)).cell? ⟨w4.heap.size, 1, none⟩ = some (.slice AX xs.length cX) := (blk_cell XB.out 1).trans rfl
  have hcGB0 : (w15.alloc (.cells #[.int .i64 h', .slice AH ys.length cH] 27)).cell? ⟨w5.heap.size, 0, none⟩ = some (.int .i64 h') := (blk_cell GB.out 0).trans rfl
  have hcGB1 : (w15.alloc (.cells #[.int .i64 h', .slice AH ys.length cH] 27)).cell? ⟨w5.heap.size, 1, none⟩ = some (.slice AG ys.length cG) := (blk_cell GB.out 1).trans rfl
  have hcHBx0 : (w15.alloc (.cells #[.int .i64 h', .slice AH ys.length cH] 27)).cell? ⟨w15.heap.size, 0, none⟩ = some (.int .i64 h') := (blk_cell HBx.out 0).trans rfl
  have hcHBx1 : (w15.alloc (.cells #[.int .i64 h', .slice AH ys.length cH] 27)).cell? ⟨w15.heap.size, 1, none⟩ = some (.slice AH ys.length cH) := (blk_cell HBx.out 1).trans rfl
  go_wp2_with (fail)
  refine (laws_eqYard.calls 4000000 h' AH cH ys h' AZ cZ ys true _ H.out.c HCH.out Z.out.c HCZ.out HEI.out).mono ?_
  rintro e w16 ⟨rfl, hb⟩
  clear hcK0 hcK1 hcS0 hcS1 hcXB0 hcXB1 hcGB0 hcGB1 hcHBx0 hcHBx1
  have Z := Aside0.mk (Z.out.below hb)
  have H := Aside0.mk (H.out.below hb)
  have HB := Aside0.mk (below_step HB.out hb)
  have BX := Aside0.mk (below_step BX.out hb)
  have K := Aside0.mk (blk_below K.out hb)
  have S := Aside0.mk (blk_below S.out hb)
  have XB := Aside0.mk (blk_below XB.out hb)
  have GB := Aside0.mk (blk_below GB.out hb)
  have HBx := Aside0.mk (blk_below HBx.out hb)
  have M := Aside0.mk (Kd.C_below M.out hb)
  clear hb
  have hcK0 : w16.cell? ⟨w.heap.size, 0, none⟩ = some (.int .i64 h) := (blk_cell K.out 0).trans rfl
  have hcK1 : w16.cell? ⟨w.heap.size, 1, none⟩ = some (.slice A xs.length c) := (blk_cell K.out 1).trans rfl
  have hcS0 : w16.cell? ⟨w3.heap.size, 0, none⟩ = some (.int .i64 h') := (blk_cell S.out 0).trans rfl
  have hcS1 : w16.cell? ⟨w3.heap.size, 1, none⟩ = some (.slice AZ ys.length cZ) := (blk_cell S.out 1).trans rfl
  have hcXB0 : w16.cell? ⟨w4.heap.size, 0, none⟩ = some (.int .i64 h) := (blk_cell XB.out 0).trans rfl
  have hcXB1 : w16.cell? ⟨w4.heap.size, 1, none⟩ = some (.slice AX xs.length cX) := (blk_cell XB.out 1).trans rfl
  have hcGB0 : w16.cell? ⟨w5.heap.size, 0, none⟩ = some (.int .i64 h') := (blk_cell GB.out 0).trans rfl
  have hcGB1 : w16.cell? ⟨w5.heap.size, 1, none⟩ = some (.slice AG ys.length cG) := (blk_cell GB.out 1).trans rfl
  have hcHBx0 : w16.cell? ⟨w15.heap.size, 0, none⟩ = some (.int .i64 h') := (blk_cell HBx.out 0).trans rfl
  have hcHBx1 : w16.cell? ⟨w15.heap.size, 1, none⟩ = some (.slice AH ys.length cH) := (blk_cell HBx.out 1).trans rfl
  go_wp2_with (fail)
  refine (heldYard_any h' (W := w16) ys HSY.out rfl M.out HCG.out).mono ?_
  rintro e w17 ⟨he, hb⟩
  rw [← HN.out] at he
  subst he
  clear hcK0 hcK1 hcS0 hcS1 hcXB0 hcXB1 hcGB0 hcGB1 hcHBx0 hcHBx1
  have Z := Aside0.mk (Z.out.below hb)
  have H := Aside0.mk (H.out.below hb)
  have HB := Aside0.mk (below_step HB.out hb)
  have BX := Aside0.mk (below_step BX.out hb)
  have K := Aside0.mk (blk_below K.out hb)
  have S := Aside0.mk (blk_below S.out hb)
  have XB := Aside0.mk (blk_below XB.out hb)
  have GB := Aside0.mk (blk_below GB.out hb)
  have HBx := Aside0.mk (blk_below HBx.out hb)
  have M := Aside0.mk (Kd.C_below M.out hb)
  clear hb
  go_wp2_with (fail)
  go_ret
  exact ⟨rfl, HB.out⟩
set_option maxRecDepth 100000 in
theorem walk_big (h : Int) (A : Option Addr) (c : Nat) (xs : List (List Int)) (t_ : Int) (hsz : laws_szYard.f 4000000 h xs 1048576 = some t_) (ht : t_ < 0) (w : World) (hr : Kd.C dR w A xs.length xs) (hc : xs.length ≤ c) :
    Calls Try.prog 8 #[.agg #[.int .i64 h, .slice A xs.length c]] w fun e w' => e = .returned (.bool true) ∧ Below w.heap.size w w' := by
  have hu := Try.underlying24
  have HR := Aside0.mk hr
  have HC := Aside0.mk hc
  have HSZ := Aside0.mk hsz
  have c1 : decide (t_ < 0) = true := decide_eq_true ht
  clear hr hc hsz ht
  go_enter Try.func8, Try.ntmps8
  go_wp2_with (fail)
  refine (laws_szYard.calls 4000000 h A c xs 1048576 t_ _ (Kd.C_below HR.out (below_alloc (Below.refl _ _) (.cells #[.int .i64 h, .slice A xs.length c] 24))) HC.out HSZ.out).mono ?_
  rintro e w1 ⟨rfl, hb⟩
  have HB := Aside0.mk (below_step (below_alloc (Below.refl w.heap.size w) (.cells #[.int .i64 h, .slice A xs.length c] 24)) hb)
  clear hb
  go_wp2_with (fail)
  go_ret
  exact ⟨rfl, HB.out⟩
theorem hands_of {fn : FuncId} {h : Int} {xs : List (List Int)} {o : Option (List (List Int))} (hh : ∀ (W : World) (A : Option Addr) (c : Nat), Kd.C dR W A xs.length xs → xs.length ≤ c → Calls Try.prog fn #[.agg #[.int .i64 h, .slice A xs.length c]] W (Out h o W)) : Hands fn h xs (hR h o).1 (hR h o).2 o.isSome := fun W A c h1 h2 => (hh W A c h1 h2).mono fun _ _ h3 => h3
theorem calls (h : Int) (A : Option Addr) (c : Nat) (xs : List (List Int)) (w : World) (hr : Kd.C dR w A xs.length xs) (hc : xs.length ≤ c) (hl : xs.length ≤ 9223372036854775807) (hrr : ∀ r ∈ xs, r.length ≤ 9223372036854775807) :
    Calls Try.prog 8 #[.agg #[.int .i64 h, .slice A xs.length c]] w fun e w' => e = .returned (.bool true) ∧ Below w.heap.size w w' := by
  obtain ⟨tz, ht, ht1, hs⟩ := szYard_eq h xs hl hrr 4000000 (by decide)
  by_cases hn : tz < 0
  · exact walk_big h A c xs tz ht hn w hr hc
  · have hsm := hs (by omega)
    have g1 : Hands 32 h xs (hR h (TN.res h xs)).1 (hR h (TN.res h xs)).2 (TN.res h xs).isSome := hands_of (fun W A c hC hc => TN.spec_calls h xs hsm.1 A c W hC hc)
    have g2 : Hands 26 h xs (hR h (TN.res h xs)).1 (hR h (TN.res h xs)).2 (TN.res h xs).isSome := hands_of (fun W A c hC hc => TN.impl_calls h xs A c W hC hc)
    have g3 := TN.small h xs hsm
    generalize TN.res h xs = o at g1 g2 g3
    exact walk h A c xs _ _ _ hsm g3 tz ht (Int.not_lt.1 hn) g1 g2 w hr hc
end Go.Proofs.Ytibaiaenfeppcaa.LTN

