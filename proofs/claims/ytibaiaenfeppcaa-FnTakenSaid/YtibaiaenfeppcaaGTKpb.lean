/- Parts of the proof that the law of this seat holds: Q78, Q32, Q62, PuTO, Yq, PuTN, Yr, PuRM, Yc, Ye, RMi, RMs, RM, TN, Q56, Q57, Q58. -/
import Derived.Test.YtibaiaenfeppcaaGTKpa
set_option linter.unusedVariables false
set_option linter.unusedSimpArgs false
-- made by a patched copy of print.sh: this session's own
namespace Go.Proofs.Ytibaiaenfeppcaa.Q
open Go.RowKit Go.Proofs.YtibaiaenfeppcaaW.PrintWords Go.Proofs.YtibaiaenfeppcaaW.PrintLast Go.Proofs.YtibaiaenfeppcaaW.PrintMore
attribute [local go_sem] max2_int min2_int max_two min_two max_three min_three max_four min_four   -- for this text's walks alone
set_option linter.unusedVariables false
set_option linter.unusedSimpArgs false

/-! ### spec_BlockersOf: function 28 -/
def spec_BlockersOf.f (k : Nat) (a0_0 : Int) (l0_1 : List (List Int)) : Option (List Int × Bool) := (spec_l09Yard.f k a0_0 l0_1).bind fun bt533 => (if bt533.1 = true then ((spec_l09Blockers.f k bt533.2 l0_1).bind fun bt535 => (some (bt535.1, true))) else (some (([] : List Int), false)))
end Go.Proofs.Ytibaiaenfeppcaa.Q

-- made by a patched copy of print.sh: this session's own
namespace Go.Proofs.Ytibaiaenfeppcaa.Q
open Go.RowKit Go.Proofs.YtibaiaenfeppcaaW.PrintWords Go.Proofs.YtibaiaenfeppcaaW.PrintLast Go.Proofs.YtibaiaenfeppcaaW.PrintMore
attribute [local go_sem] max2_int min2_int max_two min_two max_three min_three max_four min_four   -- for this text's walks alone
set_option linter.unusedVariables false
set_option linter.unusedSimpArgs false

/-! ### slices_Sort_int64_int64: function 47 -/
def slices_Sort_int64_int64.f (l0 : List Int) : Option (List Int) := if l0.length ≤ 1000000 then some (Sv.srt l0) else none
theorem slices_Sort_int64_int64.calls (P0_ : Nat → Prop) (u9000_ : Value) (l0 : List Int) (r : List Int) (w0 w : World) (hB : Below w0.heap.size w0 w) (ho0 : Kd.R (Kd.int .i64) 2 w w0.heap.size P0_ u9000_ l0) (h : slices_Sort_int64_int64.f l0 = some r) :
    Calls Try.prog 47 #[u9000_] w fun e w' => e = .returned (.tuple #[]) ∧ Kd.R (Kd.int .i64) 2 w' w0.heap.size (fun k_ => (P0_ k_ ∨ w.heap.size ≤ k_)) u9000_ r ∧ Below w0.heap.size w0 w' ∧ Kept w w' (fun k_ => P0_ k_) := by
  unfold slices_Sort_int64_int64.f at h
  split at h
  · obtain rfl := Option.some.inj h
    exact Yv.sort_R P0_ u9000_ l0 ‹_› w0 w hB ho0
  · cases h

end Go.Proofs.Ytibaiaenfeppcaa.Q

-- made by a patched copy of print.sh: this session's own
namespace Go.Proofs.Ytibaiaenfeppcaa.Q
open Go.RowKit Go.Proofs.YtibaiaenfeppcaaW.PrintWords Go.Proofs.YtibaiaenfeppcaaW.PrintLast Go.Proofs.YtibaiaenfeppcaaW.PrintMore
attribute [local go_sem] max2_int min2_int max_two min_two max_three min_three max_four min_four   -- for this text's walks alone
set_option linter.unusedVariables false
set_option linter.unusedSimpArgs false

/-! ### impl_BlockersOf: function 23 -/
mutual
def impl_BlockersOf.l0 : Nat → List Int → List (List Int) → Int → Int → Option (List Int × Bool)
  | 0, _, _, _, _ => none
  | k + 1, x4, x14, x15, x16 => if x16 < x15 then (if 0 ≤ x16 then (if x16 < (x14.length : Int) then (impl_BlockersOf.l1 k x4 (rd_L1 x14 x16) x14 x15 x16 (rd_L1 x14 x16) ((rd_L1 x14 x16).length : Int) 0) else (none)) else (none)) else ((slices_Sort_int64_int64.f x4).bind fun t404 => (some (t404, true)))
def impl_BlockersOf.l1 : Nat → List Int → List Int → List (List Int) → Int → Int → List Int → Int → Int → Option (List Int × Bool)
  | 0, _, _, _, _, _, _, _, _ => none
  | k + 1, x4, x6, x14, x15, x16, x20, x21, x22 => if x22 < x21 then (if 0 ≤ x22 then (if x22 < (x20.length : Int) then (if x22 > 0 then (if x22 ≤ (x6.length : Int) then ((slices_Min_int64_int64.f (x6.take (x22 : Int).toNat)).bind fun t408 => (if t408 < (rd x20 x22) then (if x4.length < 17592186044416 then (impl_BlockersOf.l1 k (x4 ++ [rd x20 x22]) x6 x14 x15 x16 x20 x21 (wrap64 (x22 + 1))) else (none)) else (impl_BlockersOf.l1 k x4 x6 x14 x15 x16 x20 x21 (wrap64 (x22 + 1))))) else (none)) else (impl_BlockersOf.l1 k x4 x6 x14 x15 x16 x20 x21 (wrap64 (x22 + 1)))) else (none)) else (none)) else (impl_BlockersOf.l0 k x4 x14 x15 (wrap64 (x16 + 1)))
end
def impl_BlockersOf.f (k : Nat) (a0_0 : Int) (l0_1 : List (List Int)) : Option (List Int × Bool) := (impl_ValidYard.f a0_0 l0_1).bind fun t400 => (if t400 = true then (impl_BlockersOf.l0 k (([] : List Int)) l0_1 (l0_1.length : Int) 0) else (some (([] : List Int), false)))
set_option maxHeartbeats 8000000 in
set_option maxRecDepth 100000 in
theorem impl_BlockersOf.calls (k : Nat) (a0_0 : Int) (A0_1 : Option Addr) (c0_1 : Nat) (l0_1 : List (List Int)) (r1 : List Int) (r2 : Bool) (w : World) (hr0_1 : Kd.C (Kd.slice 2 (Kd.int .i64)) w A0_1 l0_1.length l0_1) (hc0_1 : l0_1.length ≤ c0_1) (h : impl_BlockersOf.f k a0_0 l0_1 = some (r1, r2)) :
    Calls Try.prog 23 #[.agg #[.int .i64 a0_0, .slice A0_1 l0_1.length c0_1]] w fun e w' => ∃ v0_ : Value, e = .returned (.tuple #[v0_, .bool r2]) ∧ Kd.R (Kd.int .i64) 2 w' w.heap.size (fun _ => True) v0_ r1 ∧ Below w.heap.size w w' := by
  have hu27 := Try.underlying27
  have HR0_1 := Aside0.mk hr0_1
  have HC0_1 := Aside0.mk hc0_1
  clear hr0_1 hc0_1
  have HB := Aside0.mk (Below.refl w.heap.size w)
  have H : ((impl_ValidYard.f a0_0 l0_1).bind fun t400 => (if t400 = true then (impl_BlockersOf.l0 k (([] : List Int)) l0_1 (l0_1.length : Int) 0) else (some (([] : List Int), false)))) = some (r1, r2) := h
  clear h
  replace H := Option.bind_eq_some_iff.mp H
  obtain ⟨t400, A20, H⟩ := H
  replace H : (if t400 = true then (impl_BlockersOf.l0 k (([] : List Int)) l0_1 (l0_1.length : Int) 0) else (some (([] : List Int), false))) = some (r1, r2) := H
  have A2 := Aside0.mk A20
  clear A20
  by_cases c3 : t400 = true
  · subst c3
    have H1 : (impl_BlockersOf.l0 k (([] : List Int)) l0_1 (l0_1.length : Int) 0) = some (r1, r2) := by rw [if_pos rfl] at H; exact H
    clear H
    have H := H1
    clear H1
    obtain ⟨y401, hy401⟩ : ∃ y_ : List Int, y_ = (([] : List Int)) := ⟨_, rfl⟩
    replace H : (impl_BlockersOf.l0 k y401 l0_1 (l0_1.length : Int) 0) = some (r1, r2) := by first | (rw [hy401]; with_reducible exact H) | (have H2_ := (Option.bind_some _ _).symm.trans H; rw [hy401]; with_reducible exact H2_) | (have H2_ := (Option.bind_some _ _).symm.trans H; with_reducible exact H2_) | with_reducible exact H | (rw [hy401]; exact H) | exact H
    have Ny401 := Aside0.mk hy401
    clear hy401
    have H' := Aside0.mk H
    clear H
    go_enter Try.func23, Try.ntmps23
    go_wp2_with (first | ((with_reducible refine gate_dst (N := 1) rfl ?_); refine box_event ?hg (N := 1) ?hd (cs := #[.int .i64 a0_0, .slice A0_1 l0_1.length c0_1]) (t := 27) ?hr ?_; (case hd => rfl); (case hg => rfl); (case hr => first | (go_simp; done) | (go_simp; rfl)); intro gb399 hg w4 hbox hb; have n0_ := Aside0.mk (below_step (by repeat (first | (with_reducible first | exact HB.out | apply below_alloc | apply pw_below_drewN | apply below_drew1) | exact HB.out)) hb); have n1_ := Aside0.mk (hbox); have n2_ := Aside0.mk ((by rw [hg]; exact (below_size (by repeat (first | (with_reducible first | exact HB.out | apply below_alloc | apply pw_below_drewN | apply below_drew1) | exact HB.out))) : w.heap.size ≤ gb399)); have n3_ := Aside0.mk ((by rw [hg]; exact (below_size (by repeat (first | (with_reducible first | exact HB.out | apply below_alloc | apply pw_below_drewN | apply below_drew1) | exact HB.out))) : w.heap.size ≤ gb399)); clear HB; have HB := n0_; have BK399 := n1_; have GW399 := n2_; have GE399 := n3_; clear n0_ n1_ n2_ n3_; clear hb hbox hg; have hcz5_0 : w4.cell? ⟨gb399, 0, none⟩ = some (.int .i64 a0_0) := (blk_cell BK399.out 0).trans rfl; have hcz5_1 : w4.cell? ⟨gb399, 1, none⟩ = some (.slice A0_1 l0_1.length c0_1) := (blk_cell BK399.out 1).trans rfl; have hfz5_0 := blk_frozen BK399.out 0; have hfz5_1 := blk_frozen BK399.out 1) | ((with_reducible refine gate_callee (f := 13) rfl ?_); refine goesL_ (some 10) rfl rfl Try.func13 (by kernel_rfl) rfl #[.agg #[.int .i64 a0_0, .slice A0_1 l0_1.length c0_1]] rfl (by (try simp only [List.map_toArray, List.map_cons, List.map_nil]); first | done | rfl | (simp only [List.length_drop, List.length_take]; rfl)) ?_; (with_reducible refine (impl_ValidYard.calls a0_0 _ _ l0_1 true _ ?side1 ?side2 A2.out).mono ?_); (case side1 => repeat (first | exact (Kd.C_below HR0_1.out HB.out) | (with_reducible refine Kd.C_alloc ?_ _) | (with_reducible refine Kd.C_drewN ?_ _) | (with_reducible refine Kd.C_drew ?_))); (case side2 => exact HC0_1.out); rintro e w6 ⟨rfl, hb⟩; refine ⟨_, rfl, ?_⟩; have n0_ := Aside0.mk (blk_below (g := gb399) (o := .cells #[.int .i64 a0_0, .slice A0_1 l0_1.length c0_1] 27 (0, 0)) (by (with_reducible repeat (first | refine blk_drewN ?_ _ | refine blk_drew ?_ | refine blk_alloc ?_ _)); exact BK399.out) hb); have n1_ := Aside0.mk (below_step (by repeat (first | (with_reducible first | exact HB.out | apply below_alloc | apply pw_below_drewN | apply below_drew1 | refine below_set ?_ GE399.out) | exact HB.out)) hb); clear BK399; clear HB; have BK399 := n0_; have HB := n1_; clear n0_ n1_; (try clear hb); (try clear hb2); (try clear hk); (try clear hi)) | ((with_reducible refine gate_dst (N := 12) rfl ?_); refine Kd.R_lit (Kd.int .i64) _ 2 ?hg (N := 12) ?hd (xs := ([] : List Int)) (inner := []) (ok := fun _ => True) (okp := fun _ => True) ?hr ?hp (fun _ hk => hk) trivial (Below.refl _ _) (Nat.le_refl _) (by simp) ?_; (case hd => rfl); (case hg => rfl); (case hr => first | (go_simp; done) | (go_simp; rfl)); (case hp => exact (Reps.none _ _)); intro v402 w7 ho8 hb hg_ hnew_; clear hg_ hnew_; (first | rw [← Ny401.out] at ho8 | (simp only [Int.reduceToNat] at ho8; rw [← Ny401.out] at ho8)); have n0_ := Aside0.mk (Kd.R_lower ho8 (below_size (by repeat (first | (with_reducible first | exact HB.out | apply below_alloc | apply pw_below_drewN | apply below_drew1 | refine below_set ?_ GE399.out) | exact HB.out)))); have n1_ := Aside0.mk (blk_below (g := gb399) (o := .cells #[.int .i64 a0_0, .slice A0_1 l0_1.length c0_1] 27 (0, 0)) (by (with_reducible repeat (first | refine blk_drewN ?_ _ | refine blk_drew ?_ | refine blk_alloc ?_ _)); exact BK399.out) hb); have n2_ := Aside0.mk (below_step (by repeat (first | (with_reducible first | exact HB.out | apply below_alloc | apply pw_below_drewN | apply below_drew1 | refine below_set ?_ GE399.out) | exact HB.out)) hb); clear BK399; clear HB; have HO403 := n0_; have BK399 := n1_; have HB := n2_; clear n0_ n1_ n2_; clear hb ho8; have hcz9_0 : w7.cell? ⟨gb399, 0, none⟩ = some (.int .i64 a0_0) := (blk_cell BK399.out 0).trans rfl; have hcz9_1 : w7.cell? ⟨gb399, 1, none⟩ = some (.slice A0_1 l0_1.length c0_1) := (blk_cell BK399.out 1).trans rfl; have hfz9_0 := blk_frozen BK399.out 0; have hfz9_1 := blk_frozen BK399.out 1))
    go_loopg [4, 16] k (fun kq v4 v16 w' => ∃ (x4_1 : List Int) (x16_1 : Int), v16 = .int .i64 x16_1 ∧ Aside0 (impl_BlockersOf.l0 kq x4_1 l0_1 (l0_1.length : Int) x16_1 = some (r1, r2)) ∧ Aside0 (kq ≤ k) ∧ Aside0 (Kd.R (Kd.int .i64) 2 w' w.heap.size (fun _ => True) v4 x4_1) ∧ Aside0 (w'.heap[gb399]? = some (.cells #[.int .i64 a0_0, (.slice A0_1 l0_1.length c0_1)] 27 (0, 0))) ∧ Aside0 (Below w.heap.size w w'))
    case atStart => exact ⟨(y401), (0), (by first | rfl | (simp; done) | (simp [*]; done)), H', ⟨Nat.le_refl _⟩, ⟨by (with_reducible repeat (first | apply Kd.R_alloc | apply Kd.R_drewN | apply Kd.R_drew)); exact HO403.out⟩, ⟨by (with_reducible repeat (first | refine blk_drewN ?_ _ | refine blk_drew ?_ | refine blk_alloc ?_ _)); exact BK399.out⟩, ⟨by repeat (first | (with_reducible first | exact HB.out | apply below_alloc | apply pw_below_drewN | apply below_drew1 | refine below_set ?_ GE399.out) | exact HB.out)⟩⟩
    case round =>
      clear H'
      try clear c1
      try clear c2
      try clear p2
      try clear c3
      try clear hcz5_0
      try clear hcz5_1
      try clear hcz9_0
      try clear hcz9_1
      try clear hfz5_0
      try clear hfz5_1
      try clear hfz9_0
      try clear hfz9_1
      obtain ⟨x4_1, x16_1, rfl, HA, HK1, HO_4, BK399, HB⟩ := hrel
      cases gk with
      | zero => exact absurd HA.out (by simp [impl_BlockersOf.l0])
      | succ k1 =>
        have H := HA.out
        clear HA
        simp only [impl_BlockersOf.l0] at H
        by_cases c10 : x16_1 < (l0_1.length : Int)
        · rw [if_pos c10] at H
          have c10b0 : decide (x16_1 < (l0_1.length : Int)) = true := decide_eq_true c10
          clear c10
          by_cases c11 : 0 ≤ x16_1
          · rw [if_pos c11] at H
            have c11b0 : decide (0 ≤ x16_1) = true := decide_eq_true c11
            clear c11
            by_cases c12 : x16_1 < (l0_1.length : Int)
            · rw [if_pos c12] at H
              have c12b0 : decide (x16_1 < (l0_1.length : Int)) = true := decide_eq_true c12
              clear c12
              have H' := Aside0.mk H
              clear H
              have p405 : 0 ≤ (x16_1 : Int) := of_decide_eq_true (by first | (with_reducible assumption) | assumption)
              have q405 : x16_1 < (l0_1.length : Int) := of_decide_eq_true (by first | (with_reducible assumption) | assumption)
              obtain ⟨ad405, A405_0, c405_0, e405, hx405_0, hl405_0, hi405_0⟩ := at_L1 HR0_1.out x16_1 p405 q405
              cases e405
              replace hx405_0 := (HB.out.cell (World.block_lt_of_cell? w _ hx405_0)).trans hx405_0
              have HR405_0 := Aside0.mk hi405_0
              have HC405_0 := Aside0.mk hl405_0
              clear hi405_0 hl405_0
              replace p405 := eq_true p405
              replace q405 := eq_true q405
              go_wp2
              go_loopg [4, 22] k1 (fun kq v4 v22 w' => ∃ (x4_2 : List Int) (x22_2 : Int), v22 = .int .i64 x22_2 ∧ Aside0 (impl_BlockersOf.l1 kq x4_2 (rd_L1 l0_1 x16_1) l0_1 (l0_1.length : Int) x16_1 (rd_L1 l0_1 x16_1) ((rd_L1 l0_1 x16_1).length : Int) x22_2 = some (r1, r2)) ∧ Aside0 (kq ≤ k1) ∧ Aside0 (Kd.R (Kd.int .i64) 2 w' w.heap.size (fun _ => True) v4 x4_2) ∧ Aside0 (w'.heap[gb399]? = some (.cells #[.int .i64 a0_0, (.slice (some ad405) l0_1.length c0_1)] 27 (0, 0))) ∧ Aside0 (Below w.heap.size w w'))
              case atStart => exact ⟨(x4_1), (0), (by first | rfl | (simp; done) | (simp [*]; done)), H', ⟨Nat.le_refl _⟩, ⟨by (with_reducible repeat (first | apply Kd.R_alloc | apply Kd.R_drewN | apply Kd.R_drew)); exact HO_4.out⟩, ⟨by (with_reducible repeat (first | refine blk_drewN ?_ _ | refine blk_drew ?_ | refine blk_alloc ?_ _)); exact BK399.out⟩, ⟨by repeat (first | (with_reducible first | exact HB.out | apply below_alloc | apply pw_below_drewN | apply below_drew1 | refine below_set ?_ GE399.out) | exact HB.out)⟩⟩
              case round =>
                clear H'
                try clear c1
                try clear c2
                try clear p2
                try clear c3
                try clear c4
                try clear p4
                try clear q4
                try clear hx4
                try clear c10
                try clear c10b0
                try clear c11
                try clear c11b0
                try clear c12
                try clear c12b0
                try clear hcz5_0
                try clear hcz5_1
                try clear hcz9_0
                try clear hcz9_1
                try clear hfz5_0
                try clear hfz5_1
                try clear hfz9_0
                try clear hfz9_1
                try clear hx405_0
                try clear p2
                try clear p405
                try clear q405
                obtain ⟨x4_2, x22_2, rfl, HA, HK2, HO_4, BK399, HB⟩ := hrel
                cases gk with
                | zero => exact absurd HA.out (by simp [impl_BlockersOf.l1])
                | succ k2 =>
                  have H := HA.out
                  clear HA
                  simp only [impl_BlockersOf.l1] at H
                  by_cases c13 : x22_2 < ((rd_L1 l0_1 x16_1).length : Int)
                  · rw [if_pos c13] at H
                    have c13b0 : decide (x22_2 < ((rd_L1 l0_1 x16_1).length : Int)) = true := decide_eq_true c13
                    clear c13
                    by_cases c14 : 0 ≤ x22_2
                    · rw [if_pos c14] at H
                      have c14b0 : decide (0 ≤ x22_2) = true := decide_eq_true c14
                      clear c14
                      by_cases c15 : x22_2 < ((rd_L1 l0_1 x16_1).length : Int)
                      · rw [if_pos c15] at H
                        have c15b0 : decide (x22_2 < ((rd_L1 l0_1 x16_1).length : Int)) = true := decide_eq_true c15
                        clear c15
                        by_cases c16 : x22_2 > 0
                        · rw [if_pos c16] at H
                          have c16b0 : decide (0 < x22_2) = true := decide_eq_true c16
                          clear c16
                          have c17b0 := eq_true (of_decide_eq_true (by first | (with_reducible assumption) | assumption) : 0 ≤ x22_2)
                          by_cases c18 : x22_2 ≤ ((rd_L1 l0_1 x16_1).length : Int)
                          · rw [if_pos c18] at H
                            have c18b0 := eq_true c18
                            have c18b1 : decide (x22_2 ≤ ((rd_L1 l0_1 x16_1).length : Int)) = true := decide_eq_true c18
                            clear c18
                            replace H := Option.bind_eq_some_iff.mp H
                            obtain ⟨t408, A190, H⟩ := H
                            replace H : (if t408 < (rd (rd_L1 l0_1 x16_1) x22_2) then (if x4_2.length < 17592186044416 then (impl_BlockersOf.l1 k2 (x4_2 ++ [rd (rd_L1 l0_1 x16_1) x22_2]) (rd_L1 l0_1 x16_1) l0_1 (l0_1.length : Int) x16_1 (rd_L1 l0_1 x16_1) ((rd_L1 l0_1 x16_1).length : Int) (wrap64 (x22_2 + 1))) else (none)) else (impl_BlockersOf.l1 k2 x4_2 (rd_L1 l0_1 x16_1) l0_1 (l0_1.length : Int) x16_1 (rd_L1 l0_1 x16_1) ((rd_L1 l0_1 x16_1).length : Int) (wrap64 (x22_2 + 1)))) = some (r1, r2) := H
                            have A19 := Aside0.mk A190
                            clear A190
                            by_cases c20 : t408 < (rd (rd_L1 l0_1 x16_1) x22_2)
                            · rw [if_pos c20] at H
                              have c20b0 : decide (t408 < (rd (rd_L1 l0_1 x16_1) x22_2)) = true := decide_eq_true c20
                              clear c20
                              by_cases c21 : x4_2.length < 17592186044416
                              · rw [if_pos c21] at H
                                have LMc21 := Aside0.mk c21
                                clear c21
                                obtain ⟨y409, hy409⟩ : ∃ y_ : List Int, y_ = (x4_2 ++ [rd (rd_L1 l0_1 x16_1) x22_2]) := ⟨_, rfl⟩
                                replace H : (impl_BlockersOf.l1 k2 y409 (rd_L1 l0_1 x16_1) l0_1 (l0_1.length : Int) x16_1 (rd_L1 l0_1 x16_1) ((rd_L1 l0_1 x16_1).length : Int) (wrap64 (x22_2 + 1))) = some (r1, r2) := by first | (rw [hy409]; with_reducible exact H) | (have H2_ := (Option.bind_some _ _).symm.trans H; rw [hy409]; with_reducible exact H2_) | (have H2_ := (Option.bind_some _ _).symm.trans H; with_reducible exact H2_) | with_reducible exact H | (rw [hy409]; exact H) | exact H
                                have Ny409 := Aside0.mk hy409
                                clear hy409
                                have H' := Aside0.mk H
                                clear H
                                have p406 : 0 ≤ (x22_2 : Int) := of_decide_eq_true (by first | (with_reducible assumption) | assumption)
                                have q406 : x22_2 < ((rd_L1 l0_1 x16_1).length : Int) := of_decide_eq_true (by first | (with_reducible assumption) | assumption)
                                obtain ⟨ad406, e406, hx406_0⟩ := Kd.at_int HR405_0.out x22_2 p406 q406
                                cases e406
                                replace hx406_0 := (HB.out.cell (World.block_lt_of_cell? w _ hx406_0)).trans hx406_0
                                replace p406 := eq_true p406
                                replace q406 := eq_true q406
                                obtain ⟨i022, hi022, _, hsz22, _⟩ := info_parts info2
                                obtain ⟨hcut22, hA22, hC22⟩ := print_take_of (P := Try.prog) (Value.int .i64) 0 31 2 .i64 Try.underlying31 hi022 hsz22 (some ad406) c405_0 (rd_L1 l0_1 x16_1) x22_2 (of_decide_eq_true (by first | (with_reducible assumption) | assumption)) (of_decide_eq_true (by first | (with_reducible assumption) | assumption)) HC405_0.out
                                have HR407 := Aside0.mk (Kd.C_of_reads (h1 := fun _ => rfl) (hA22 _ (Kd.reads_of_C HR405_0.out)))
                                have HC407 := Aside0.mk hC22
                                clear hA22 hC22 hi022 hsz22
                                go_wp2_with (first | (go_at_call 46; refine calls_of_args (args' := #[.slice (some ad406) ((rd_L1 l0_1 x16_1).take (x22_2 : Int).toNat).length c405_0]) (by have p_ := of_eq_true p406; have q_ := of_eq_true q406; rw [List.length_take, Nat.min_eq_left (by omega)]) ?_; (with_reducible refine (slices_Min_int64_int64.calls _ _ ((rd_L1 l0_1 x16_1).take (x22_2 : Int).toNat) t408 _ ?side1 ?side2 A19.out).mono ?_); (case side1 => repeat (first | exact (Kd.C_below HR407.out HB.out) | (with_reducible refine Kd.C_alloc ?_ _) | (with_reducible refine Kd.C_drewN ?_ _) | (with_reducible refine Kd.C_drew ?_))); (case side2 => exact HC407.out); rintro e w23 ⟨rfl, hb⟩; have n0_ := Aside0.mk (Kd.R_below (by (with_reducible repeat (first | apply Kd.R_alloc | apply Kd.R_drewN | apply Kd.R_drew)); exact HO_4.out) hb); have n1_ := Aside0.mk (blk_below (g := gb399) (o := .cells #[.int .i64 a0_0, .slice (some ad405) l0_1.length c0_1] 27 (0, 0)) (by (with_reducible repeat (first | refine blk_drewN ?_ _ | refine blk_drew ?_ | refine blk_alloc ?_ _)); exact BK399.out) hb); have n2_ := Aside0.mk (below_step (by repeat (first | (with_reducible first | exact HB.out | apply below_alloc | apply pw_below_drewN | apply below_drew1 | refine below_set ?_ GE399.out) | exact HB.out)) hb); clear HO_4; clear BK399; clear HB; have HO_4 := n0_; have BK399 := n1_; have HB := n2_; clear n0_ n1_ n2_; (try clear hb); (try clear hb2); (try clear hk); (try clear hi)) | ((with_reducible refine gate_builtin (b := .append) (xs := #[.tmp 37, .tmp 39]) rfl ?_); at_builtin; refine Kd.R_append (Kd.int .i64) (w0 := w) w.heap.size rfl (.tmp 37) (.tmp 39) 31 2 (.int .i64 0) 8 rfl Try.underlying31 info2 rfl (by decide) (by omega) u4 x4_2 (rd (rd_L1 l0_1 x16_1) x22_2) [.int .i64 (rd (rd_L1 l0_1 x16_1) x22_2)] (fun _ => True) (fun _ => False) rfl rfl ?aP (fun _ hk => hk.elim) ?aF ?aO ?aB ?aS ?aL ?_; (case aP => exact rfl); (case aB => exact (by repeat (first | (with_reducible first | exact HB.out | apply below_alloc | apply pw_below_drewN | apply below_drew1 | refine below_set ?_ GE399.out) | exact HB.out))); (case aF => exact (fun _ _ => trivial)); (case aO => exact (by (with_reducible repeat (first | apply Kd.R_alloc | apply Kd.R_drewN | apply Kd.R_drew)); exact HO_4.out)); (case aS => exact (below_size (by repeat (first | (with_reducible first | exact HB.out | apply below_alloc | apply pw_below_drewN | apply below_drew1 | refine below_set ?_ GE399.out) | exact HB.out)))); (case aL => have := LMc21.out; omega); intro v410 w24 ho hb hg hat; rw [← Ny409.out] at ho; have n0_ := Aside0.mk (blk_grown (g := gb399) (o := .cells #[.int .i64 a0_0, .slice (some ad405) l0_1.length c0_1] 27 (0, 0)) (by (with_reducible repeat (first | refine blk_drewN ?_ _ | refine blk_drew ?_ | refine blk_alloc ?_ _)); exact BK399.out) hg (Kd.R_ne HO_4.out BK399.out (by decide))); have n1_ := Aside0.mk (hb); have n2_ := Aside0.mk (ho); clear BK399; clear HB; clear HO_4; have BK399 := n0_; have HB := n1_; have HO411 := n2_; clear n0_ n1_ n2_; clear ho hb hg hat))
                                go_roundg k2
                                case measure => have := HK1.out; have := HK2.out; omega
                                case rel => exact ⟨(y409), (wrap64 (x22_2 + 1)), (by first | rfl | (simp; done) | (simp [*]; done)), H', ⟨by have := HK1.out; have := HK2.out; omega⟩, ⟨by (with_reducible repeat (first | apply Kd.R_alloc | apply Kd.R_drewN | apply Kd.R_drew)); exact HO411.out⟩, ⟨by (with_reducible repeat (first | refine blk_drewN ?_ _ | refine blk_drew ?_ | refine blk_alloc ?_ _)); exact BK399.out⟩, ⟨by repeat (first | (with_reducible first | exact HB.out | apply below_alloc | apply pw_below_drewN | apply below_drew1 | refine below_set ?_ GE399.out) | exact HB.out)⟩⟩
                              · rw [if_neg c21] at H
                                exact absurd H (by simp)
                            · rw [if_neg c20] at H
                              have c20b0 : decide (t408 < (rd (rd_L1 l0_1 x16_1) x22_2)) = false := decide_eq_false c20
                              clear c20
                              have H' := Aside0.mk H
                              clear H
                              have p406 : 0 ≤ (x22_2 : Int) := of_decide_eq_true (by first | (with_reducible assumption) | assumption)
                              have q406 : x22_2 < ((rd_L1 l0_1 x16_1).length : Int) := of_decide_eq_true (by first | (with_reducible assumption) | assumption)
                              obtain ⟨ad406, e406, hx406_0⟩ := Kd.at_int HR405_0.out x22_2 p406 q406
                              cases e406
                              replace hx406_0 := (HB.out.cell (World.block_lt_of_cell? w _ hx406_0)).trans hx406_0
                              replace p406 := eq_true p406
                              replace q406 := eq_true q406
                              obtain ⟨i025, hi025, _, hsz25, _⟩ := info_parts info2
                              obtain ⟨hcut25, hA25, hC25⟩ := print_take_of (P := Try.prog) (Value.int .i64) 0 31 2 .i64 Try.underlying31 hi025 hsz25 (some ad406) c405_0 (rd_L1 l0_1 x16_1) x22_2 (of_decide_eq_true (by first | (with_reducible assumption) | assumption)) (of_decide_eq_true (by first | (with_reducible assumption) | assumption)) HC405_0.out
                              have HR407 := Aside0.mk (Kd.C_of_reads (h1 := fun _ => rfl) (hA25 _ (Kd.reads_of_C HR405_0.out)))
                              have HC407 := Aside0.mk hC25
                              clear hA25 hC25 hi025 hsz25
                              go_wp2_with (first | (go_at_call 46; refine calls_of_args (args' := #[.slice (some ad406) ((rd_L1 l0_1 x16_1).take (x22_2 : Int).toNat).length c405_0]) (by have p_ := of_eq_true p406; have q_ := of_eq_true q406; rw [List.length_take, Nat.min_eq_left (by omega)]) ?_; (with_reducible refine (slices_Min_int64_int64.calls _ _ ((rd_L1 l0_1 x16_1).take (x22_2 : Int).toNat) t408 _ ?side1 ?side2 A19.out).mono ?_); (case side1 => repeat (first | exact (Kd.C_below HR407.out HB.out) | (with_reducible refine Kd.C_alloc ?_ _) | (with_reducible refine Kd.C_drewN ?_ _) | (with_reducible refine Kd.C_drew ?_))); (case side2 => exact HC407.out); rintro e w26 ⟨rfl, hb⟩; have n0_ := Aside0.mk (Kd.R_below (by (with_reducible repeat (first | apply Kd.R_alloc | apply Kd.R_drewN | apply Kd.R_drew)); exact HO_4.out) hb); have n1_ := Aside0.mk (blk_below (g := gb399) (o := .cells #[.int .i64 a0_0, .slice (some ad405) l0_1.length c0_1] 27 (0, 0)) (by (with_reducible repeat (first | refine blk_drewN ?_ _ | refine blk_drew ?_ | refine blk_alloc ?_ _)); exact BK399.out) hb); have n2_ := Aside0.mk (below_step (by repeat (first | (with_reducible first | exact HB.out | apply below_alloc | apply pw_below_drewN | apply below_drew1 | refine below_set ?_ GE399.out) | exact HB.out)) hb); clear HO_4; clear BK399; clear HB; have HO_4 := n0_; have BK399 := n1_; have HB := n2_; clear n0_ n1_ n2_; (try clear hb); (try clear hb2); (try clear hk); (try clear hi)))
                              go_roundg k2
                              case measure => have := HK1.out; have := HK2.out; omega
                              case rel => exact ⟨(x4_2), (wrap64 (x22_2 + 1)), (by first | rfl | (simp; done) | (simp [*]; done)), H', ⟨by have := HK1.out; have := HK2.out; omega⟩, ⟨by (with_reducible repeat (first | apply Kd.R_alloc | apply Kd.R_drewN | apply Kd.R_drew)); exact HO_4.out⟩, ⟨by (with_reducible repeat (first | refine blk_drewN ?_ _ | refine blk_drew ?_ | refine blk_alloc ?_ _)); exact BK399.out⟩, ⟨by repeat (first | (with_reducible first | exact HB.out | apply below_alloc | apply pw_below_drewN | apply below_drew1 | refine below_set ?_ GE399.out) | exact HB.out)⟩⟩
                          · rw [if_neg c18] at H
                            exact absurd H (by simp)
                        · rw [if_neg c16] at H
                          have c16b0 : decide (0 < x22_2) = false := decide_eq_false c16
                          clear c16
                          have H' := Aside0.mk H
                          clear H
                          have p406 : 0 ≤ (x22_2 : Int) := of_decide_eq_true (by first | (with_reducible assumption) | assumption)
                          have q406 : x22_2 < ((rd_L1 l0_1 x16_1).length : Int) := of_decide_eq_true (by first | (with_reducible assumption) | assumption)
                          obtain ⟨ad406, e406, hx406_0⟩ := Kd.at_int HR405_0.out x22_2 p406 q406
                          cases e406
                          replace hx406_0 := (HB.out.cell (World.block_lt_of_cell? w _ hx406_0)).trans hx406_0
                          replace p406 := eq_true p406
                          replace q406 := eq_true q406
                          go_wp2
                          go_roundg k2
                          case measure => have := HK1.out; have := HK2.out; omega
                          case rel => exact ⟨(x4_2), (wrap64 (x22_2 + 1)), (by first | rfl | (simp; done) | (simp [*]; done)), H', ⟨by have := HK1.out; have := HK2.out; omega⟩, ⟨by (with_reducible repeat (first | apply Kd.R_alloc | apply Kd.R_drewN | apply Kd.R_drew)); exact HO_4.out⟩, ⟨by (with_reducible repeat (first | refine blk_drewN ?_ _ | refine blk_drew ?_ | refine blk_alloc ?_ _)); exact BK399.out⟩, ⟨by repeat (first | (with_reducible first | exact HB.out | apply below_alloc | apply pw_below_drewN | apply below_drew1 | refine below_set ?_ GE399.out) | exact HB.out)⟩⟩
                      · rw [if_neg c15] at H
                        exact absurd H (by simp)
                    · rw [if_neg c14] at H
                      exact absurd H (by simp)
                  · rw [if_neg c13] at H
                    have c13b0 : decide (x22_2 < ((rd_L1 l0_1 x16_1).length : Int)) = false := decide_eq_false c13
                    clear c13
                    have H' := Aside0.mk H
                    clear H
                    go_wp2
                    go_roundg k2
                    case measure => have := HK1.out; have := HK2.out; omega
                    case rel => exact ⟨(x4_2), (wrap64 (x16_1 + 1)), (by first | rfl | (simp; done) | (simp [*]; done)), H', ⟨by have := HK1.out; have := HK2.out; omega⟩, ⟨by (with_reducible repeat (first | apply Kd.R_alloc | apply Kd.R_drewN | apply Kd.R_drew)); exact HO_4.out⟩, ⟨by (with_reducible repeat (first | refine blk_drewN ?_ _ | refine blk_drew ?_ | refine blk_alloc ?_ _)); exact BK399.out⟩, ⟨by repeat (first | (with_reducible first | exact HB.out | apply below_alloc | apply pw_below_drewN | apply below_drew1 | refine below_set ?_ GE399.out) | exact HB.out)⟩⟩
            · rw [if_neg c12] at H
              exact absurd H (by simp)
          · rw [if_neg c11] at H
            exact absurd H (by simp)
        · rw [if_neg c10] at H
          have c10b0 : decide (x16_1 < (l0_1.length : Int)) = false := decide_eq_false c10
          clear c10
          replace H := Option.bind_eq_some_iff.mp H
          obtain ⟨t404, A270, H⟩ := H
          replace H : (some (t404, true)) = some (r1, r2) := H
          have A27 := Aside0.mk A270
          clear A270
          simp only [Option.some.injEq, Prod.mk.injEq] at H
          obtain ⟨rfl, rfl⟩ := H
          obtain ⟨Ao28, co28, eo28⟩ := Kd.R_slice HO_4.out
          subst eo28
          go_wp2_with (first | ((with_reducible refine gate_callee (f := 47) rfl ?_); refine goesL_ (some 44) rfl rfl Try.func47 (by kernel_rfl) rfl #[.slice Ao28 x4_1.length co28] rfl (by (try simp only [List.map_toArray, List.map_cons, List.map_nil]); first | done | rfl | (simp only [List.length_drop, List.length_take]; rfl)) ?_; (with_reducible refine (slices_Sort_int64_int64.calls (fun k_ => some k_ = (.slice Ao28 x4_1.length co28 : Value).ownBlock) (.slice Ao28 x4_1.length co28) x4_1 t404 w _ ?side1 ?side2 A27.out).mono ?_); (case side1 => repeat (first | (with_reducible first | exact HB.out | apply below_alloc | apply pw_below_drewN | apply below_drew1 | refine below_set ?_ GE399.out) | exact HB.out)); (case side2 => exact Kd.R_tight rfl HO_4.out); rintro e w29 ⟨rfl, hy0, hb, hkp⟩; refine ⟨_, rfl, ?_⟩; have n0_ := Aside0.mk (Kd.R_reok rfl hy0 (fun k_ e_ => HO_4.out.1 k_ e_)); have n1_ := Aside0.mk (blk_kept (by (with_reducible repeat (first | refine blk_drewN ?_ _ | refine blk_drew ?_ | refine blk_alloc ?_ _)); exact BK399.out) hkp (fun hs_ => (fun e_ => (Kd.R_ne HO_4.out BK399.out (by decide)) e_) hs_)); have n2_ := Aside0.mk (hb); clear HO_4; clear BK399; clear HB; have HO_4 := n0_; have BK399 := n1_; have HB := n2_; clear n0_ n1_ n2_; (try clear hb); (try clear hkp); (try clear hy0)))
          go_ret2
          exact ⟨_, by first | rfl | (simp [errW_none, errW_some] <;> rfl) | (simp [*, errW_none, errW_some] <;> rfl), by (with_reducible repeat (first | apply Kd.R_alloc | apply Kd.R_drewN | apply Kd.R_drew)); exact HO_4.out, by repeat (first | (with_reducible first | exact HB.out | apply below_alloc | apply pw_below_drewN | apply below_drew1 | refine below_set ?_ GE399.out) | exact HB.out)⟩
  · replace c3 := Bool.eq_false_iff.mpr c3
    subst c3
    have H1 : (some (([] : List Int), false)) = some (r1, r2) := by rw [if_neg (show ¬ (false = true) by decide)] at H; exact H
    clear H
    have H := H1
    clear H1
    simp only [Option.some.injEq, Prod.mk.injEq] at H
    obtain ⟨rfl, rfl⟩ := H
    go_enter Try.func23, Try.ntmps23
    go_wp2_with (first | ((with_reducible refine gate_dst (N := 1) rfl ?_); refine box_event ?hg (N := 1) ?hd (cs := #[.int .i64 a0_0, .slice A0_1 l0_1.length c0_1]) (t := 27) ?hr ?_; (case hd => rfl); (case hg => rfl); (case hr => first | (go_simp; done) | (go_simp; rfl)); intro gb399 hg w30 hbox hb; have n0_ := Aside0.mk (below_step (by repeat (first | (with_reducible first | exact HB.out | apply below_alloc | apply pw_below_drewN | apply below_drew1) | exact HB.out)) hb); have n1_ := Aside0.mk (hbox); have n2_ := Aside0.mk ((by rw [hg]; exact (below_size (by repeat (first | (with_reducible first | exact HB.out | apply below_alloc | apply pw_below_drewN | apply below_drew1) | exact HB.out))) : w.heap.size ≤ gb399)); have n3_ := Aside0.mk ((by rw [hg]; exact (below_size (by repeat (first | (with_reducible first | exact HB.out | apply below_alloc | apply pw_below_drewN | apply below_drew1) | exact HB.out))) : w.heap.size ≤ gb399)); clear HB; have HB := n0_; have BK399 := n1_; have GW399 := n2_; have GE399 := n3_; clear n0_ n1_ n2_ n3_; clear hb hbox hg; have hcz31_0 : w30.cell? ⟨gb399, 0, none⟩ = some (.int .i64 a0_0) := (blk_cell BK399.out 0).trans rfl; have hcz31_1 : w30.cell? ⟨gb399, 1, none⟩ = some (.slice A0_1 l0_1.length c0_1) := (blk_cell BK399.out 1).trans rfl; have hfz31_0 := blk_frozen BK399.out 0; have hfz31_1 := blk_frozen BK399.out 1) | ((with_reducible refine gate_callee (f := 13) rfl ?_); refine goesL_ (some 10) rfl rfl Try.func13 (by kernel_rfl) rfl #[.agg #[.int .i64 a0_0, .slice A0_1 l0_1.length c0_1]] rfl (by (try simp only [List.map_toArray, List.map_cons, List.map_nil]); first | done | rfl | (simp only [List.length_drop, List.length_take]; rfl)) ?_; (with_reducible refine (impl_ValidYard.calls a0_0 _ _ l0_1 false _ ?side1 ?side2 A2.out).mono ?_); (case side1 => repeat (first | exact (Kd.C_below HR0_1.out HB.out) | (with_reducible refine Kd.C_alloc ?_ _) | (with_reducible refine Kd.C_drewN ?_ _) | (with_reducible refine Kd.C_drew ?_))); (case side2 => exact HC0_1.out); rintro e w32 ⟨rfl, hb⟩; refine ⟨_, rfl, ?_⟩; have n0_ := Aside0.mk (blk_below (g := gb399) (o := .cells #[.int .i64 a0_0, .slice A0_1 l0_1.length c0_1] 27 (0, 0)) (by (with_reducible repeat (first | refine blk_drewN ?_ _ | refine blk_drew ?_ | refine blk_alloc ?_ _)); exact BK399.out) hb); have n1_ := Aside0.mk (below_step (by repeat (first | (with_reducible first | exact HB.out | apply below_alloc | apply pw_below_drewN | apply below_drew1 | refine below_set ?_ GE399.out) | exact HB.out)) hb); clear BK399; clear HB; have BK399 := n0_; have HB := n1_; clear n0_ n1_; (try clear hb); (try clear hb2); (try clear hk); (try clear hi)))
    go_ret2
    exact ⟨_, by first | rfl | (simp [errW_none, errW_some] <;> rfl) | (simp [*, errW_none, errW_some] <;> rfl), by first | exact Kd.R_nil _ _ _ _ _ | exact Kd.N_nil _ _ _ _ _ | exact Kd.V_nil _ _ _ _ _ | exact Kd.Q_nil _ _ _ _ _ | exact Kd.S_nil _ _ _ _ _, by repeat (first | (with_reducible first | exact HB.out | apply below_alloc | apply pw_below_drewN | apply below_drew1 | refine below_set ?_ GE399.out) | exact HB.out)⟩

end Go.Proofs.Ytibaiaenfeppcaa.Q

-- mended

/- Plain: the topmost lots and the blockers of a yard, by both sides. -/
namespace Go.Proofs.Ytibaiaenfeppcaa.PuTO
open Go.RowKit Go.Proofs.YtibaiaenfeppcaaW.PrintWords Go.Proofs.Ytibaiaenfeppcaa.Q Go.Proofs.Ytibaiaenfeppcaa.PuY
def topOf (s : List Int) : Int := if s.length = 0 then -1 else rd s ((s.length : Int) - 1)
/-- What a valid yard is. -/
theorem valid_parts {h : Int} {xs : List (List Int)} (hv : Yv.valid h xs = true) : 1 ≤ h ∧ h ≤ 4 ∧ 1 ≤ xs.length ∧ xs.length ≤ 4 ∧ (∀ r ∈ xs, (r.length : Int) ≤ h) ∧ xs.flatten.Nodup ∧ xs.flatten.length ≤ 7 ∧ (∀ x ∈ xs.flatten, 0 ≤ x ∧ x ≤ 99) := by
  unfold Yv.valid Ha.inB Ha.areIn at hv
  simp only [Bool.and_eq_true, decide_eq_true_eq, List.all_eq_true] at hv
  obtain ⟨⟨a1, a2⟩, ⟨b1, b2⟩, c, d, e, f⟩ := hv
  refine ⟨a1, a2, by omega, by omega, c, d, by omega, fun x hx => ?_⟩
  have := f x hx
  unfold Ha.inB at this
  simpa using this
def topsR (h : Int) (xs : List (List Int)) : List Int := if Yv.valid h xs = true then xs.map topOf else []
/-! blockers -/
/-- The lots of a stack that lie above lesser ones; pre: those below. -/
def blk (pre : List Int) : List Int → List Int
  | [] => []
  | x :: t => (if pre.any (fun y => decide (y < x)) then [x] else []) ++ blk (pre ++ [x]) t
theorem blk_sub (l : List Int) : ∀ pre, (blk pre l).Sublist l := by
  induction l with
  | nil => intro pre; exact List.Sublist.refl _
  | cons x t ih =>
    intro pre
    unfold blk
    split
    · exact (ih _).cons_cons x
    · exact (ih _).cons x
def blkAll (xs : List (List Int)) : List Int := (xs.map (blk [])).flatten
theorem blkAll_cons (r : List Int) (rest : List (List Int)) : blkAll (r :: rest) = blk [] r ++ blkAll rest := rfl
/-- A number to its place among rising ones, once. -/
def put : List Int → Int → List Int
  | [], x => [x]
  | y :: t, x => if y < x then y :: put t x else if x < y then x :: y :: t else y :: t
def least (pre : List Int) : Int := pre.foldl min 100
theorem minOf_any (pre : List Int) (x : Int) (hp : 0 < pre.length) : decide (Yv.minOf pre < x) = pre.any (fun y => decide (y < x)) := by
  cases pre with
  | nil => simp at hp
  | cons a t =>
    have key : ∀ (t : List Int) (m : Int), (t.foldl (fun m y => if y < m then y else m) m < x) ↔ (m < x ∨ ∃ y ∈ t, y < x) := by
      intro t
      induction t with
      | nil => intro m; simp
      | cons y t ih =>
        intro m
        rw [List.foldl_cons, ih]
        constructor
        · rintro (h | ⟨z, hz, h⟩)
          · by_cases hm : m < x
            · exact .inl hm
            · split at h
              · exact .inr ⟨y, by simp, h⟩
              · exact absurd h hm
          · exact .inr ⟨z, by simp [hz], h⟩
        · rintro (h | ⟨z, hz, h⟩)
          · refine .inl ?_
            split <;> omega
          · rcases List.mem_cons.1 hz with rfl | hz
            · refine .inl ?_
              split <;> omega
            · exact .inr ⟨z, hz, h⟩
    rw [Bool.eq_iff_iff, decide_eq_true_eq, List.any_eq_true]
    simp only [Yv.minOf, key, decide_eq_true_eq, List.mem_cons]
    constructor
    · rintro (h | ⟨y, hy, h⟩)
      · exact ⟨a, .inl rfl, h⟩
      · exact ⟨y, .inr hy, h⟩
    · rintro ⟨y, rfl | hy, h⟩
      · exact .inl h
      · exact .inr ⟨y, hy, h⟩
theorem implRow_loop (xs : List (List Int)) (i : Nat) (s : List Int) (hrl : s.length ≤ 4) (K0 : Nat) (res : List Int × Bool) (acc0 : List Int)
    (hnext : ∀ k, K0 ≤ k → impl_BlockersOf.l0 k (acc0 ++ blk [] s) xs (xs.length : Int) ((i + 1 : Nat) : Int) = some res) (hil : i ≤ 4) :
    ∀ (d k j : Nat) (acc : List Int), j + d = s.length → K0 + d + 1 ≤ k → acc.length + d ≤ 100000 → acc ++ blk (s.take j) (s.drop j) = acc0 ++ blk [] s →
      impl_BlockersOf.l1 k acc s xs (xs.length : Int) (i : Int) s (s.length : Int) (j : Int) = some res := by
  intro d
  induction d with
  | zero =>
    intro k j acc hj hk ha he
    obtain ⟨k, rfl⟩ : ∃ m, k = m + 1 := ⟨k - 1, by omega⟩
    simp only [impl_BlockersOf.l1]
    rw [if_neg (by omega), wrap_succ i (by omega)]
    rw [List.drop_eq_nil_of_le (by omega)] at he
    simp only [blk, List.append_nil] at he
    rw [he]
    exact hnext k (by omega)
  | succ d ih =>
    intro k j acc hj hk ha he
    obtain ⟨k, rfl⟩ : ∃ m, k = m + 1 := ⟨k - 1, by omega⟩
    have hlt : j < s.length := by omega
    have htk : s.take (j + 1) = s.take j ++ [s[j]] := List.take_succ_eq_append_getElem hlt
    rw [List.drop_eq_getElem_cons hlt] at he
    simp only [blk] at he
    rw [← htk] at he
    simp only [impl_BlockersOf.l1]
    rw [if_pos (by omega), if_pos (by omega), if_pos (by omega), wrap_succ j (by omega), rd_at _ j hlt]
    by_cases h0 : j = 0
    · subst h0
      rw [if_neg (by omega)]
      refine ih k 1 acc (by omega) (by omega) (by omega) ?_
      simpa using he
    · have hm := minOf_any (s.take j) s[j] (by rw [List.length_take]; omega)
      rw [← hm] at he
      rw [if_pos (by omega), if_pos (by omega), Int.toNat_natCast]
      simp only [slices_Min_int64_int64.f]
      rw [if_pos (by rw [List.length_take]; omega)]
      simp only [Option.bind_some]
      by_cases hc : Yv.minOf (s.take j) < s[j]
      · rw [if_pos hc, if_pos (by omega)]
        rw [if_pos (by simpa using hc), ← List.append_assoc] at he
        exact ih k (j + 1) _ (by omega) (by omega) (by simp; omega) he
      · rw [if_neg hc]
        rw [if_neg (by simpa using hc), List.nil_append] at he
        exact ih k (j + 1) _ (by omega) (by omega) (by omega) he
theorem implBlk_loop (xs : List (List Int)) (hxl : xs.length ≤ 4) (hr : ∀ r ∈ xs, r.length ≤ 4) : ∀ (d i k : Nat) (acc : List Int), i + d = xs.length → 100 + 10 * d < k → acc.length ≤ 4 * i →
    impl_BlockersOf.l0 k acc xs (xs.length : Int) (i : Int) = some (Sv.srt (acc ++ blkAll (xs.drop i)), true) := by
  intro d
  induction d with
  | zero =>
    intro i k acc hi hk ha
    obtain ⟨k, rfl⟩ : ∃ m, k = m + 1 := ⟨k - 1, by omega⟩
    simp only [impl_BlockersOf.l0, slices_Sort_int64_int64.f]
    rw [if_neg (by omega), if_pos (by omega), List.drop_eq_nil_of_le (by omega)]; simp [blkAll]
  | succ d ih =>
    intro i k acc hi hk ha
    obtain ⟨k, rfl⟩ : ∃ m, k = m + 1 := ⟨k - 1, by omega⟩
    have hlt : i < xs.length := by omega
    have hrl := hr _ (List.getElem_mem hlt)
    simp only [impl_BlockersOf.l0]
    rw [if_pos (by omega), if_pos (by omega), if_pos (by omega), rdL_at xs i hlt, List.drop_eq_getElem_cons hlt, blkAll_cons, ← List.append_assoc]
    refine implRow_loop xs i xs[i] hrl (100 + 10 * d + 1) _ acc (fun k hk => ?_) (by omega) xs[i].length k 0 acc (by omega) (by omega) (by omega) (by simp)
    refine ih (i + 1) k _ (by omega) (by omega) ?_
    have h2 := (blk_sub xs[i] []).length_le
    rw [List.length_append]; omega
def blkR (h : Int) (xs : List (List Int)) : List Int := if Yv.valid h xs = true then Sv.srt (blkAll xs) else []
theorem implBlk (h : Int) (xs : List (List Int)) (k : Nat) (hk : 1000 < k) : impl_BlockersOf.f k h xs = some (blkR h xs, Yv.valid h xs) := by
  simp only [impl_BlockersOf.f, impl_ValidYard.f, Option.bind_some, blkR]
  by_cases hv : Yv.valid h xs = true
  · obtain ⟨_, h2, _, h4, h5, _⟩ := valid_parts hv
    have := implBlk_loop xs h4 (fun r hr => by have := h5 r hr; omega) xs.length 0 k [] (by omega) (by omega) (by simp)
    rw [if_pos hv, if_pos hv, hv]
    simpa using this
  · rw [if_neg hv, if_neg hv]; simp at hv; rw [hv]
end Go.Proofs.Ytibaiaenfeppcaa.PuTO

/- Moving and taking, told once for all arguments, by both sides. -/
namespace Go.Proofs.Ytibaiaenfeppcaa.Yq
open Go Go.RowKit Go.Proofs.YtibaiaenfeppcaaW.PrintWords Go.Proofs.YtibaiaenfeppcaaW.PrintLast Go.Proofs.YtibaiaenfeppcaaW.PrintMore Go.Proofs.Ytibaiaenfeppcaa.Q Go.Proofs.Ytibaiaenfeppcaa.PuY Go.Proofs.Ytibaiaenfeppcaa.PuTO Go.Proofs.Ytibaiaenfeppcaa.Lw Go.Proofs.Ytibaiaenfeppcaa.Ow Go.Proofs.Ytibaiaenfeppcaa.Yo Go.Proofs.Ytibaiaenfeppcaa.Yt
set_option linter.unusedVariables false
/-- A move that can be made. -/
def moveB (h : Int) (xs : List (List Int)) (f t : Int) : Bool :=
  decide (0 ≤ f ∧ f < (xs.length : Int) ∧ 0 ≤ t ∧ t < (xs.length : Int) ∧ f ≠ t ∧ 0 < (xs.getD f.toNat []).length ∧ ((xs.getD t.toNat []).length : Int) < h)
def moveR (h : Int) (xs : List (List Int)) (f t : Int) : Option (List (List Int)) := if moveB h xs f t = true then some (moveRows xs f.toNat t.toNat) else none
/-- A yard's height and rows, where there is one. -/
def hR (h : Int) (o : Option (List (List Int))) : Int × List (List Int) := match o with | some ys => (h, ys) | none => (0, [])
/-- What is handed back where a yard may come out. -/
def Out (h : Int) (o : Option (List (List Int))) (w : World) (e : Ending) (w' : World) : Prop :=
  ∃ v, e = .returned (.tuple #[.agg #[.int .i64 (hR h o).1, v], .bool o.isSome]) ∧ Kd.S dW 31 w' w.heap.size (fun _ => True) v (hR h o).2 ∧ Below w.heap.size w w'
theorem out_none {h : Int} {w w' : World} {e : Ending} (he : e = .returned (.tuple #[.agg #[.int .i64 0, .slice none 0 0], .bool false])) (hb : Below w.heap.size w w') : Out h none w e w' := ⟨_, he, Kd.S_nil _ _ _ _ _, hb⟩
theorem getD_at (xs : List (List Int)) (i : Nat) (hi : i < xs.length) : xs.getD i [] = xs[i] := by rw [List.getD_eq_getElem?_getD, List.getElem?_eq_getElem hi]; rfl
theorem flat_le (b : Nat) : ∀ ys : List (List Int), (∀ r ∈ ys, r.length ≤ b) → ys.flatten.length ≤ ys.length * b
  | [], _ => by simp
  | r :: rs, h => by
    have := flat_le b rs (fun s hs => h s (List.mem_cons_of_mem _ hs))
    have := h r (List.mem_cons_self ..)
    rw [List.flatten_cons, List.length_append, List.length_cons, Nat.add_mul]; omega
theorem small_of (ys : List (List Int)) (hl : ys.length ≤ 100) (hr : ∀ r ∈ ys, r.length ≤ 100) : Small ys :=
  ⟨by omega, by have := flat_le 100 ys hr; omega, fun r h => by have := hr r h; omega⟩
/-- Why a move cannot be made. -/
theorem move_cases (h : Int) (xs : List (List Int)) (f t : Int) : (f < 0 ∨ (xs.length : Int) ≤ f) ∨ ∃ i : Nat, f = (i : Int) ∧ ∃ hi : i < xs.length, (t < 0 ∨ (xs.length : Int) ≤ t) ∨ t = (i : Int) ∨ ∃ j : Nat, t = (j : Int) ∧ ∃ hj : j < xs.length, i ≠ j ∧ (xs[i].length = 0 ∨ 0 < xs[i].length ∧ (h ≤ (xs[j].length : Int) ∨ (xs[j].length : Int) < h)) := by
  by_cases h1 : f < 0 ∨ (xs.length : Int) ≤ f
  · exact .inl h1
  · refine .inr ⟨f.toNat, by omega, by omega, ?_⟩
    by_cases h2 : t < 0 ∨ (xs.length : Int) ≤ t
    · exact .inl h2
    · by_cases h3 : t = f
      · exact .inr (.inl (by omega))
      · refine .inr (.inr ⟨t.toNat, by omega, by omega, by omega, ?_⟩)
        by_cases h4 : xs[f.toNat].length = 0
        · exact .inl h4
        · exact .inr ⟨by omega, by omega⟩
theorem moveB_no1 {h : Int} {xs : List (List Int)} {f t : Int} (h1 : f < 0 ∨ (xs.length : Int) ≤ f) : moveB h xs f t = false := decide_eq_false (by omega)
theorem moveB_no2 {h : Int} {xs : List (List Int)} {f t : Int} (h1 : t < 0 ∨ (xs.length : Int) ≤ t) : moveB h xs f t = false := decide_eq_false (by omega)
theorem moveB_no3 {h : Int} {xs : List (List Int)} {f : Int} : moveB h xs f f = false := decide_eq_false (by omega)
theorem moveB_no4 {h : Int} {xs : List (List Int)} {i : Nat} {t : Int} (hi : i < xs.length) (h1 : xs[i].length = 0) : moveB h xs (i : Int) t = false := decide_eq_false (by rw [Int.toNat_natCast, getD_at xs i hi]; omega)
theorem moveB_no5 {h : Int} {xs : List (List Int)} {j : Nat} {f : Int} (hj : j < xs.length) (h1 : h ≤ (xs[j].length : Int)) : moveB h xs f (j : Int) = false := decide_eq_false (by rw [Int.toNat_natCast, getD_at xs j hj]; omega)
theorem moveB_yes {h : Int} {xs : List (List Int)} {i j : Nat} (hi : i < xs.length) (hj : j < xs.length) (hij : i ≠ j) (h1 : 0 < xs[i].length) (h2 : (xs[j].length : Int) < h) : moveB h xs (i : Int) (j : Int) = true :=
  decide_eq_true (by rw [Int.toNat_natCast, Int.toNat_natCast, getD_at xs i hi, getD_at xs j hj]; omega)
/-- The program's moved. -/
theorem moved_any (h : Int) (xs : List (List Int)) (hv : Yv.valid h xs = true) (f t : Int) (A : Option Addr) (c : Nat) (w : World) (hC : Kd.C dR w A xs.length xs) (hcl : xs.length ≤ c) :
    Calls Try.prog 50 #[.agg #[.int .i64 h, .slice A xs.length c], .int .i64 f, .int .i64 t] w (Out h (moveR h xs f t) w) := by
  obtain ⟨p1, p2, p3, p4, p5, -⟩ := valid_parts hv
  have hr4 : ∀ r ∈ xs, r.length ≤ 4 := fun r hr => by have := p5 r hr; omega
  rcases move_cases h xs f t with h1 | ⟨i, rfl, hi, h1 | rfl | ⟨j, rfl, hj, hij, h1 | ⟨h1, h2 | h2⟩⟩⟩
  · rw [moveR, if_neg (by rw [moveB_no1 h1]; decide)]
    exact (Ymv.no_from h xs p4 p2 hr4 f t h1 A c w hC hcl).mono fun e w' hh => out_none hh.1 hh.2
  · rw [moveR, if_neg (by rw [moveB_no2 h1]; decide)]
    exact (Ymv.no_to h xs p4 p2 hr4 i hi t h1 A c w hC hcl).mono fun e w' hh => out_none hh.1 hh.2
  · rw [moveR, if_neg (by rw [moveB_no3]; decide)]
    exact (Ymv.no_same h xs p4 p2 hr4 i hi A c w hC hcl).mono fun e w' hh => out_none hh.1 hh.2
  · rw [moveR, if_neg (by rw [moveB_no4 hi h1]; decide)]
    exact (Ymv.no_lot h xs p4 p2 hr4 i j hi hj hij h1 A c w hC hcl).mono fun e w' hh => out_none hh.1 hh.2
  · rw [moveR, if_neg (by rw [moveB_no5 hj h2]; decide)]
    have := p5 _ (List.getElem_mem hj)
    exact (Ymv.no_room h xs p4 p2 hr4 i j hi hj hij h1 (by omega) A c w hC hcl).mono fun e w' hh => out_none hh.1 hh.2
  · rw [moveR, if_pos (moveB_yes hi hj hij h1 h2)]
    exact (Ymv.yes h xs p4 p2 hr4 i j hi hj hij h1 h2 A c w hC hcl).mono fun e w' ⟨v, h1, h2, h3⟩ => ⟨v, h1, h2, h3⟩
end Go.Proofs.Ytibaiaenfeppcaa.Yq

/- The next lot: both sides find it. -/
namespace Go.Proofs.Ytibaiaenfeppcaa.PuTN
open Go Go.RowKit Go.Proofs.YtibaiaenfeppcaaW.PrintWords Go.Proofs.YtibaiaenfeppcaaW.PrintLast Go.Proofs.YtibaiaenfeppcaaW.PrintMore Go.Proofs.Ytibaiaenfeppcaa.Q Go.Proofs.Ytibaiaenfeppcaa.PuY Go.Proofs.Ytibaiaenfeppcaa.PuTO Go.Proofs.Ytibaiaenfeppcaa.Lw Go.Proofs.Ytibaiaenfeppcaa.Ow Go.Proofs.Ytibaiaenfeppcaa.Yo Go.Proofs.Ytibaiaenfeppcaa.Yk Go.Proofs.Ytibaiaenfeppcaa.Yq
set_option linter.unusedVariables false
theorem minOf_spec (l : List Int) : ∀ m : Int, (l.foldl (fun m x => if x < m then x else m) m ≤ m ∧ ∀ x ∈ l, l.foldl (fun m x => if x < m then x else m) m ≤ x) ∧ (l.foldl (fun m x => if x < m then x else m) m = m ∨ l.foldl (fun m x => if x < m then x else m) m ∈ l) := by
  induction l with
  | nil => intro m; exact ⟨⟨Int.le_refl _, fun x hx => by simp at hx⟩, .inl rfl⟩
  | cons y l ih =>
    intro m
    simp only [List.foldl_cons]
    obtain ⟨⟨h1, h2⟩, h3⟩ := ih (if y < m then y else m)
    have e : (if y < m then y else m) ≤ m ∧ (if y < m then y else m) ≤ y := by split <;> omega
    refine ⟨⟨Int.le_trans h1 e.1, fun x hx => ?_⟩, ?_⟩
    · rcases List.mem_cons.1 hx with rfl | hx
      · exact Int.le_trans h1 e.2
      · exact h2 x hx
    · rcases h3 with h3 | h3
      · rw [h3]
        by_cases c : y < m
        · rw [if_pos c]; exact .inr (List.mem_cons_self ..)
        · rw [if_neg c]; exact .inl rfl
      · exact .inr (List.mem_cons_of_mem _ h3)
theorem minOf_mem (l : List Int) (h : l ≠ []) : Yv.minOf l ∈ l ∧ ∀ x ∈ l, Yv.minOf l ≤ x := by
  cases l with
  | nil => exact absurd rfl h
  | cons y l =>
    obtain ⟨⟨h1, h2⟩, h3⟩ := minOf_spec l y
    refine ⟨?_, fun x hx => ?_⟩
    · rcases h3 with h3 | h3
      · show l.foldl _ y ∈ _
        rw [h3]; exact List.mem_cons_self ..
      · exact List.mem_cons_of_mem _ h3
    · rcases List.mem_cons.1 hx with rfl | hx
      · exact h1
      · exact h2 x hx
/-- The stack with the next lot. -/
def nextR (xs : List (List Int)) : Option Nat := if xs.flatten = [] then none else some (xs.findIdx fun r => decide (Yv.minOf xs.flatten ∈ r))
def nextI (xs : List (List Int)) : Int := match nextR xs with | none => -1 | some i => (i : Int)
theorem nextR_some {xs : List (List Int)} {i : Nat} (h : nextR xs = some i) : ∃ hi : i < xs.length, Yv.minOf xs.flatten ∈ xs[i] ∧ (∀ x ∈ xs.flatten, Yv.minOf xs.flatten ≤ x) ∧ ∀ j (hj : j < i), Yv.minOf xs.flatten ∉ xs[j] := by
  unfold nextR at h
  by_cases h0 : xs.flatten = []
  · rw [if_pos h0] at h; cases h
  rw [if_neg h0] at h
  injection h with h
  obtain ⟨hm, hle⟩ := minOf_mem _ h0
  obtain ⟨r, hr, hmr⟩ := List.mem_flatten.1 hm
  have hi : xs.findIdx (fun r => decide (Yv.minOf xs.flatten ∈ r)) < xs.length := List.findIdx_lt_length_of_exists ⟨r, hr, by simpa using hmr⟩
  subst h
  refine ⟨hi, ?_, hle, fun j hj => ?_⟩
  · have := List.findIdx_getElem (w := hi); simpa using this
  · have := List.not_of_lt_findIdx hj; simpa using this
theorem nextR_is {xs : List (List Int)} {i : Nat} (hi : i < xs.length) (h1 : Yv.minOf xs.flatten ∈ xs[i]) (h2 : ∀ j (hj : j < i), Yv.minOf xs.flatten ∉ xs[j]) : nextR xs = some i := by
  have h0 : xs.flatten ≠ [] := fun h => by
    have := List.mem_flatten.2 ⟨xs[i], List.getElem_mem hi, h1⟩
    rw [h] at this; simp at this
  unfold nextR
  rw [if_neg h0]
  congr 1
  exact (List.findIdx_eq hi).2 ⟨by simpa using h1, fun j hj => by simpa using h2 j hj⟩
/-! the reference's -/
def At (xs : List (List Int)) (S : List Int) (best least : Int) : Prop :=
  (S = [] ∧ best = -1 ∧ least = 100) ∨ ∃ b : Nat, ∃ hb : b < xs.length, best = (b : Int) ∧ least ∈ xs[b] ∧ least ∈ S ∧ (∀ x ∈ S, least ≤ x) ∧ ∀ b' (hb' : b' < b), least ∉ xs[b']
theorem At.step {xs : List (List Int)} {S : List Int} {best least : Int} (h : At xs S best least) (i : Nat) (hi : i < xs.length) (x : Int) (hx : x ∈ xs[i]) (h99 : x ≤ 99) (hS : ∀ b' (hb' : b' < i), ∀ y ∈ xs[b'], y ∈ S) :
    (x < least → At xs (S ++ [x]) (i : Int) x) ∧ (¬ x < least → At xs (S ++ [x]) best least) := by
  constructor
  · intro hlt
    refine .inr ⟨i, hi, rfl, hx, by simp, fun y hy => ?_, fun b' hb' hm => ?_⟩
    · rcases List.mem_append.1 hy with hy | hy
      · rcases h with ⟨rfl, _, _⟩ | ⟨b, hb, _, _, _, h4, _⟩
        · simp at hy
        · have := h4 y hy; omega
      · rcases List.mem_singleton.1 hy with rfl; exact Int.le_refl _
    · have hm' := hS b' hb' x hm
      rcases h with ⟨rfl, _, _⟩ | ⟨b, hb, _, _, _, h4, _⟩
      · simp at hm'
      · have := h4 x hm'; omega
  · intro hge
    rcases h with ⟨rfl, rfl, rfl⟩ | ⟨b, hb, rfl, h2, h3, h4, h5⟩
    · omega
    · refine .inr ⟨b, hb, rfl, h2, by simp [h3], fun y hy => ?_, h5⟩
      rcases List.mem_append.1 hy with hy | hy
      · exact h4 y hy
      · rcases List.mem_singleton.1 hy with rfl; omega
theorem At.last {xs : List (List Int)} {best least : Int} (h : At xs xs.flatten best least) : best = nextI xs := by
  rcases h with ⟨h1, rfl, _⟩ | ⟨b, hb, rfl, h2, h3, h4, h5⟩
  · unfold nextI nextR; rw [if_pos h1]
  · have h0 : xs.flatten ≠ [] := fun h => by rw [h] at h3; simp at h3
    obtain ⟨hm, hle⟩ := minOf_mem _ h0
    have e : Yv.minOf xs.flatten = least := by have a1 := hle _ h3; have a2 := h4 _ hm; omega
    unfold nextI
    rw [nextR_is hb (by rw [e]; exact h2) (by rw [e]; exact h5)]
theorem inner (h : Int) (xs : List (List Int)) (i : Nat) (hi : i < xs.length) (r : List Int) (hr : r = xs[i]) (h99 : ∀ x ∈ r, x ≤ 99) (hl : r.length ≤ 1000) (hn : xs.length ≤ 1000) (F : Nat) (R : Option (Int × Int)) (S0 : List Int) (hS0 : ∀ b' (hb' : b' < i), ∀ y ∈ xs[b'], y ∈ S0)
    (hnext : ∀ best least f, F ≤ f → At xs (S0 ++ r) best least → spec_l09Next.l0 f best least ((i + 1 : Nat) : Int) h xs = R) :
    ∀ (d k f : Nat) (best least : Int), k + d = r.length → F + d + 1 ≤ f → At xs (S0 ++ r.take k) best least → spec_l09Next.l1 f best least (i : Int) (k : Int) h xs = R := by
  intro d
  induction d with
  | zero =>
    intro k f best least hk hf ha
    obtain ⟨f, rfl⟩ : ∃ m, f = m + 1 := ⟨f - 1, by omega⟩
    simp only [spec_l09Next.l1]
    rw [if_pos (by omega), if_pos (by omega), rdL_at xs i hi, ← hr, if_neg (by omega), wrap_succ i (by omega)]
    rw [List.take_of_length_le (by omega)] at ha
    exact hnext best least f (by omega) ha
  | succ d ih =>
    intro k f best least hk hf ha
    obtain ⟨f, rfl⟩ : ∃ m, f = m + 1 := ⟨f - 1, by omega⟩
    have hkl : k < r.length := by omega
    simp only [spec_l09Next.l1]
    rw [if_pos (by omega), if_pos (by omega), rdL_at xs i hi, ← hr, if_pos (by omega), if_pos (by omega), rd_at r k hkl, wrap_succ k (by omega)]
    have hs := ha.step i hi r[k] (by rw [← hr]; exact List.getElem_mem hkl) (h99 _ (List.getElem_mem hkl)) (fun b' hb' y hy => List.mem_append_left _ (hS0 b' hb' y hy))
    rw [List.append_assoc, ← List.take_succ_eq_append_getElem hkl] at hs
    by_cases hc : r[k] < least
    · rw [if_pos hc]; exact ih (k + 1) f _ _ (by omega) (by omega) (hs.1 hc)
    · rw [if_neg hc]; exact ih (k + 1) f _ _ (by omega) (by omega) (hs.2 hc)
theorem outer (h : Int) (xs : List (List Int)) (h99 : ∀ x ∈ xs.flatten, x ≤ 99) (hl : ∀ r ∈ xs, r.length ≤ 1000) (hn : xs.length ≤ 1000) :
    ∀ (d i f : Nat) (best least : Int), i + d = xs.length → 1003 * d + 1 ≤ f → At xs (xs.take i).flatten best least → spec_l09Next.l0 f best least (i : Int) h xs = some (nextI xs, h) := by
  intro d
  induction d with
  | zero =>
    intro i f best least hi hf ha
    obtain ⟨f, rfl⟩ : ∃ m, f = m + 1 := ⟨f - 1, by omega⟩
    simp only [spec_l09Next.l0]
    rw [List.take_of_length_le (by omega)] at ha
    rw [if_neg (by omega), ha.last]
  | succ d ih =>
    intro i f best least hi hf ha
    obtain ⟨f, rfl⟩ : ∃ m, f = m + 1 := ⟨f - 1, by omega⟩
    have hil : i < xs.length := by omega
    have hrl := hl xs[i] (List.getElem_mem hil)
    simp only [spec_l09Next.l0]
    rw [if_pos (by omega)]
    refine inner h xs i hil xs[i] rfl (fun x hx => h99 x (List.mem_flatten.2 ⟨_, List.getElem_mem hil, hx⟩)) hrl hn (1003 * d + 1) _ (xs.take i).flatten (fun b' hb' y hy => List.mem_flatten.2 ⟨_, List.mem_take_iff_getElem.2 ⟨b', by omega, rfl⟩, hy⟩) (fun best least f hf ha => ?_) xs[i].length 0 f best least (by omega) (by omega) (by simpa using ha)
    refine ih (i + 1) f best least (by omega) hf ?_
    rw [List.take_succ_eq_append_getElem hil, List.flatten_append]
    simpa using ha
theorem next_eq (h : Int) (xs : List (List Int)) (h99 : ∀ x ∈ xs.flatten, x ≤ 99) (hl : ∀ r ∈ xs, r.length ≤ 1000) (hn : xs.length ≤ 1000) : spec_l09Next.f 2000000 h xs = some (nextI xs, h) :=
  outer h xs h99 hl hn xs.length 0 2000000 (-1) 100 (by omega) (by omega) (.inl ⟨by simp, rfl, rfl⟩)
/-! the program's -/
theorem index_eq (r : List Int) (m : Int) (hl : r.length ≤ 1000) : ∀ (d i f : Nat), i + d = r.length → d + 1 ≤ f → (∀ j (hj : j < r.length), j < i → r[j] ≠ m) →
    ∃ p : Int, slices_Index_int64_int64.l0 f r m (r.length : Int) (i : Int) = some p ∧ ((m ∉ r ∧ p = -1) ∨ ∃ q : Nat, p = (q : Int) ∧ ∃ hq : q < r.length, r[q] = m) := by
  intro d
  induction d with
  | zero =>
    intro i f hi hf hj
    obtain ⟨f, rfl⟩ : ∃ m, f = m + 1 := ⟨f - 1, by omega⟩
    simp only [slices_Index_int64_int64.l0]
    rw [if_neg (by omega)]
    refine ⟨_, rfl, .inl ⟨fun hm => ?_, rfl⟩⟩
    obtain ⟨j, hjl, e⟩ := List.mem_iff_getElem.1 hm
    exact hj j hjl (by omega) e
  | succ d ih =>
    intro i f hi hf hj
    obtain ⟨f, rfl⟩ : ∃ m, f = m + 1 := ⟨f - 1, by omega⟩
    have hil : i < r.length := by omega
    simp only [slices_Index_int64_int64.l0]
    rw [if_pos (by omega), if_pos (by omega), if_pos (by omega), rd_at r i hil, wrap_succ i (by omega)]
    by_cases hc : m = r[i]
    · rw [if_pos hc]; exact ⟨_, rfl, .inr ⟨i, rfl, hil, hc.symm⟩⟩
    · rw [if_neg hc]
      refine ih (i + 1) f (by omega) (by omega) (fun j hjl hlt => ?_)
      by_cases h : j = i
      · subst h; exact fun e => hc e.symm
      · exact hj j hjl (by omega)
def topB (xs : List (List Int)) : Bool := match nextR xs with | none => false | some i => !lowB (xs.getD i [])
/-- The next lot lies topmost just where no lot of its stack lies below a greater topmost one. -/
theorem top_iff (r : List Int) (hnd : r.Nodup) (m : Int) (hle : ∀ x ∈ r, m ≤ x) (q : Nat) (hq : q < r.length) (e : r[q] = m) : ((q : Int) == wrap64 ((r.length : Int) - 1)) = !lowB r ∨ 1000 < r.length := by
  by_cases hl : r.length ≤ 1000
  · left
    have hw : wrap64 ((r.length : Int) - 1) = (r.length : Int) - 1 := wrap_id (by omega) (by omega)
    have hlast : rd r ((r.length : Int) - 1) = r[r.length - 1]'(by omega) := by
      rw [show (r.length : Int) - 1 = ((r.length - 1 : Nat) : Int) by omega, rd_at r _ (by omega)]
    rw [hw]
    by_cases h : q = r.length - 1
    · rw [show ((q : Int) == (r.length : Int) - 1) = true from beq_iff_eq.2 (by omega)]
      rw [low_no r (fun k hk => ?_)]
      · rfl
      · rw [hlast, rd_at r k (by omega)]
        have := hle r[k] (List.getElem_mem _)
        subst h
        omega
    · rw [show ((q : Int) == (r.length : Int) - 1) = false from beq_eq_false_iff_ne.2 (by omega)]
      rw [low_yes r q (by omega)]
      · rfl
      · rw [hlast, rd_at r q hq]
        have h1 := hle (r[r.length - 1]'(by omega)) (List.getElem_mem _)
        have h2 : r[q] ≠ r[r.length - 1]'(by omega) := fun e' => h ((List.getElem_inj hnd).1 e')
        omega
  · right; omega
theorem holder_loop (xs : List (List Int)) (hl : ∀ r ∈ xs, r.length ≤ 1000) (hn : xs.length ≤ 1000) (hnd : ∀ r ∈ xs, r.Nodup) (i0 : Nat) (h0 : nextR xs = some i0) :
    ∀ (d i f : Nat), i + d = xs.length → i ≤ i0 → 2000 + d ≤ f → impl_Yard_holder.l0 f (Yv.minOf xs.flatten) xs (xs.length : Int) (i : Int) = some ((i0 : Int), !lowB (xs.getD i0 [])) := by
  obtain ⟨hi0, hm, hle, hbef⟩ := nextR_some h0
  intro d
  induction d with
  | zero => intro i f hi hii; omega
  | succ d ih =>
    intro i f hi hii hf
    obtain ⟨f, rfl⟩ : ∃ m, f = m + 1 := ⟨f - 1, by omega⟩
    have hil : i < xs.length := by omega
    have hrl := hl xs[i] (List.getElem_mem hil)
    simp only [impl_Yard_holder.l0]
    rw [if_pos (by omega), if_pos (by omega), if_pos (by omega), rdL_at xs i hil, wrap_succ i (by omega)]
    obtain ⟨p, hp, hcase⟩ := index_eq xs[i] (Yv.minOf xs.flatten) hrl xs[i].length 0 f (by omega) (by omega) (fun j _ hj => absurd hj (by omega))
    have hp' : slices_Index_int64_int64.f f xs[i] (Yv.minOf xs.flatten) = some p := hp
    rw [hp', Option.bind_some]
    rcases hcase with ⟨hnm, rfl⟩ | ⟨q, rfl, hq, e⟩
    · rw [if_neg (by decide)]
      have : i ≠ i0 := fun h => by subst h; exact hnm hm
      exact ih (i + 1) f (by omega) (by omega) (by omega)
    · have hii0 : i = i0 := by
        by_cases h : i < i0
        · exact absurd (e ▸ List.getElem_mem hq) (hbef i h)
        · omega
      subst hii0
      rw [if_pos (by omega), getD_at xs i hil]
      rcases top_iff xs[i] (hnd _ (List.getElem_mem hil)) (Yv.minOf xs.flatten) (fun x hx => hle x (List.mem_flatten.2 ⟨_, List.getElem_mem hil, hx⟩)) q hq e with h | h
      · rw [h]
      · omega
theorem holder_eq (h : Int) (xs : List (List Int)) (hl : ∀ r ∈ xs, r.length ≤ 1000) (hn : xs.length ≤ 1000) (hnd : ∀ r ∈ xs, r.Nodup) : impl_Yard_holder.f 2000000 h xs = some (nextI xs, topB xs) := by
  have hfl := flat_le 1000 xs hl
  have hfl2 : xs.length * 1000 ≤ 1000000 := by omega
  simp only [impl_Yard_holder.f, impl_Yard_lots.f]
  rw [if_pos ⟨by omega, by omega⟩, Option.bind_some]
  by_cases h0 : xs.flatten = []
  · rw [if_pos (by rw [h0]; rfl)]
    unfold nextI topB nextR
    rw [if_pos h0]
  · have hpos : 0 < xs.flatten.length := List.length_pos_iff.2 h0
    rw [if_neg (by omega)]
    simp only [slices_Min_int64_int64.f]
    rw [if_pos hpos, Option.bind_some]
    obtain ⟨i0, hi0⟩ : ∃ i0, nextR xs = some i0 := ⟨_, by unfold nextR; rw [if_neg h0]⟩
    unfold nextI topB
    rw [hi0]
    exact holder_loop xs hl hn hnd i0 hi0 xs.length 0 2000000 (by omega) (by omega) (by omega)
/-! taking -/
def takeR (xs : List (List Int)) : Option (List (List Int)) := match nextR xs with
  | none => none
  | some i => if lowB (xs.getD i []) = true then none else some (xs.set i ((xs.getD i []).take ((xs.getD i []).length - 1)))
end Go.Proofs.Ytibaiaenfeppcaa.PuTN

/- Taking the next lot, told once for all arguments, by both sides. -/
namespace Go.Proofs.Ytibaiaenfeppcaa.Yr
open Go Go.RowKit Go.Proofs.YtibaiaenfeppcaaW.PrintWords Go.Proofs.YtibaiaenfeppcaaW.PrintLast Go.Proofs.YtibaiaenfeppcaaW.PrintMore Go.Proofs.Ytibaiaenfeppcaa.Q Go.Proofs.Ytibaiaenfeppcaa.PuY Go.Proofs.Ytibaiaenfeppcaa.PuTO Go.Proofs.Ytibaiaenfeppcaa.PuTN Go.Proofs.Ytibaiaenfeppcaa.Lw Go.Proofs.Ytibaiaenfeppcaa.Ow Go.Proofs.Ytibaiaenfeppcaa.Yo Go.Proofs.Ytibaiaenfeppcaa.Yk Go.Proofs.Ytibaiaenfeppcaa.Yq
set_option linter.unusedVariables false
theorem row_nodup {xs : List (List Int)} (h : xs.flatten.Nodup) : ∀ r ∈ xs, r.Nodup := fun r hr => h.sublist (List.sublist_flatten_of_mem hr)
theorem take_parts {h : Int} {xs : List (List Int)} (hv : Yv.valid h xs = true) : xs.length ≤ 4 ∧ h ≤ 4 ∧ (∀ r ∈ xs, r.length ≤ 4) ∧ spec_l09Next.f 2000000 h xs = some (nextI xs, h) ∧ impl_Yard_holder.f 2000000 h xs = some (nextI xs, topB xs) := by
  obtain ⟨p1, p2, p3, p4, p5, p6, p7, p8⟩ := valid_parts hv
  have h4 : ∀ r ∈ xs, r.length ≤ 4 := fun r hr => by have := p5 r hr; omega
  exact ⟨p4, p2, h4, next_eq h xs (fun x hx => (p8 x hx).2) (fun r hr => by have := h4 r hr; omega) (by omega), holder_eq h xs (fun r hr => by have := h4 r hr; omega) (by omega) (row_nodup p6)⟩
theorem nextR_pos {xs : List (List Int)} {i : Nat} (h : nextR xs = some i) : ∃ hi : i < xs.length, 0 < xs[i].length := by
  obtain ⟨hi, hm, -⟩ := nextR_some h
  exact ⟨hi, List.length_pos_of_mem hm⟩
/-- The program's taken. -/
theorem taken_any (h : Int) (xs : List (List Int)) (hv : Yv.valid h xs = true) (A : Option Addr) (c : Nat) (w : World) (hC : Kd.C dR w A xs.length xs) (hcl : xs.length ≤ c) :
    Calls Try.prog 51 #[.agg #[.int .i64 h, .slice A xs.length c]] w (Out h (takeR xs) w) := by
  obtain ⟨h1, h2, h3, -, h5⟩ := take_parts hv
  cases hn : nextR xs with
  | none =>
    have e : takeR xs = none := by unfold takeR; rw [hn]
    have e2 : topB xs = false := by unfold topB; rw [hn]
    rw [e2] at h5
    rw [e]
    exact (Ytn.no h xs h1 h2 h3 2000000 _ h5 A c w hC hcl).mono fun e w' hh => out_none hh.1 hh.2
  | some i =>
    obtain ⟨hi, hp⟩ := nextR_pos hn
    have e3 : nextI xs = (i : Int) := by unfold nextI; rw [hn]
    have e2 : topB xs = !lowB (xs.getD i []) := by unfold topB; rw [hn]
    rw [e2, e3] at h5
    by_cases hl : lowB (xs.getD i []) = true
    · have e : takeR xs = none := by unfold takeR; rw [hn]; simp only [hl, if_true]
      rw [e]
      rw [hl] at h5
      exact (Ytn.no h xs h1 h2 h3 2000000 _ h5 A c w hC hcl).mono fun e w' hh => out_none hh.1 hh.2
    · have e : takeR xs = some (xs.set i ((xs.getD i []).take ((xs.getD i []).length - 1))) := by unfold takeR; rw [hn]; simp only [hl]; rfl
      rw [e]
      have hl' : lowB (xs.getD i []) = false := by simpa using hl
      rw [hl'] at h5
      exact (Ytn.yes h xs h1 h2 h3 2000000 i hi hp h5 A c w hC hcl).mono fun e w' ⟨v, a1, a2, a3⟩ => ⟨v, a1, a2, a3⟩
theorem take_len {xs ys : List (List Int)} (h : takeR xs = some ys) : ys.length = xs.length ∧ ∀ i, (ys.getD i []).length ≤ (xs.getD i []).length := by
  unfold takeR at h
  cases hn : nextR xs with
  | none => rw [hn] at h; cases h
  | some i =>
    rw [hn] at h
    by_cases hl : lowB (xs.getD i []) = true
    · simp only [hl, if_true] at h; cases h
    · simp only [hl] at h
      injection h with h
      subst h
      refine ⟨by rw [List.length_set], fun j => ?_⟩
      simp only [List.getD_eq_getElem?_getD, List.getElem?_set]
      split
      · next e =>
        subst e
        split
        · simp only [Option.getD_some, List.length_take]; omega
        · simp
      · exact Nat.le_refl _
end Go.Proofs.Ytibaiaenfeppcaa.Yr

/- Clearing a yard and running moves, in plain words. -/
namespace Go.Proofs.Ytibaiaenfeppcaa.PuRM
open Go Go.RowKit Go.Proofs.YtibaiaenfeppcaaW.PrintWords Go.Proofs.YtibaiaenfeppcaaW.PrintLast Go.Proofs.YtibaiaenfeppcaaW.PrintMore Go.Proofs.Ytibaiaenfeppcaa.Q Go.Proofs.Ytibaiaenfeppcaa.PuY Go.Proofs.Ytibaiaenfeppcaa.PuTO Go.Proofs.Ytibaiaenfeppcaa.PuTN Go.Proofs.Ytibaiaenfeppcaa.Yt Go.Proofs.Ytibaiaenfeppcaa.Yk Go.Proofs.Ytibaiaenfeppcaa.Yq Go.Proofs.Ytibaiaenfeppcaa.Yr
set_option linter.unusedVariables false
theorem valid_of {h : Int} {xs : List (List Int)} (p1 : 1 ≤ h) (p2 : h ≤ 4) (p3 : 1 ≤ xs.length) (p4 : xs.length ≤ 4) (p5 : ∀ r ∈ xs, (r.length : Int) ≤ h) (p6 : xs.flatten.Nodup) (p7 : xs.flatten.length ≤ 7) (p8 : ∀ x ∈ xs.flatten, 0 ≤ x ∧ x ≤ 99) : Yv.valid h xs = true := by
  unfold Yv.valid Ha.inB Ha.areIn
  simp only [Bool.and_eq_true, decide_eq_true_eq, List.all_eq_true]
  refine ⟨⟨p1, p2⟩, ⟨by omega, by omega⟩, p5, p6, by omega, fun x hx => ?_⟩
  unfold Ha.inB
  simpa using p8 x hx
theorem flat_split (xs : List (List Int)) (i : Nat) (hi : i < xs.length) : xs.flatten = (xs.take i).flatten ++ (xs[i] ++ (xs.drop (i + 1)).flatten) := by
  conv => lhs; rw [← List.take_append_drop i xs, List.drop_eq_getElem_cons hi]
  rw [List.flatten_append, List.flatten_cons]
theorem flat_set (xs : List (List Int)) (i : Nat) (hi : i < xs.length) (r : List Int) : (xs.set i r).flatten = (xs.take i).flatten ++ (r ++ (xs.drop (i + 1)).flatten) := by
  have hi' : i < (xs.set i r).length := by rw [List.length_set]; exact hi
  rw [flat_split (xs.set i r) i hi', List.getElem_set_self, List.take_set_of_le (Nat.le_refl i), List.drop_set_of_lt (Nat.lt_succ_self i)]
/-- The lots behind taking one out: one fewer, in the same order. -/
theorem cut_sub (xs : List (List Int)) (i : Nat) (hi : i < xs.length) : ((xs.set i (xs[i].take (xs[i].length - 1))).flatten).Sublist xs.flatten := by
  rw [flat_set xs i hi, flat_split xs i hi]
  exact (List.Sublist.refl _).append ((List.take_sublist _ _).append (List.Sublist.refl _))
theorem cut_len (xs : List (List Int)) (i : Nat) (hi : i < xs.length) (hp : 0 < xs[i].length) : (xs.set i (xs[i].take (xs[i].length - 1))).flatten.length + 1 = xs.flatten.length := by
  rw [flat_set xs i hi, flat_split xs i hi]
  simp only [List.length_append, List.length_take]
  omega
theorem take_is {xs ys : List (List Int)} (h : takeR xs = some ys) : ∃ i, nextR xs = some i ∧ ∃ hi : i < xs.length, 0 < xs[i].length ∧ lowB xs[i] = false ∧ ys = xs.set i (xs[i].take (xs[i].length - 1)) := by
  unfold takeR at h
  cases hn : nextR xs with
  | none => rw [hn] at h; cases h
  | some i =>
    obtain ⟨hi, hp⟩ := nextR_pos hn
    rw [hn] at h
    simp only [getD_at xs i hi] at h
    by_cases hl : lowB xs[i] = true
    · simp only [hl, if_true] at h; cases h
    · simp only [hl] at h
      injection h with h
      exact ⟨i, rfl, hi, hp, by simpa using hl, h.symm⟩
theorem take_valid {h : Int} {xs ys : List (List Int)} (hv : Yv.valid h xs = true) (ht : takeR xs = some ys) : Yv.valid h ys = true := by
  obtain ⟨p1, p2, p3, p4, p5, p6, p7, p8⟩ := valid_parts hv
  obtain ⟨i, -, hi, hp, -, rfl⟩ := take_is ht
  have hs := cut_sub xs i hi
  refine valid_of p1 p2 (by rw [List.length_set]; exact p3) (by rw [List.length_set]; exact p4) (fun r hr => ?_) (p6.sublist hs) (by have := hs.length_le; omega) (fun x hx => p8 x (hs.subset hx))
  rcases List.mem_or_eq_of_mem_set hr with hr | rfl
  · exact p5 r hr
  · have := p5 _ (List.getElem_mem hi); rw [List.length_take]; omega
theorem take_less {xs ys : List (List Int)} (ht : takeR xs = some ys) : ys.flatten.length + 1 = xs.flatten.length := by
  obtain ⟨i, -, hi, hp, -, rfl⟩ := take_is ht
  exact cut_len xs i hi hp
/-- The lots behind a move are the same. -/
theorem move_perm (xs : List (List Int)) (i j : Nat) (hi : i < xs.length) (hj : j < xs.length) (hij : i ≠ j) (hp : 0 < xs[i].length) : (moveRows xs i j).flatten.Perm xs.flatten := by
  unfold moveRows
  rw [getD_at xs i hi, getD_at xs j hj, show (xs[i].length : Int) - 1 = ((xs[i].length - 1 : Nat) : Int) by omega, rd_at xs[i] _ (by omega)]
  obtain ⟨x, hx⟩ : ∃ x, x = xs[i][xs[i].length - 1]'(by omega) := ⟨_, rfl⟩
  rw [← hx]
  have hi2 : i < (xs.set j (xs[j] ++ [x])).length := by rw [List.length_set]; exact hi
  have e : (xs.set j (xs[j] ++ [x]))[i] = xs[i] := List.getElem_set_ne (fun h => hij h.symm) _
  have h1 : (xs.set j (xs[j] ++ [x])).flatten.Perm (x :: xs.flatten) := by
    rw [flat_set xs j hj, flat_split xs j hj]
    have : (xs[j] ++ [x] ++ (xs.drop (j + 1)).flatten) = xs[j] ++ x :: (xs.drop (j + 1)).flatten := by simp
    rw [this]
    have h2 : ((xs.take j).flatten ++ (xs[j] ++ x :: (xs.drop (j + 1)).flatten)) = ((xs.take j).flatten ++ xs[j]) ++ x :: (xs.drop (j + 1)).flatten := by simp
    rw [h2]
    refine List.perm_middle.trans ?_
    rw [List.append_assoc]
  have h3 : (x :: ((xs.set j (xs[j] ++ [x])).set i (xs[i].take (xs[i].length - 1))).flatten).Perm (xs.set j (xs[j] ++ [x])).flatten := by
    rw [flat_set _ i hi2, flat_split _ i hi2, e]
    have h4 : xs[i] = xs[i].take (xs[i].length - 1) ++ [x] := by
      conv => lhs; rw [← List.take_append_drop (xs[i].length - 1) xs[i]]
      congr 1
      rw [List.drop_eq_getElem_cons (by omega), List.drop_eq_nil_of_le (by omega), hx]
    conv => rhs; rw [h4]
    have h5 : ∀ (a b c : List Int), (a ++ (b ++ [x] ++ c)) = (a ++ b) ++ x :: c := fun a b c => by simp
    rw [h5, ← List.append_assoc]
    exact List.perm_middle.symm
  exact (List.perm_cons x).1 (h3.trans h1)
theorem move_is {h : Int} {xs ys : List (List Int)} {f t : Int} (hm : moveR h xs f t = some ys) : ∃ i j : Nat, f = (i : Int) ∧ t = (j : Int) ∧ ∃ hi : i < xs.length, ∃ hj : j < xs.length, i ≠ j ∧ 0 < xs[i].length ∧ (xs[j].length : Int) < h ∧ ys = moveRows xs i j := by
  unfold moveR at hm
  by_cases c : moveB h xs f t = true
  · rw [if_pos c] at hm
    injection hm with hm
    unfold moveB at c
    obtain ⟨a1, a2, a3, a4, a5, a6, a7⟩ := of_decide_eq_true c
    have hi : f.toNat < xs.length := by omega
    have hj : t.toNat < xs.length := by omega
    rw [getD_at xs _ hi] at a6
    rw [getD_at xs _ hj] at a7
    exact ⟨f.toNat, t.toNat, by omega, by omega, hi, hj, by omega, a6, a7, hm.symm⟩
  · rw [if_neg c] at hm; cases hm
theorem move_valid {h : Int} {xs ys : List (List Int)} {f t : Int} (hv : Yv.valid h xs = true) (hm : moveR h xs f t = some ys) : Yv.valid h ys = true := by
  obtain ⟨p1, p2, p3, p4, p5, p6, p7, p8⟩ := valid_parts hv
  obtain ⟨i, j, -, -, hi, hj, hij, hp, hr, rfl⟩ := move_is hm
  have hpm := move_perm xs i j hi hj hij hp
  have hl : (moveRows xs i j).length = xs.length := by unfold moveRows; rw [List.length_set, List.length_set]
  refine valid_of p1 p2 (by rw [hl]; exact p3) (by rw [hl]; exact p4) (fun r hr' => ?_) (hpm.nodup_iff.2 p6) (by rw [hpm.length_eq]; exact p7) (fun x hx => p8 x (hpm.subset hx))
  unfold moveRows at hr'
  rw [getD_at xs i hi, getD_at xs j hj] at hr'
  rcases List.mem_or_eq_of_mem_set hr' with hr' | rfl
  · rcases List.mem_or_eq_of_mem_set hr' with hr' | rfl
    · exact p5 r hr'
    · rw [List.length_append, List.length_singleton]; omega
  · have := p5 _ (List.getElem_mem hi); rw [List.length_take]; omega
/-! clearing -/
def clearN : Nat → List (List Int) → List (List Int)
  | 0, xs => xs
  | n + 1, xs => match takeR xs with
    | none => xs
    | some ys => clearN n ys
def clearR (xs : List (List Int)) : List (List Int) := clearN xs.flatten.length xs
theorem take_empty {xs : List (List Int)} (h : xs.flatten.length = 0) : takeR xs = none := by
  cases ht : takeR xs with
  | none => rfl
  | some ys => have := take_less ht; omega
theorem clear_none {xs : List (List Int)} (h : takeR xs = none) : clearR xs = xs := by
  unfold clearR
  cases xs.flatten.length with
  | zero => rfl
  | succ n => simp only [clearN, h]
theorem clear_some {xs ys : List (List Int)} (h : takeR xs = some ys) : clearR xs = clearR ys := by
  have := take_less h
  unfold clearR
  rw [← this]
  simp only [clearN, h]
theorem clear_valid {h : Int} : ∀ (n : Nat) (xs : List (List Int)), xs.flatten.length = n → Yv.valid h xs = true → Yv.valid h (clearR xs) = true := by
  intro n
  induction n with
  | zero => intro xs hn hv; rw [clear_none (take_empty hn)]; exact hv
  | succ n ih =>
    intro xs hn hv
    cases ht : takeR xs with
    | none => rw [clear_none ht]; exact hv
    | some ys =>
      rw [clear_some ht]
      exact ih ys (by have := take_less ht; omega) (take_valid hv ht)
/-! running -/
/-- One move of a plan, and the clearing behind it. -/
def runOne (h : Int) (xs : List (List Int)) (m : List Int) : Option (List (List Int)) :=
  if m.length = 2 ∧ rd m 0 = nextI xs then (moveR h xs (rd m 0) (rd m 1)).map clearR else none
def runL (h : Int) : List (List Int) → List (List Int) → Option (List (List Int))
  | xs, [] => some xs
  | xs, m :: ms => (runOne h xs m).bind fun ys => runL h ys ms
def runR (h : Int) (xs : List (List Int)) (ms : List (List Int)) : Option (List (List Int)) :=
  if Yv.valid h xs = true ∧ ms.length ≤ 21 then runL h (clearR xs) ms else none
theorem runOne_some (h : Int) (xs : List (List Int)) (m : List Int) (hs : (runOne h xs m).isSome = true) : m.length = 2 ∧ rd m 0 = nextI xs ∧ 0 ≤ nextI xs := by
  unfold runOne at hs
  split at hs
  · next hc =>
    refine ⟨hc.1, hc.2, ?_⟩
    cases hm : moveR h xs (rd m 0) (rd m 1) with
    | none => rw [hm] at hs; cases hs
    | some ys =>
      obtain ⟨i, j, hf, -⟩ := move_is hm
      rw [← hc.2, hf]; omega
  · cases hs
theorem runOne_eq (h : Int) (xs : List (List Int)) (m : List Int) (h1 : m.length = 2) (h2 : rd m 0 = nextI xs) : runOne h xs m = (moveR h xs (rd m 0) (rd m 1)).map clearR := by
  unfold runOne; rw [if_pos ⟨h1, h2⟩]
theorem runOne_valid {h : Int} {xs ys : List (List Int)} {m : List Int} (hv : Yv.valid h xs = true) (hr : runOne h xs m = some ys) : Yv.valid h ys = true := by
  unfold runOne at hr
  split at hr
  · obtain ⟨zs, hz, rfl⟩ := Option.map_eq_some_iff.1 hr
    exact clear_valid _ zs rfl (move_valid hv hz)
  · cases hr
theorem runL_valid {h : Int} : ∀ (ms xs : List (List Int)) {ys : List (List Int)}, Yv.valid h xs = true → runL h xs ms = some ys → Yv.valid h ys = true := by
  intro ms
  induction ms with
  | nil => intro xs ys hv hr; simp only [runL] at hr; injection hr with hr; rw [← hr]; exact hv
  | cons m ms ih =>
    intro xs ys hv hr
    simp only [runL] at hr
    obtain ⟨zs, hz, hr⟩ := Option.bind_eq_some_iff.1 hr
    exact ih zs (runOne_valid hv hz) hr
theorem valid_small {h : Int} {xs : List (List Int)} (hv : Yv.valid h xs = true) : Small xs := by
  obtain ⟨p1, p2, p3, p4, p5, -⟩ := valid_parts hv
  exact small_of xs (by omega) (fun r hr => by have := p5 r hr; omega)
end Go.Proofs.Ytibaiaenfeppcaa.PuRM

/- The reference's l09Clear: taking as long as it can be done. -/
namespace Go.Proofs.Ytibaiaenfeppcaa.Yc
open Go Go.RowKit Go.Proofs.YtibaiaenfeppcaaW.PrintWords Go.Proofs.YtibaiaenfeppcaaW.PrintLast Go.Proofs.YtibaiaenfeppcaaW.PrintMore Go.Proofs.Ytibaiaenfeppcaa.Q Go.Proofs.Ytibaiaenfeppcaa.PuY Go.Proofs.Ytibaiaenfeppcaa.PuTO Go.Proofs.Ytibaiaenfeppcaa.PuTN Go.Proofs.Ytibaiaenfeppcaa.PuRM Go.Proofs.Ytibaiaenfeppcaa.Lw Go.Proofs.Ytibaiaenfeppcaa.Ow Go.Proofs.Ytibaiaenfeppcaa.Yo Go.Proofs.Ytibaiaenfeppcaa.Yk Go.Proofs.Ytibaiaenfeppcaa.Yq Go.Proofs.Ytibaiaenfeppcaa.Yr
set_option linter.unusedVariables false
end Go.Proofs.Ytibaiaenfeppcaa.Yc

/- The program's (Yard).emptied. -/
namespace Go.Proofs.Ytibaiaenfeppcaa.Ye
open Go Go.RowKit Go.Proofs.YtibaiaenfeppcaaW.PrintWords Go.Proofs.YtibaiaenfeppcaaW.PrintLast Go.Proofs.YtibaiaenfeppcaaW.PrintMore Go.Proofs.Ytibaiaenfeppcaa.Q Go.Proofs.Ytibaiaenfeppcaa.PuY Go.Proofs.Ytibaiaenfeppcaa.PuTO Go.Proofs.Ytibaiaenfeppcaa.PuTN Go.Proofs.Ytibaiaenfeppcaa.PuRM Go.Proofs.Ytibaiaenfeppcaa.Lw Go.Proofs.Ytibaiaenfeppcaa.Ow Go.Proofs.Ytibaiaenfeppcaa.Yo Go.Proofs.Ytibaiaenfeppcaa.Yn Go.Proofs.Ytibaiaenfeppcaa.Yk Go.Proofs.Ytibaiaenfeppcaa.Yq Go.Proofs.Ytibaiaenfeppcaa.Yr
set_option linter.unusedVariables false
set_option maxRecDepth 100000 in
set_option maxHeartbeats 4000000 in
theorem emptied_any (h : Int) (xs : List (List Int)) (hv : Yv.valid h xs = true) (A : Option Addr) (c : Nat) (w : World) (hC : Kd.C dR w A xs.length xs) (hcl : xs.length ≤ c) :
    Calls Try.prog 48 #[.agg #[.int .i64 h, .slice A xs.length c]] w fun e w' => ∃ v, e = .returned (.agg #[.int .i64 h, v]) ∧ Kd.S dW 31 w' w.heap.size (fun _ => True) v (clearR xs) ∧ Below w.heap.size w w' := by
  have hu := Try.underlying27
  obtain ⟨p1, p2, p3, p4, p5, -⟩ := valid_parts hv
  have HCLN := Aside0.mk (Ymv.cloned_eq h xs p4 (fun r hr => by have := p5 r hr; omega))
  have HV := Aside0.mk hv
  have HR := Aside0.mk hC
  have HC := Aside0.mk hcl
  clear hC hcl hv p1 p2 p3 p4 p5
  go_enter Try.func48, Try.ntmps48
  go_wp2_with (fail)
  have b2 := below_alloc (below_alloc (Below.refl w.heap.size w) (.cells #[.int .i64 h, .slice A xs.length c] 27)) (.cells #[.int .i64 0, .slice none 0 0] 27)
  refine (impl_Yard_cloned.calls 1000 h A c xs h xs _ (Kd.C_below HR.out b2) HC.out HCLN.out).mono ?_
  rintro e w1 ⟨v, rfl, hS, hb⟩
  have HB := Aside0.mk (below_step b2 hb)
  have B6 := Aside0.mk (blk_below (blk_new' w (.cells #[.int .i64 h, .slice A xs.length c] 27) (.cells #[.int .i64 0, .slice none 0 0] 27)) hb)
  have K := Aside0.mk (blk_below (blk_alloc (blk_new w (.cells #[.int .i64 h, .slice A xs.length c] 27)) (.cells #[.int .i64 0, .slice none 0 0] 27)) hb)
  obtain ⟨Av, cv, rfl⟩ := Kd.S_slice hS
  have HS := Aside0.mk (sW_of_sR hS)
  have HS0 := Aside0.mk (show ((w.alloc (.cells #[.int .i64 h, .slice A xs.length c] 27)).alloc (.cells #[.int .i64 0, .slice none 0 0] 27)).heap.size = w.heap.size + 2 by simp)
  clear b2 hS hb
  have y0 : w1.cell? ⟨w.heap.size, 0, none⟩ = some (.int .i64 h) := (blk_cell K.out 0).trans rfl
  have y1 : w1.cell? ⟨w.heap.size, 1, none⟩ = some (.slice A xs.length c) := (blk_cell K.out 1).trans rfl
  have g2 := blk_frozen K.out 0
  have g3 := blk_frozen K.out 1
  go_wp2_with (fail)
  go_loopg [] (xs.flatten.length) (fun kq wz => Aside0 (∃ zs : List (List Int), zs.flatten.length ≤ kq ∧ Yv.valid h zs = true ∧ clearR zs = clearR xs ∧ ∃ A1 c1, zs.length ≤ c1 ∧ wz.heap[w.heap.size]? = some (.cells #[.int .i64 h, .slice A1 zs.length c1] 27 (0, 0)) ∧ Kd.S dW 31 wz w.heap.size (fun k => w.heap.size + 2 ≤ k) (.slice A1 zs.length c1) zs) ∧ Aside0 (wz.heap[w.heap.size + 1]? = some (.cells #[.int .i64 0, .slice none 0 0] 27 (0, 0))) ∧ Aside0 (Below w.heap.size w wz))
  case atStart =>
    have hs0 := HS0.out
    refine ⟨⟨xs, Nat.le_refl _, HV.out, rfl, Av, cv, (Kd.S_reads' (d := dW) HS.out).2.1, blk_put (blk_put K.out 0 (.int .i64 h) rfl) 1 (.slice Av xs.length cv) rfl, ?_⟩, ⟨?_⟩, ⟨?_⟩⟩
    · refine Kd.S_far (p := ⟨w.heap.size, 1, none⟩) (Kd.S_far (p := ⟨w.heap.size, 0, none⟩) (Kd.S_mono (Kd.S_lower (Kd.S_bound HS.out) (by omega)) (fun k hk => by have := hk.2.1; show w.heap.size + 2 ≤ k; omega)) (fun k hk => by show k ≠ w.heap.size; omega) _) (fun k hk => by show k ≠ w.heap.size; omega) _
    · rw [Below.heap_setCell _ _ _ _ (show w.heap.size + 1 ≠ w.heap.size by omega), Below.heap_setCell _ _ _ _ (show w.heap.size + 1 ≠ w.heap.size by omega)]; exact B6.out
    · exact (HB.out.setCell (p := ⟨w.heap.size, 0, none⟩) (Nat.le_refl _) _).setCell (p := ⟨w.heap.size, 1, none⟩) (Nat.le_refl _) _
  case round =>
    obtain ⟨hZ, hb6, hb⟩ := hrel
    clear y0 y1 g2 g3
    obtain ⟨zs, z1, z2, z3, A1, c1, zl, zk, zS⟩ := hZ.out
    have Z := Aside0.mk (And.intro z1 (And.intro z2 z3))
    have ZL := Aside0.mk zl
    have K := Aside0.mk zk
    have ZS := Aside0.mk zS
    clear hZ z1 z2 z3 zl zk zS B6 HB HS
    have y0 : wr.cell? ⟨w.heap.size, 0, none⟩ = some (.int .i64 h) := (blk_cell K.out 0).trans rfl
    have y1 : wr.cell? ⟨w.heap.size, 1, none⟩ = some (.slice A1 zs.length c1) := (blk_cell K.out 1).trans rfl
    go_wp2_with (fail)
    refine (taken_any h zs Z.out.2.1 A1 c1 wr (Kd.S_reads' (d := dW) ZS.out).2.2 ZL.out).mono ?_
    rintro e w2 ⟨v, rfl, hS2, hb2⟩
    obtain ⟨A2, c2, rfl⟩ := Kd.S_slice hS2
    have S2 := Aside0.mk hS2
    have K := Aside0.mk (blk_below K.out hb2)
    have B6 := Aside0.mk (blk_below hb6.out hb2)
    have ZS := Aside0.mk (Kd.S_below ZS.out hb2)
    have HB := Aside0.mk (below_step hb.out hb2)
    have HLT := Aside0.mk (show w.heap.size + 1 < wr.heap.size from blk_lt hb6.out)
    clear hS2 hb2 y0 y1 hb hb6
    cases ht : takeR zs with
    | none =>
      have HT := Aside0.mk ht
      simp only [hR, ht] at S2 ⊢
      clear ht
      have B6W := Aside0.mk (blk_alloc B6.out (.cells #[.int .i64 0, .slice A2 0 c2] 27))
      have KW := Aside0.mk (blk_alloc K.out (.cells #[.int .i64 0, .slice A2 0 c2] 27))
      have y0 : (w2.alloc (.cells #[.int .i64 0, .slice A2 0 c2] 27)).cell? ⟨w.heap.size, 0, none⟩ = some (.int .i64 h) := (blk_cell KW.out 0).trans rfl
      have y1 : (w2.alloc (.cells #[.int .i64 0, .slice A2 0 c2] 27)).cell? ⟨w.heap.size, 1, none⟩ = some (.slice A1 zs.length c1) := (blk_cell KW.out 1).trans rfl
      have g0 : (w2.alloc (.cells #[.int .i64 0, .slice A2 0 c2] 27)).cell? ⟨w.heap.size + 1, 0, none⟩ = some (.int .i64 0) := (blk_cell B6W.out 0).trans rfl
      have g1 : (w2.alloc (.cells #[.int .i64 0, .slice A2 0 c2] 27)).cell? ⟨w.heap.size + 1, 1, none⟩ = some (.slice none 0 0) := (blk_cell B6W.out 1).trans rfl
      have g2 := blk_frozen B6W.out 0
      have g3 := blk_frozen B6W.out 1
      have g4 := blk_frozen KW.out 0
      have g5 := blk_frozen KW.out 1
      go_wp2_with (fail)
      have b7 := blk_put (blk_put B6W.out 0 (.int .i64 h) rfl) 1 (.slice A1 zs.length c1) rfl
      refine bodyPost_ret (results_cell_row rfl _ _ (w.heap.size + 1) 27 #[.int .i64 h, .slice A1 zs.length c1] (0, 0) _ rfl b7 Try.underlying27 rfl (by kernel_rfl)) rfl ?_
      refine ⟨_, rfl, ?_, ((below_alloc HB.out (.cells #[.int .i64 0, .slice A2 0 c2] 27)).setCell (p := ⟨w.heap.size + 1, 0, none⟩) (Nat.le_succ _) _).setCell (p := ⟨w.heap.size + 1, 1, none⟩) (Nat.le_succ _) _⟩
      rw [← Z.out.2.2, clear_none HT.out]
      exact Kd.S_mono (Kd.S_far (p := ⟨w.heap.size + 1, 1, none⟩) (Kd.S_far (p := ⟨w.heap.size + 1, 0, none⟩) (Kd.S_alloc ZS.out (.cells #[.int .i64 0, .slice A2 0 c2] 27)) (fun k hk => by show k ≠ w.heap.size + 1; omega) _) (fun k hk => by show k ≠ w.heap.size + 1; omega) _) (fun _ _ => trivial)
    | some ys =>
      have HT := Aside0.mk ht
      have HV2 := Aside0.mk (take_valid Z.out.2.1 ht)
      have HCL := Aside0.mk (clear_some ht)
      have HLS := Aside0.mk (take_less ht)
      simp only [hR, ht] at S2 ⊢
      clear ht
      have B6W := Aside0.mk (blk_alloc B6.out (.cells #[.int .i64 h, .slice A2 ys.length c2] 27))
      have KW := Aside0.mk (blk_alloc K.out (.cells #[.int .i64 h, .slice A2 ys.length c2] 27))
      have y0 : (w2.alloc (.cells #[.int .i64 h, .slice A2 ys.length c2] 27)).cell? ⟨w.heap.size, 0, none⟩ = some (.int .i64 h) := (blk_cell KW.out 0).trans rfl
      have y1 : (w2.alloc (.cells #[.int .i64 h, .slice A2 ys.length c2] 27)).cell? ⟨w.heap.size, 1, none⟩ = some (.slice A1 zs.length c1) := (blk_cell KW.out 1).trans rfl
      have g0 : (w2.alloc (.cells #[.int .i64 h, .slice A2 ys.length c2] 27)).cell? ⟨w.heap.size + 1, 0, none⟩ = some (.int .i64 0) := (blk_cell B6W.out 0).trans rfl
      have g1 : (w2.alloc (.cells #[.int .i64 h, .slice A2 ys.length c2] 27)).cell? ⟨w.heap.size + 1, 1, none⟩ = some (.slice none 0 0) := (blk_cell B6W.out 1).trans rfl
      have g2 := blk_frozen B6W.out 0
      have g3 := blk_frozen B6W.out 1
      have g4 := blk_frozen KW.out 0
      have g5 := blk_frozen KW.out 1
      go_wp2_with (fail)
      go_roundg ys.flatten.length
      case measure => have := HLS.out; have := Z.out.1; omega
      case rel =>
        refine ⟨⟨ys, Nat.le_refl _, HV2.out, by rw [← HCL.out]; exact Z.out.2.2, A2, c2, (Kd.S_reads' (d := dW) S2.out).2.1, blk_put (blk_put KW.out 0 (.int .i64 h) rfl) 1 (.slice A2 ys.length c2) rfl, ?_⟩, ⟨?_⟩, ⟨?_⟩⟩
        · refine Kd.S_far (p := ⟨w.heap.size, 1, none⟩) (Kd.S_far (p := ⟨w.heap.size, 0, none⟩) (Kd.S_alloc (Kd.S_mono (Kd.S_lower (Kd.S_bound S2.out) (by have := HLT.out; omega)) (fun k hk => by have := hk.2.1; have := HLT.out; show w.heap.size + 2 ≤ k; omega)) (.cells #[.int .i64 h, .slice A2 ys.length c2] 27)) (fun k hk => by show k ≠ w.heap.size; omega) _) (fun k hk => by show k ≠ w.heap.size; omega) _
        · rw [Below.heap_setCell _ _ _ _ (show w.heap.size + 1 ≠ w.heap.size by omega), Below.heap_setCell _ _ _ _ (show w.heap.size + 1 ≠ w.heap.size by omega)]; exact B6W.out
        · exact ((below_alloc HB.out (.cells #[.int .i64 h, .slice A2 ys.length c2] 27)).setCell (p := ⟨w.heap.size, 0, none⟩) (Nat.le_refl _) _).setCell (p := ⟨w.heap.size, 1, none⟩) (Nat.le_refl _) _
end Go.Proofs.Ytibaiaenfeppcaa.Ye

/- The program's RunMoves. -/
namespace Go.Proofs.Ytibaiaenfeppcaa.RMi
open Go Go.RowKit Go.Proofs.YtibaiaenfeppcaaW.PrintWords Go.Proofs.YtibaiaenfeppcaaW.PrintLast Go.Proofs.YtibaiaenfeppcaaW.PrintMore Go.Proofs.Ytibaiaenfeppcaa.Q Go.Proofs.Ytibaiaenfeppcaa.PuY Go.Proofs.Ytibaiaenfeppcaa.PuTO Go.Proofs.Ytibaiaenfeppcaa.PuTN Go.Proofs.Ytibaiaenfeppcaa.PuRM Go.Proofs.Ytibaiaenfeppcaa.Lw Go.Proofs.Ytibaiaenfeppcaa.Ow Go.Proofs.Ytibaiaenfeppcaa.Yo Go.Proofs.Ytibaiaenfeppcaa.Yn Go.Proofs.Ytibaiaenfeppcaa.Yt Go.Proofs.Ytibaiaenfeppcaa.Yq Go.Proofs.Ytibaiaenfeppcaa.Yr
set_option linter.unusedVariables false
set_option linter.unusedSimpArgs false
set_option maxRecDepth 100000 in
set_option maxHeartbeats 4000000 in
theorem impl_no (h : Int) (xs ms : List (List Int)) (hv : Yv.valid h xs = false) (A : Option Addr) (c : Nat) (A2 : Option Addr) (c2 : Nat) (w : World) (hC : Kd.C dR w A xs.length xs) (hcl : xs.length ≤ c) (hM : Kd.C dR w A2 ms.length ms) (hcm : ms.length ≤ c2) :
    Calls Try.prog 24 #[.agg #[.int .i64 h, .slice A xs.length c], .slice A2 ms.length c2] w (Out h none w) := by
  have hu := Try.underlying27
  have HR := Aside0.mk hC
  have HC := Aside0.mk hcl
  have HM := Aside0.mk hM
  have HCM := Aside0.mk hcm
  have HV := Aside0.mk (show impl_ValidYard.f h xs = some false from congrArg some hv)
  clear hC hcl hM hcm hv
  go_enter Try.func24, Try.ntmps24
  go_wp2_with (fail)
  have b2 := below_alloc (below_alloc (Below.refl w.heap.size w) (.cells #[.int .i64 h, .slice A xs.length c] 27)) (.cells #[.int .i64 0, .slice none 0 0] 27)
  refine (impl_ValidYard.calls h A c xs false _ (Kd.C_below HR.out b2) HC.out HV.out).mono ?_
  rintro e w1 ⟨rfl, hb⟩
  have HB := Aside0.mk (below_step b2 hb)
  have K := Aside0.mk (blk_below (blk_alloc (blk_new w (.cells #[.int .i64 h, .slice A xs.length c] 27)) (.cells #[.int .i64 0, .slice none 0 0] 27)) hb)
  have B6 := Aside0.mk (blk_below (blk_new' w (.cells #[.int .i64 h, .slice A xs.length c] 27) (.cells #[.int .i64 0, .slice none 0 0] 27)) hb)
  clear hb b2
  have g0 : w1.cell? ⟨w.heap.size + 1, 0, none⟩ = some (.int .i64 0) := (blk_cell B6.out 0).trans rfl
  have g1 : w1.cell? ⟨w.heap.size + 1, 1, none⟩ = some (.slice none 0 0) := (blk_cell B6.out 1).trans rfl
  have g2 := blk_frozen B6.out 0
  have g3 := blk_frozen B6.out 1
  go_wp2_with (fail)
  have b7 := blk_put (blk_put B6.out 0 (.int .i64 0) rfl) 1 (.slice none 0 0) rfl
  refine bodyPost_ret (results_ct rfl _ _ (w.heap.size + 1) 27 #[.int .i64 0, .slice none 0 0] (0, 0) _ rfl b7 Try.underlying27 rfl (by kernel_rfl)) rfl ?_
  exact out_none rfl (((HB.out).setCell (p := ⟨w.heap.size + 1, 0, none⟩) (Nat.le_succ _) _).setCell (p := ⟨w.heap.size + 1, 1, none⟩) (Nat.le_succ _) _)
set_option maxRecDepth 100000 in
set_option maxHeartbeats 4000000 in
theorem impl_long (h : Int) (xs ms : List (List Int)) (hv : Yv.valid h xs = true) (hl : 21 < ms.length) (A : Option Addr) (c : Nat) (A2 : Option Addr) (c2 : Nat) (w : World) (hC : Kd.C dR w A xs.length xs) (hcl : xs.length ≤ c) (hM : Kd.C dR w A2 ms.length ms) (hcm : ms.length ≤ c2) :
    Calls Try.prog 24 #[.agg #[.int .i64 h, .slice A xs.length c], .slice A2 ms.length c2] w (Out h none w) := by
  have hu := Try.underlying27
  have HR := Aside0.mk hC
  have HC := Aside0.mk hcl
  have HM := Aside0.mk hM
  have HCM := Aside0.mk hcm
  have HV := Aside0.mk (show impl_ValidYard.f h xs = some true from congrArg some hv)
  have c1 : decide (21 < ms.length) = true := decide_eq_true hl
  have c2_ : decide ((21 : Int) < (ms.length : Int)) = true := decide_eq_true (by omega)
  have c3_ : (21 < ms.length) = True := eq_true hl
  clear hC hcl hM hcm hv
  go_enter Try.func24, Try.ntmps24
  go_wp2_with (fail)
  have b2 := below_alloc (below_alloc (Below.refl w.heap.size w) (.cells #[.int .i64 h, .slice A xs.length c] 27)) (.cells #[.int .i64 0, .slice none 0 0] 27)
  refine (impl_ValidYard.calls h A c xs true _ (Kd.C_below HR.out b2) HC.out HV.out).mono ?_
  rintro e w1 ⟨rfl, hb⟩
  have HB := Aside0.mk (below_step b2 hb)
  have K := Aside0.mk (blk_below (blk_alloc (blk_new w (.cells #[.int .i64 h, .slice A xs.length c] 27)) (.cells #[.int .i64 0, .slice none 0 0] 27)) hb)
  have B6 := Aside0.mk (blk_below (blk_new' w (.cells #[.int .i64 h, .slice A xs.length c] 27) (.cells #[.int .i64 0, .slice none 0 0] 27)) hb)
  clear hb b2
  have g0 : w1.cell? ⟨w.heap.size + 1, 0, none⟩ = some (.int .i64 0) := (blk_cell B6.out 0).trans rfl
  have g1 : w1.cell? ⟨w.heap.size + 1, 1, none⟩ = some (.slice none 0 0) := (blk_cell B6.out 1).trans rfl
  have g2 := blk_frozen B6.out 0
  have g3 := blk_frozen B6.out 1
  go_wp2_with (fail)
  have b7 := blk_put (blk_put B6.out 0 (.int .i64 0) rfl) 1 (.slice none 0 0) rfl
  refine bodyPost_ret (results_ct rfl _ _ (w.heap.size + 1) 27 #[.int .i64 0, .slice none 0 0] (0, 0) _ rfl b7 Try.underlying27 rfl (by kernel_rfl)) rfl ?_
  exact out_none rfl (((HB.out).setCell (p := ⟨w.heap.size + 1, 0, none⟩) (Nat.le_succ _) _).setCell (p := ⟨w.heap.size + 1, 1, none⟩) (Nat.le_succ _) _)
set_option maxRecDepth 100000 in
set_option maxHeartbeats 4000000 in
theorem impl_run (h : Int) (xs ms : List (List Int)) (hv : Yv.valid h xs = true) (hl : ms.length ≤ 21) (A : Option Addr) (c : Nat) (A2 : Option Addr) (c2 : Nat) (w : World) (hC : Kd.C dR w A xs.length xs) (hcl : xs.length ≤ c) (hM : Kd.C dR w A2 ms.length ms) (hcm : ms.length ≤ c2) :
    Calls Try.prog 24 #[.agg #[.int .i64 h, .slice A xs.length c], .slice A2 ms.length c2] w (Out h (runL h (clearR xs) ms) w) := by
  have hu := Try.underlying27
  have HR := Aside0.mk hC
  have HC := Aside0.mk hcl
  have HM := Aside0.mk hM
  have HCM := Aside0.mk hcm
  have HV := Aside0.mk (show impl_ValidYard.f h xs = some true from congrArg some hv)
  have HVV := Aside0.mk hv
  have c1 : decide (21 < ms.length) = false := decide_eq_false (by omega)
  have c2_ : decide ((21 : Int) < (ms.length : Int)) = false := decide_eq_false (by omega)
  clear hC hcl hM hcm hv
  go_enter Try.func24, Try.ntmps24
  go_wp2_with (fail)
  have b2 := below_alloc (below_alloc (Below.refl w.heap.size w) (.cells #[.int .i64 h, .slice A xs.length c] 27)) (.cells #[.int .i64 0, .slice none 0 0] 27)
  refine (impl_ValidYard.calls h A c xs true _ (Kd.C_below HR.out b2) HC.out HV.out).mono ?_
  rintro e w1 ⟨rfl, hb⟩
  have HB := Aside0.mk (below_step b2 hb)
  have K := Aside0.mk (blk_below (blk_alloc (blk_new w (.cells #[.int .i64 h, .slice A xs.length c] 27)) (.cells #[.int .i64 0, .slice none 0 0] 27)) hb)
  have B6 := Aside0.mk (blk_below (blk_new' w (.cells #[.int .i64 h, .slice A xs.length c] 27) (.cells #[.int .i64 0, .slice none 0 0] 27)) hb)
  clear hb b2
  have y0 : w1.cell? ⟨w.heap.size, 0, none⟩ = some (.int .i64 h) := (blk_cell K.out 0).trans rfl
  have y1 : w1.cell? ⟨w.heap.size, 1, none⟩ = some (.slice A xs.length c) := (blk_cell K.out 1).trans rfl
  go_wp2_with (fail)
  refine (Ye.emptied_any h xs HVV.out A c w1 (Kd.C_below HR.out HB.out) HC.out).mono ?_
  rintro e w2 ⟨v, rfl, hS, hb⟩
  obtain ⟨Av, cv, rfl⟩ := Kd.S_slice hS
  have HLT := Aside0.mk (show w.heap.size + 1 < w1.heap.size from blk_lt B6.out)
  have HS := Aside0.mk hS
  have K := Aside0.mk (blk_below K.out hb)
  have B6 := Aside0.mk (blk_below B6.out hb)
  have HB := Aside0.mk (below_step HB.out hb)
  clear hS hb y0 y1
  have y0 : w2.cell? ⟨w.heap.size, 0, none⟩ = some (.int .i64 h) := (blk_cell K.out 0).trans rfl
  have y1 : w2.cell? ⟨w.heap.size, 1, none⟩ = some (.slice A xs.length c) := (blk_cell K.out 1).trans rfl
  have g2 := blk_frozen K.out 0
  have g3 := blk_frozen K.out 1
  go_wp2_with (fail)
  go_loopw [25] (fun v25 wz => ∃ j : Nat, j ≤ ms.length ∧ v25 = .int .i64 (j : Int) ∧ Aside0 (∃ zs : List (List Int), Yv.valid h zs = true ∧ runL h zs (ms.drop j) = runL h (clearR xs) ms ∧ ∃ A1 c1, zs.length ≤ c1 ∧ wz.heap[w.heap.size]? = some (.cells #[.int .i64 h, .slice A1 zs.length c1] 27 (0, 0)) ∧ Kd.S dW 31 wz w.heap.size (fun k => w.heap.size + 2 ≤ k) (.slice A1 zs.length c1) zs) ∧ Aside0 (wz.heap[w.heap.size + 1]? = some (.cells #[.int .i64 0, .slice none 0 0] 27 (0, 0))) ∧ Aside0 (Below w.heap.size w wz)) (fun v _ => ms.length - (intOf v).toNat)
  case atStart =>
    refine ⟨0, Nat.zero_le _, rfl, ⟨clearR xs, clear_valid _ xs rfl HVV.out, by rw [List.drop_zero], Av, cv, (Kd.S_reads' (d := dW) HS.out).2.1, blk_put (blk_put K.out 0 (.int .i64 h) rfl) 1 (.slice Av (clearR xs).length cv) rfl, ?_⟩, ⟨?_⟩, ⟨?_⟩⟩
    · refine Kd.S_far (p := ⟨w.heap.size, 1, none⟩) (Kd.S_far (p := ⟨w.heap.size, 0, none⟩) (Kd.S_mono (Kd.S_lower (Kd.S_bound HS.out) (by have := HLT.out; omega)) (fun k hk => by have := hk.2.1; have := HLT.out; show w.heap.size + 2 ≤ k; omega)) (fun k hk => by show k ≠ w.heap.size; omega) _) (fun k hk => by show k ≠ w.heap.size; omega) _
    · rw [Below.heap_setCell _ _ _ _ (show w.heap.size + 1 ≠ w.heap.size by omega), Below.heap_setCell _ _ _ _ (show w.heap.size + 1 ≠ w.heap.size by omega)]; exact B6.out
    · exact (HB.out.setCell (p := ⟨w.heap.size, 0, none⟩) (Nat.le_refl _) _).setCell (p := ⟨w.heap.size, 1, none⟩) (Nat.le_refl _) _
  case round =>
    clear y0 y1 g2 g3 K B6 HB HS HLT
    obtain ⟨j, hj, rfl, hZ, B6, HB⟩ := hrel
    obtain ⟨zs, z1, z2, A1, c1, zl, zk, zS⟩ := hZ.out
    have Z := Aside0.mk (And.intro z1 z2)
    have ZL := Aside0.mk zl
    have K := Aside0.mk zk
    have ZS := Aside0.mk zS
    clear hZ z1 z2 zl zk zS
    by_cases hlt : j < ms.length
    · have c0 : decide ((j : Int) < (ms.length : Int)) = true := decide_eq_true (by omega)
      have p1 : (0 ≤ (j : Int)) = True := eq_true (by omega)
      have q1 : ((j : Int) < (ms.length : Int)) = True := eq_true (by omega)
      obtain ⟨ad, Am, cm, rfl, hx, hcm, hCm⟩ := C_rows HM.out j hlt
      obtain ⟨m, hm⟩ : ∃ m, m = ms[j] := ⟨_, rfl⟩
      rw [← hm] at hx hcm hCm
      have HMJ := Aside0.mk (show runL h zs (ms.drop j) = (runOne h zs m).bind fun ys => runL h ys (ms.drop (j + 1)) by rw [List.drop_eq_getElem_cons hlt, ← hm]; rfl)
      have HX := Aside0.mk hx
      have HCm := Aside0.mk hCm
      have x1 := pw_cell_below HB.out hx
      have y0 : wr.cell? ⟨w.heap.size, 0, none⟩ = some (.int .i64 h) := (blk_cell K.out 0).trans rfl
      have y1 : wr.cell? ⟨w.heap.size, 1, none⟩ = some (.slice A1 zs.length c1) := (blk_cell K.out 1).trans rfl
      have HJ := Aside0.mk hlt
      clear hm hx hcm hCm
      go_wp2_with (fail)
      refine (impl_Yard_holder.calls 2000000 h A1 c1 zs (nextI zs) (topB zs) wr (Kd.S_reads' (d := dW) ZS.out).2.2 ZL.out (take_parts Z.out.1).2.2.2.2).mono ?_
      rintro e w1 ⟨rfl, hb⟩
      have K := Aside0.mk (blk_below K.out hb)
      have B6 := Aside0.mk (blk_below B6.out hb)
      have ZS := Aside0.mk (Kd.S_below ZS.out hb)
      have HB := Aside0.mk (below_step HB.out hb)
      clear hb x1 y0 y1
      have HM2 := Aside0.mk (show (runOne h zs m).isSome = true → m.length = 2 ∧ rd m 0 = nextI zs ∧ 0 ≤ nextI zs from runOne_some h zs m)
      by_cases h2 : m.length = 2
      · have e1 : ((m.length : Int) != 2) = false := bne_eq_false_iff_eq.2 (by omega)
        have e2 : (m.length != 2) = false := bne_eq_false_iff_eq.2 h2
        obtain ⟨gm, eg, hx0⟩ := Kd.at_int HCm.out 0 (by decide) (by omega)
        obtain ⟨gm', eg', hx1⟩ := Kd.at_int HCm.out 1 (by decide) (by omega)
        subst eg
        injection eg' with eg'
        subst eg'
        obtain ⟨m0, hm0⟩ : ∃ m0, m0 = rd m 0 := ⟨_, rfl⟩
        obtain ⟨m1, hm1⟩ : ∃ m1, m1 = rd m 1 := ⟨_, rfl⟩
        rw [← hm0] at hx0
        rw [← hm1] at hx1
        replace hx0 : w.cell? gm = some (.int .i64 m0) := hx0
        replace hx1 : w.cell? (gm.add 1) = some (.int .i64 m1) := hx1
        have HX0 := Aside0.mk hx0
        have HX1 := Aside0.mk hx1
        have v0 := pw_cell_below HB.out hx0
        have v1 := pw_cell_below HB.out hx1
        have l0 : ((0 : Int) < (m.length : Int)) = True := eq_true (by omega)
        have l1 : ((1 : Int) < (m.length : Int)) = True := eq_true (by omega)
        have l2 : (0 < m.length) = True := eq_true (by omega)
        have l3 : (1 < m.length) = True := eq_true (by omega)
        have HM0 := Aside0.mk hm0
        have HM1 := Aside0.mk hm1
        have H2 := Aside0.mk h2
        obtain ⟨nx, hnx⟩ : ∃ nx, nx = nextI zs := ⟨_, rfl⟩
        rw [← hnx]
        have HNX := Aside0.mk hnx
        clear hm0 hm1 h2 hnx hx0 hx1
        by_cases h3 : nx < 0
        · have e3 : decide (nx < 0) = true := decide_eq_true h3
          have HNO := Aside0.mk (show runL h (clearR xs) ms = none by
            rw [← Z.out.2, HMJ.out]
            cases hr : runOne h zs m with
            | none => rfl
            | some y => have := (HM2.out (by rw [hr]; rfl)).2.2; rw [← HNX.out] at this; omega)
          have g0 : w1.cell? ⟨w.heap.size + 1, 0, none⟩ = some (.int .i64 0) := (blk_cell B6.out 0).trans rfl
          have g1 : w1.cell? ⟨w.heap.size + 1, 1, none⟩ = some (.slice none 0 0) := (blk_cell B6.out 1).trans rfl
          have g2 := blk_frozen B6.out 0
          have g3 := blk_frozen B6.out 1
          go_wp2_with (fail)
          have b7 := blk_put (blk_put B6.out 0 (.int .i64 0) rfl) 1 (.slice none 0 0) rfl
          refine bodyPost_ret (results_ct rfl _ _ (w.heap.size + 1) 27 #[.int .i64 0, .slice none 0 0] (0, 0) _ rfl b7 Try.underlying27 rfl (by kernel_rfl)) rfl ?_
          rw [HNO.out]
          exact out_none rfl (((HB.out).setCell (p := ⟨w.heap.size + 1, 0, none⟩) (Nat.le_succ _) _).setCell (p := ⟨w.heap.size + 1, 1, none⟩) (Nat.le_succ _) _)
        · have e3 : decide (nx < 0) = false := decide_eq_false h3
          by_cases h4 : m0 = nx
          · subst h4
            have e4 : (m0 != m0) = false := bne_self_eq_false _
            go_wp2_with (fail)
            refine start_ (n := 14) (S := fun w' => w'.cell? ⟨w.heap.size, 0, none⟩ = some (.int .i64 h) ∧ w'.cell? ⟨w.heap.size, 1, none⟩ = some (.slice A1 zs.length c1) ∧ w'.cell? gm = some (.int .i64 m0) ∧ w'.cell? ⟨gm.block, gm.off + 1, none⟩ = some (.int .i64 m1)) (ds := [12]) #[false, false, false, false, false, false, false, false, false, false, false, false, false, false] (by kernel_rfl) rfl rfl ⟨(blk_cell K.out 0).trans rfl, (blk_cell K.out 1).trans rfl, pw_cell_below HB.out HX0.out, pw_cell_below HB.out HX1.out⟩ (fun hHeld => ?_)
            have hb : Below w1.heap.size w1 w1.drew := below_drew (Below.refl _ _)
            have K := Aside0.mk (blk_below K.out hb)
            have B6 := Aside0.mk (blk_below B6.out hb)
            have ZS := Aside0.mk (Kd.S_below ZS.out hb)
            have HB := Aside0.mk (below_step HB.out hb)
            clear hb
            generalize w1.drew = V at K B6 ZS HB hHeld ⊢
            refine pure_ (i := 1) (N := some 51) (v := ?_) (a' := ?_) #[false, true, false, false, false, false, false, false, false, false, false, false, false, false] rfl rfl (by kernel_rfl) (fun _ _ _ h => h) (Or.inl ⟨by rfl, ?_⟩) ?_ ?_
            rotate_left
            · intro w'
              go_simp
              with_reducible rfl
            rotate_left
            · simp only [Act.put, List.setIfInBounds_toArray, List.set_cons_zero, List.set_cons_succ, i64_w, i32_w]
              rfl
            refine pure_ (i := 2) (N := some 52) (v := ?_) (a' := ?_) #[false, true, true, false, false, false, false, false, false, false, false, false, false, false] rfl rfl (by kernel_rfl) (fun _ _ _ h => h) (Or.inl ⟨by rfl, ?_⟩) ?_ ?_
            rotate_left
            · intro w'
              go_simp
              with_reducible rfl
            rotate_left
            · simp only [Act.put, List.setIfInBounds_toArray, List.set_cons_zero, List.set_cons_succ, i64_w, i32_w]
              rfl
            refine pure_ (i := 4) (N := some 54) (v := ?_) (a' := ?_) #[false, true, true, false, true, false, false, false, false, false, false, false, false, false] rfl rfl (by kernel_rfl) (fun _ _ _ h => h) (Or.inl ⟨by rfl, ?_⟩) ?_ ?_
            rotate_left
            · intro w'
              go_simp
              with_reducible rfl
            rotate_left
            · simp only [Act.put, List.setIfInBounds_toArray, List.set_cons_zero, List.set_cons_succ, i64_w, i32_w]
              rfl
            refine pure_ (i := 5) (N := some 55) (v := ?_) (a' := ?_) #[false, true, true, false, true, true, false, false, false, false, false, false, false, false] rfl rfl (by kernel_rfl) (fun _ _ _ h => h) (Or.inl ⟨by rfl, ?_⟩) ?_ ?_
            rotate_left
            · intro w'
              go_simp
              with_reducible rfl
            rotate_left
            · simp only [Act.put, List.setIfInBounds_toArray, List.set_cons_zero, List.set_cons_succ, i64_w, i32_w]
              rfl
            refine take_ (i := 0) (N := some 50) (v := ?_) (a' := ?_) #[true, true, true, false, true, true, false, false, false, false, false, false, false, false] rfl rfl (by kernel_rfl) (fun _ _ _ h => h) (Or.inl ⟨by rfl, ?_⟩) hHeld ?_ ?_
            rotate_left
            · rintro w' ⟨s0, s1, s2, s3⟩
              go_simp
              with_reducible rfl
            rotate_left
            · simp only [Act.put, List.setIfInBounds_toArray, List.set_cons_zero, List.set_cons_succ, i64_w, i32_w]
              rfl
            refine take_ (i := 3) (N := some 53) (v := ?_) (a' := ?_) #[true, true, true, true, true, true, false, false, false, false, false, false, false, false] rfl rfl (by kernel_rfl) (fun _ _ _ h => h) (Or.inl ⟨by rfl, ?_⟩) hHeld ?_ ?_
            rotate_left
            · rintro w' ⟨s0, s1, s2, s3⟩
              go_simp
              with_reducible rfl
            rotate_left
            · simp only [Act.put, List.setIfInBounds_toArray, List.set_cons_zero, List.set_cons_succ, i64_w, i32_w]
              rfl
            refine take_ (i := 6) (N := some 56) (v := ?_) (a' := ?_) #[true, true, true, true, true, true, true, false, false, false, false, false, false, false] rfl rfl (by kernel_rfl) (fun _ _ _ h => h) (Or.inl ⟨by rfl, ?_⟩) hHeld ?_ ?_
            rotate_left
            · rintro w' ⟨s0, s1, s2, s3⟩
              go_simp
              with_reducible rfl
            rotate_left
            · simp only [Act.put, List.setIfInBounds_toArray, List.set_cons_zero, List.set_cons_succ, i64_w, i32_w]
              rfl
            have HVW := Aside0.mk (show w.heap.size + 1 < V.heap.size from blk_lt B6.out)
            clear hHeld
            refine join_ (σ := Value × Value × Nat) (fuel' := 2) #[true, true, true, true, true, true, true, true, true, true, true, true, false, false] (fun s => [(57, .tuple #[.agg #[s.1, s.2.1], .bool (moveR h zs m0 m1).isSome]), (49, .tuple #[.agg #[s.1, s.2.1], .bool (moveR h zs m0 m1).isSome]), (58, .agg #[s.1, s.2.1]), (59, .bool (moveR h zs m0 m1).isSome), (10, .pointer (some ⟨s.2.2, 0, none⟩))]) (fun s w2 => s.1 = .int .i64 (hR h (moveR h zs m0 m1)).1 ∧ w2.heap[s.2.2]? = some (.cells #[.int .i64 0, .slice none 0 0] 27 (0, 0)) ∧ w.heap.size + 1 < s.2.2 ∧ Kd.S dW 31 w2 (w.heap.size + 2) (fun k => k ≠ s.2.2) s.2.1 (hR h (moveR h zs m0 m1)).2 ∧ Below V.heap.size V w2) ?_ ?_
            rotate_left
            · intro hcont
              refine two_ (i := 7) (j := 11) (Ni := some 57) (Nj := some 10) #[true, true, true, true, true, true, true, true, false, false, false, false, false, false] #[true, true, true, true, true, true, true, false, false, false, false, true, false, false] rfl rfl rfl rfl (by kernel_rfl) (by decide) (by decide) (fun K_ hK => ?_) (fun K_ hK => ?_)
              · refine goes_ Try.func50 (by kernel_rfl) rfl #[.agg #[.int .i64 h, .slice A1 zs.length c1], .int .i64 m0, .int .i64 m1] (by rfl) rfl rfl (by (try simp only [List.map_toArray, List.map_cons, List.map_nil]); first | done | rfl) ?_
                refine (moved_any h zs Z.out.1 m0 m1 A1 c1 V (Kd.S_reads' (d := dW) ZS.out).2.2 ZL.out).mono ?_
                rintro e w2 ⟨v, rfl, hS2, hb⟩
                have S2 := Aside0.mk (Kd.S_bound hS2)
                have HW2 := Aside0.mk hb
                clear hS2
                have K := Aside0.mk (blk_below K.out hb)
                have B6 := Aside0.mk (blk_below B6.out hb)
                have HB := Aside0.mk (below_step HB.out hb)
                refine ⟨_, rfl, ?_⟩
                refine hK.out _ _ ⟨(blk_cell K.out 0).trans rfl, (blk_cell K.out 1).trans rfl, pw_cell_below HB.out HX0.out, pw_cell_below HB.out HX1.out⟩ (fun hHeld => ?_)
                clear hK K_ hHeld hb
                refine norm_ (a' := ?_) ?_ ?_
                rotate_left
                · show Act.put _ (some 57) _ = _
                  simp only [Act.put, List.setIfInBounds_toArray, List.set_cons_zero, List.set_cons_succ, i64_w, i32_w]
                  rfl
                refine pure_ (i := 8) (N := some 49) (v := ?_) (a' := ?_) #[true, true, true, true, true, true, true, true, true, false, false, false, false, false] rfl rfl (by kernel_rfl) (fun _ _ _ h => h) (Or.inl ⟨by rfl, ?_⟩) ?_ ?_
                rotate_left
                · intro w'
                  go_simp
                  with_reducible rfl
                rotate_left
                · simp only [Act.put, List.setIfInBounds_toArray, List.set_cons_zero, List.set_cons_succ, i64_w, i32_w]
                  rfl
                refine pure_ (i := 9) (N := some 58) (v := ?_) (a' := ?_) #[true, true, true, true, true, true, true, true, true, true, false, false, false, false] rfl rfl (by kernel_rfl) (fun _ _ _ h => h) (Or.inl ⟨by rfl, ?_⟩) ?_ ?_
                rotate_left
                · intro w'
                  go_simp
                  with_reducible rfl
                rotate_left
                · simp only [Act.put, List.setIfInBounds_toArray, List.set_cons_zero, List.set_cons_succ, i64_w, i32_w]
                  rfl
                refine pure_ (i := 10) (N := some 59) (v := ?_) (a' := ?_) #[true, true, true, true, true, true, true, true, true, true, true, false, false, false] rfl rfl (by kernel_rfl) (fun _ _ _ h => h) (Or.inl ⟨by rfl, ?_⟩) ?_ ?_
                rotate_left
                · intro w'
                  go_simp
                  with_reducible rfl
                rotate_left
                · simp only [Act.put, List.setIfInBounds_toArray, List.set_cons_zero, List.set_cons_succ, i64_w, i32_w]
                  rfl
                refine one_ (i := 11) (N := some 10) #[true, true, true, true, true, true, true, true, true, true, true, true, false, false] rfl rfl (by kernel_rfl) (by decide) (fun K_ hK => ?_)
                refine value_ (v := .pointer (some ⟨w2.heap.size, 0, none⟩)) (w1 := w2.alloc (.cells #[.int .i64 0, .slice none 0 0] 27)) (by rfl) rfl ?_ ?_
                · go_simp
                  first | done | exact ⟨rfl, rfl⟩ | rfl
                have hb := below_alloc (Below.refl w2.heap.size w2) (.cells #[.int .i64 0, .slice none 0 0] 27)
                have K := Aside0.mk (blk_below K.out hb)
                have B6 := Aside0.mk (blk_below B6.out hb)
                have HB := Aside0.mk (below_step HB.out hb)
                clear hb
                refine hK.out _ _ ⟨(blk_cell K.out 0).trans rfl, (blk_cell K.out 1).trans rfl, pw_cell_below HB.out HX0.out, pw_cell_below HB.out HX1.out⟩ (fun hHeld => ?_)
                clear hK K_ hHeld
                refine norm_ (a' := ?_) ?_ ?_
                rotate_left
                · show Act.put _ (some 10) _ = _
                  simp only [Act.put, List.setIfInBounds_toArray, List.set_cons_zero, List.set_cons_succ, i64_w, i32_w]
                  rfl
                refine norm_ (a' := _) ?_ (hcont (.int .i64 (hR h (moveR h zs m0 m1)).1, v, w2.heap.size) (w2.alloc (.cells #[.int .i64 0, .slice none 0 0] 27)) ⟨rfl, blk_new w2 (.cells #[.int .i64 0, .slice none 0 0] 27), by have := HVW.out; have := HW2.out.size; show w.heap.size + 1 < w2.heap.size; omega, Kd.S_alloc (Kd.S_mono (Kd.S_lower S2.out (by have := HVW.out; omega)) (fun k hk => by have := hk.2.2.1; show k ≠ w2.heap.size; omega)) (.cells #[.int .i64 0, .slice none 0 0] 27), below_alloc HW2.out (.cells #[.int .i64 0, .slice none 0 0] 27)⟩)
                · simp only [putAll, Act.put, List.setIfInBounds_toArray, List.set_cons_zero, List.set_cons_succ]
                  try rfl
              · refine value_ (v := .pointer (some ⟨V.heap.size, 0, none⟩)) (w1 := V.alloc (.cells #[.int .i64 0, .slice none 0 0] 27)) (by rfl) rfl ?_ ?_
                · go_simp
                  first | done | exact ⟨rfl, rfl⟩ | rfl
                have hb := below_alloc (Below.refl V.heap.size V) (.cells #[.int .i64 0, .slice none 0 0] 27)
                have K := Aside0.mk (blk_below K.out hb)
                have B6 := Aside0.mk (blk_below B6.out hb)
                have HB := Aside0.mk (below_step HB.out hb)
                have ZS := Aside0.mk (Kd.S_below ZS.out hb)
                have NB := Aside0.mk (blk_new V (.cells #[.int .i64 0, .slice none 0 0] 27))
                clear hb
                refine hK.out _ _ ⟨(blk_cell K.out 0).trans rfl, (blk_cell K.out 1).trans rfl, pw_cell_below HB.out HX0.out, pw_cell_below HB.out HX1.out⟩ (fun hHeld => ?_)
                clear hK K_ hHeld
                refine norm_ (a' := ?_) ?_ ?_
                rotate_left
                · show Act.put _ (some 10) _ = _
                  simp only [Act.put, List.setIfInBounds_toArray, List.set_cons_zero, List.set_cons_succ, i64_w, i32_w]
                  rfl
                refine one_ (i := 7) (N := some 57) #[true, true, true, true, true, true, true, true, false, false, false, true, false, false] rfl rfl (by kernel_rfl) (by decide) (fun K_ hK => ?_)
                refine goes_ Try.func50 (by kernel_rfl) rfl #[.agg #[.int .i64 h, .slice A1 zs.length c1], .int .i64 m0, .int .i64 m1] (by rfl) rfl rfl (by (try simp only [List.map_toArray, List.map_cons, List.map_nil]); first | done | rfl) ?_
                refine (moved_any h zs Z.out.1 m0 m1 A1 c1 (V.alloc (.cells #[.int .i64 0, .slice none 0 0] 27)) (Kd.S_reads' (d := dW) ZS.out).2.2 ZL.out).mono ?_
                rintro e w2 ⟨v, rfl, hS2, hb⟩
                have S2 := Aside0.mk (Kd.S_bound hS2)
                have HW2 := Aside0.mk (below_step (below_alloc (Below.refl V.heap.size V) (.cells #[.int .i64 0, .slice none 0 0] 27)) hb)
                have NB := Aside0.mk (blk_below NB.out hb)
                clear hS2
                have K := Aside0.mk (blk_below K.out hb)
                have B6 := Aside0.mk (blk_below B6.out hb)
                have HB := Aside0.mk (below_step HB.out hb)
                refine ⟨_, rfl, ?_⟩
                refine hK.out _ _ ⟨(blk_cell K.out 0).trans rfl, (blk_cell K.out 1).trans rfl, pw_cell_below HB.out HX0.out, pw_cell_below HB.out HX1.out⟩ (fun hHeld => ?_)
                clear hK K_ hHeld hb
                refine norm_ (a' := ?_) ?_ ?_
                rotate_left
                · show Act.put _ (some 57) _ = _
                  simp only [Act.put, List.setIfInBounds_toArray, List.set_cons_zero, List.set_cons_succ, i64_w, i32_w]
                  rfl
                refine pure_ (i := 8) (N := some 49) (v := ?_) (a' := ?_) #[true, true, true, true, true, true, true, true, true, false, false, true, false, false] rfl rfl (by kernel_rfl) (fun _ _ _ h => h) (Or.inl ⟨by rfl, ?_⟩) ?_ ?_
                rotate_left
                · intro w'
                  go_simp
                  with_reducible rfl
                rotate_left
                · simp only [Act.put, List.setIfInBounds_toArray, List.set_cons_zero, List.set_cons_succ, i64_w, i32_w]
                  rfl
                refine pure_ (i := 9) (N := some 58) (v := ?_) (a' := ?_) #[true, true, true, true, true, true, true, true, true, true, false, true, false, false] rfl rfl (by kernel_rfl) (fun _ _ _ h => h) (Or.inl ⟨by rfl, ?_⟩) ?_ ?_
                rotate_left
                · intro w'
                  go_simp
                  with_reducible rfl
                rotate_left
                · simp only [Act.put, List.setIfInBounds_toArray, List.set_cons_zero, List.set_cons_succ, i64_w, i32_w]
                  rfl
                refine pure_ (i := 10) (N := some 59) (v := ?_) (a' := ?_) #[true, true, true, true, true, true, true, true, true, true, true, true, false, false] rfl rfl (by kernel_rfl) (fun _ _ _ h => h) (Or.inl ⟨by rfl, ?_⟩) ?_ ?_
                rotate_left
                · intro w'
                  go_simp
                  with_reducible rfl
                rotate_left
                · simp only [Act.put, List.setIfInBounds_toArray, List.set_cons_zero, List.set_cons_succ, i64_w, i32_w]
                  rfl
                refine norm_ (a' := _) ?_ (hcont (.int .i64 (hR h (moveR h zs m0 m1)).1, v, V.heap.size) w2 ⟨rfl, NB.out, HVW.out, Kd.S_mono (Kd.S_lower S2.out (by have := HVW.out; rw [World.size_alloc]; omega)) (fun k hk => by have := hk.2.1; rw [World.size_alloc] at this; show k ≠ V.heap.size; omega), HW2.out⟩)
                · simp only [putAll, Act.put, List.setIfInBounds_toArray, List.set_cons_zero, List.set_cons_succ]
                  try rfl
            rintro ⟨v9, vs, gN⟩ w2 ⟨e9, hN, hgN, hS2, hb⟩
            replace e9 : v9 = .int .i64 (hR h (moveR h zs m0 m1)).1 := e9
            subst e9
            generalize hh9 : (hR h (moveR h zs m0 m1)).1 = h9
            replace hS2 : Kd.S dW 31 w2 (w.heap.size + 2) (fun k => k ≠ gN) vs (hR h (moveR h zs m0 m1)).2 := hS2
            generalize hys : (hR h (moveR h zs m0 m1)).2 = ys at hS2
            generalize hb9 : (moveR h zs m0 m1).isSome = b9
            obtain ⟨Az, cz, rfl⟩ := Kd.S_slice hS2
            have H9 := Aside0.mk (And.intro hh9 (And.intro hys hb9))
            have S2 := Aside0.mk hS2
            have NB := Aside0.mk (show w2.heap[gN]? = some (.cells #[.int .i64 0, .slice none 0 0] 27 (0, 0)) from hN)
            have HGN := Aside0.mk (show w.heap.size + 1 < gN from hgN)
            have K := Aside0.mk (blk_below K.out hb)
            have B6 := Aside0.mk (blk_below B6.out hb)
            have HB := Aside0.mk (below_step HB.out hb)
            clear hh9 hys hb9 hS2 hN hgN hb ZS
            refine norm_ (a' := ?_) ?_ ?_
            rotate_left
            · simp only [putAll, Act.put, List.setIfInBounds_toArray, List.set_cons_zero, List.set_cons_succ]
              rfl
            have n0 : w2.cell? ⟨gN, 0, none⟩ = some (.int .i64 0) := (blk_cell NB.out 0).trans rfl
            have n1 : w2.cell? ⟨gN, 1, none⟩ = some (.slice none 0 0) := (blk_cell NB.out 1).trans rfl
            have n2 := blk_frozen NB.out 0
            have n3 := blk_frozen NB.out 1
            refine last_ (i := 12) (N := none) #[true, true, true, true, true, true, true, true, true, true, true, true, true, false] rfl rfl (by kernel_rfl) (by decide) (fun K_ hK => ?_)
            refine skip_ (w1 := ?_) (by rfl) rfl ?_ ?_
            rotate_left
            · go_simp
              rfl
            refine hK.out _ _ ?_
            clear hK K_ n0 n1 n2 n3
            refine pure_ (i := 13) (N := some 11) (v := ?_) (a' := ?_) #[true, true, true, true, true, true, true, true, true, true, true, true, true, true] rfl rfl (by kernel_rfl) (fun _ _ _ h => h) (Or.inl ⟨by rfl, ?_⟩) ?_ ?_
            rotate_left
            · intro w'
              go_simp
              with_reducible rfl
            rotate_left
            · simp only [Act.put, List.setIfInBounds_toArray, List.set_cons_zero, List.set_cons_succ, i64_w, i32_w]
              rfl
            refine done_ (by kernel_rfl) ?_
            have NB := Aside0.mk (blk_put (blk_put NB.out 0 (.int .i64 h9) rfl) 1 (.slice Az ys.length cz) rfl)
            have hne : w.heap.size ≠ gN ∧ w.heap.size + 1 ≠ gN := by have := HGN.out; constructor <;> omega
            have K := Aside0.mk ((Below.heap_setCell _ ⟨gN, 1, none⟩ (.slice Az ys.length cz) _ hne.1).trans ((Below.heap_setCell _ ⟨gN, 0, none⟩ (.int .i64 h9) _ hne.1).trans K.out))
            have B6 := Aside0.mk ((Below.heap_setCell _ ⟨gN, 1, none⟩ (.slice Az ys.length cz) _ hne.2).trans ((Below.heap_setCell _ ⟨gN, 0, none⟩ (.int .i64 h9) _ hne.2).trans B6.out))
            have HB := Aside0.mk ((HB.out.setCell (p := ⟨gN, 0, none⟩) (show w.heap.size ≤ gN by have := HGN.out; omega) (.int .i64 h9)).setCell (p := ⟨gN, 1, none⟩) (show w.heap.size ≤ gN by have := HGN.out; omega) (.slice Az ys.length cz))
            have S3 := Aside0.mk (Kd.S_far (p := ⟨gN, 1, none⟩) (Kd.S_far (p := ⟨gN, 0, none⟩) S2.out (fun k hk => by show k ≠ gN; omega) (.int .i64 h9)) (fun k hk => by show k ≠ gN; omega) (.slice Az ys.length cz))
            clear S2 hne
            generalize ((w2.setCell ⟨gN, 0, none⟩ (.int .i64 h9)).setCell ⟨gN, 1, none⟩ (.slice Az ys.length cz)) = w3 at NB K B6 HB S3 ⊢
            have n0 : w3.cell? ⟨gN, 0, none⟩ = some (.int .i64 h9) := (blk_cell NB.out 0).trans rfl
            have n1 : w3.cell? ⟨gN, 1, none⟩ = some (.slice Az ys.length cz) := (blk_cell NB.out 1).trans rfl
            obtain ⟨hh9, hys, hb9⟩ := H9.out
            cases hmv : moveR h zs m0 m1 with
            | none =>
              have HNO := Aside0.mk (show runL h (clearR xs) ms = none by
                rw [← Z.out.2, HMJ.out, runOne_eq h zs m H2.out (HM0.out.symm.trans HNX.out), ← HM0.out, ← HM1.out, hmv]; rfl)
              rw [hmv] at hb9
              subst hb9
              clear hh9 hys hmv H9
              have g0 : w3.cell? ⟨w.heap.size + 1, 0, none⟩ = some (.int .i64 0) := (blk_cell B6.out 0).trans rfl
              have g1 : w3.cell? ⟨w.heap.size + 1, 1, none⟩ = some (.slice none 0 0) := (blk_cell B6.out 1).trans rfl
              have g2 := blk_frozen B6.out 0
              have g3 := blk_frozen B6.out 1
              go_wp2_with (fail)
              have b7 := blk_put (blk_put B6.out 0 (.int .i64 0) rfl) 1 (.slice none 0 0) rfl
              refine bodyPost_ret (results_ct rfl _ _ (w.heap.size + 1) 27 #[.int .i64 0, .slice none 0 0] (0, 0) _ rfl b7 Try.underlying27 rfl (by kernel_rfl)) rfl ?_
              rw [HNO.out]
              exact out_none rfl (((HB.out).setCell (p := ⟨w.heap.size + 1, 0, none⟩) (Nat.le_succ _) _).setCell (p := ⟨w.heap.size + 1, 1, none⟩) (Nat.le_succ _) _)
            | some zs2 =>
              have HST := Aside0.mk (show runL h (clearR zs2) (ms.drop (j + 1)) = runL h (clearR xs) ms by
                rw [← Z.out.2, HMJ.out, runOne_eq h zs m H2.out (HM0.out.symm.trans HNX.out), ← HM0.out, ← HM1.out, hmv]; rfl)
              have HV2 := Aside0.mk (move_valid Z.out.1 hmv)
              rw [hmv] at hb9 hh9 hys
              have hb8 : b9 = true := hb9.symm
              have hh8 : h = h9 := hh9
              have hy8 : zs2 = ys := hys
              subst hb8
              subst hh8
              subst hy8
              clear hh9 hys hb9 hmv H9
              go_wp2_with (fail)
              refine (Ye.emptied_any h zs2 HV2.out Az cz w3 (Kd.S_reads' (d := dW) S3.out).2.2 (Kd.S_reads' (d := dW) S3.out).2.1).mono ?_
              rintro e w4 ⟨v, rfl, hS, hb⟩
              obtain ⟨Ay, cy, rfl⟩ := Kd.S_slice hS
              have HLT := Aside0.mk (show w.heap.size + 1 < w3.heap.size from blk_lt B6.out)
              have HS := Aside0.mk hS
              have K := Aside0.mk (blk_below K.out hb)
              have B6 := Aside0.mk (blk_below B6.out hb)
              have HB := Aside0.mk (below_step HB.out hb)
              clear hS hb n0 n1
              have y0 : w4.cell? ⟨w.heap.size, 0, none⟩ = some (.int .i64 h) := (blk_cell K.out 0).trans rfl
              have y1 : w4.cell? ⟨w.heap.size, 1, none⟩ = some (.slice A1 zs.length c1) := (blk_cell K.out 1).trans rfl
              have g2 := blk_frozen K.out 0
              have g3 := blk_frozen K.out 1
              go_wp2_with (fail)
              go_roundw
              case rel =>
                refine ⟨j + 1, by have := HJ.out; omega, by have := HJ.out; first | (congr 1; done) | (congr 1; unfold wrap64; omega), ⟨clearR zs2, clear_valid _ zs2 rfl HV2.out, HST.out, Ay, cy, (Kd.S_reads' (d := dW) HS.out).2.1, blk_put (blk_put K.out 0 (.int .i64 h) rfl) 1 (.slice Ay (clearR zs2).length cy) rfl, ?_⟩, ⟨?_⟩, ⟨?_⟩⟩
                · refine Kd.S_far (p := ⟨w.heap.size, 1, none⟩) (Kd.S_far (p := ⟨w.heap.size, 0, none⟩) (Kd.S_mono (Kd.S_lower (Kd.S_bound HS.out) (by have := HLT.out; omega)) (fun k hk => by have := hk.2.1; have := HLT.out; show w.heap.size + 2 ≤ k; omega)) (fun k hk => by show k ≠ w.heap.size; omega) _) (fun k hk => by show k ≠ w.heap.size; omega) _
                · rw [Below.heap_setCell _ _ _ _ (show w.heap.size + 1 ≠ w.heap.size by omega), Below.heap_setCell _ _ _ _ (show w.heap.size + 1 ≠ w.heap.size by omega)]; exact B6.out
                · exact (HB.out.setCell (p := ⟨w.heap.size, 0, none⟩) (Nat.le_refl _) _).setCell (p := ⟨w.heap.size, 1, none⟩) (Nat.le_refl _) _
              case measure => have := HJ.out; simp only [intOf]; first | omega | (unfold wrap64; omega)
          · have e4 : (m0 != nx) = true := bne_iff_ne.2 h4
            have HNO := Aside0.mk (show runL h (clearR xs) ms = none by
              rw [← Z.out.2, HMJ.out]
              cases hr : runOne h zs m with
              | none => rfl
              | some y => exact absurd (HM0.out.trans ((HM2.out (by rw [hr]; rfl)).2.1.trans HNX.out.symm)) h4)
            have g0 : w1.cell? ⟨w.heap.size + 1, 0, none⟩ = some (.int .i64 0) := (blk_cell B6.out 0).trans rfl
            have g1 : w1.cell? ⟨w.heap.size + 1, 1, none⟩ = some (.slice none 0 0) := (blk_cell B6.out 1).trans rfl
            have g2 := blk_frozen B6.out 0
            have g3 := blk_frozen B6.out 1
            go_wp2_with (fail)
            have b7 := blk_put (blk_put B6.out 0 (.int .i64 0) rfl) 1 (.slice none 0 0) rfl
            refine bodyPost_ret (results_ct rfl _ _ (w.heap.size + 1) 27 #[.int .i64 0, .slice none 0 0] (0, 0) _ rfl b7 Try.underlying27 rfl (by kernel_rfl)) rfl ?_
            rw [HNO.out]
            exact out_none rfl (((HB.out).setCell (p := ⟨w.heap.size + 1, 0, none⟩) (Nat.le_succ _) _).setCell (p := ⟨w.heap.size + 1, 1, none⟩) (Nat.le_succ _) _)
      · have e1 : ((m.length : Int) != 2) = true := bne_iff_ne.2 (by omega)
        have e2 : (m.length != 2) = true := bne_iff_ne.2 h2
        have HNO := Aside0.mk (show runL h (clearR xs) ms = none by
          rw [← Z.out.2, HMJ.out]
          cases hr : runOne h zs m with
          | none => rfl
          | some y => exact absurd (HM2.out (by rw [hr]; rfl)).1 h2)
        have g0 : w1.cell? ⟨w.heap.size + 1, 0, none⟩ = some (.int .i64 0) := (blk_cell B6.out 0).trans rfl
        have g1 : w1.cell? ⟨w.heap.size + 1, 1, none⟩ = some (.slice none 0 0) := (blk_cell B6.out 1).trans rfl
        have g2 := blk_frozen B6.out 0
        have g3 := blk_frozen B6.out 1
        go_wp2_with (fail)
        have b7 := blk_put (blk_put B6.out 0 (.int .i64 0) rfl) 1 (.slice none 0 0) rfl
        refine bodyPost_ret (results_ct rfl _ _ (w.heap.size + 1) 27 #[.int .i64 0, .slice none 0 0] (0, 0) _ rfl b7 Try.underlying27 rfl (by kernel_rfl)) rfl ?_
        rw [HNO.out]
        exact out_none rfl (((HB.out).setCell (p := ⟨w.heap.size + 1, 0, none⟩) (Nat.le_succ _) _).setCell (p := ⟨w.heap.size + 1, 1, none⟩) (Nat.le_succ _) _)
    · have c0 : decide ((j : Int) < (ms.length : Int)) = false := decide_eq_false (by omega)
      obtain rfl : j = ms.length := by omega
      have HEND := Aside0.mk (show runL h (clearR xs) ms = some zs by rw [← Z.out.2, List.drop_length]; rfl)
      have y0 : wr.cell? ⟨w.heap.size, 0, none⟩ = some (.int .i64 h) := (blk_cell K.out 0).trans rfl
      have y1 : wr.cell? ⟨w.heap.size, 1, none⟩ = some (.slice A1 zs.length c1) := (blk_cell K.out 1).trans rfl
      clear hlt
      have g0 : wr.cell? ⟨w.heap.size + 1, 0, none⟩ = some (.int .i64 0) := (blk_cell B6.out 0).trans rfl
      have g1 : wr.cell? ⟨w.heap.size + 1, 1, none⟩ = some (.slice none 0 0) := (blk_cell B6.out 1).trans rfl
      have g2 := blk_frozen B6.out 0
      have g3 := blk_frozen B6.out 1
      go_wp2_with (fail)
      have b7 := blk_put (blk_put B6.out 0 (.int .i64 h) rfl) 1 (.slice A1 zs.length c1) rfl
      refine bodyPost_ret (results_ct rfl _ _ (w.heap.size + 1) 27 #[.int .i64 h, .slice A1 zs.length c1] (0, 0) _ rfl b7 Try.underlying27 rfl (by kernel_rfl)) rfl ?_
      rw [HEND.out]
      refine ⟨_, rfl, ?_, (((HB.out).setCell (p := ⟨w.heap.size + 1, 0, none⟩) (Nat.le_succ _) _).setCell (p := ⟨w.heap.size + 1, 1, none⟩) (Nat.le_succ _) _)⟩
      exact Kd.S_mono (Kd.S_far (p := ⟨w.heap.size + 1, 1, none⟩) (Kd.S_far (p := ⟨w.heap.size + 1, 0, none⟩) ZS.out (fun k hk => by show k ≠ w.heap.size + 1; omega) _) (fun k hk => by show k ≠ w.heap.size + 1; omega) _) (fun _ _ => trivial)
end Go.Proofs.Ytibaiaenfeppcaa.RMi

/- The reference's RunMoves. -/
namespace Go.Proofs.Ytibaiaenfeppcaa.RMs
open Go Go.RowKit Go.Proofs.YtibaiaenfeppcaaW.PrintWords Go.Proofs.YtibaiaenfeppcaaW.PrintLast Go.Proofs.YtibaiaenfeppcaaW.PrintMore Go.Proofs.Ytibaiaenfeppcaa.Q Go.Proofs.Ytibaiaenfeppcaa.PuY Go.Proofs.Ytibaiaenfeppcaa.PuTO Go.Proofs.Ytibaiaenfeppcaa.PuTN Go.Proofs.Ytibaiaenfeppcaa.PuRM Go.Proofs.Ytibaiaenfeppcaa.Lw Go.Proofs.Ytibaiaenfeppcaa.Ow Go.Proofs.Ytibaiaenfeppcaa.Yo Go.Proofs.Ytibaiaenfeppcaa.Yn Go.Proofs.Ytibaiaenfeppcaa.Yt Go.Proofs.Ytibaiaenfeppcaa.Yq Go.Proofs.Ytibaiaenfeppcaa.Yr
set_option linter.unusedVariables false
set_option linter.unusedSimpArgs false
open Go.Proofs.Ytibaiaenfeppcaa.Yk
end Go.Proofs.Ytibaiaenfeppcaa.RMs

/- RunMoves, told once for all arguments, by both sides. -/
namespace Go.Proofs.Ytibaiaenfeppcaa.RM
open Go Go.RowKit Go.Proofs.YtibaiaenfeppcaaW.PrintWords Go.Proofs.YtibaiaenfeppcaaW.PrintLast Go.Proofs.YtibaiaenfeppcaaW.PrintMore Go.Proofs.Ytibaiaenfeppcaa.Q Go.Proofs.Ytibaiaenfeppcaa.PuY Go.Proofs.Ytibaiaenfeppcaa.PuTO Go.Proofs.Ytibaiaenfeppcaa.PuRM Go.Proofs.Ytibaiaenfeppcaa.Lw Go.Proofs.Ytibaiaenfeppcaa.Yq
set_option linter.unusedVariables false
theorem impl_calls (h : Int) (xs ms : List (List Int)) (A : Option Addr) (c : Nat) (A2 : Option Addr) (c2 : Nat) (w : World) (hC : Kd.C dR w A xs.length xs) (hcl : xs.length ≤ c) (hM : Kd.C dR w A2 ms.length ms) (hcm : ms.length ≤ c2) :
    Calls Try.prog 24 #[.agg #[.int .i64 h, .slice A xs.length c], .slice A2 ms.length c2] w (Out h (runR h xs ms) w) := by
  unfold runR
  by_cases hv : Yv.valid h xs = true
  · by_cases hl : ms.length ≤ 21
    · rw [if_pos ⟨hv, hl⟩]; exact RMi.impl_run h xs ms hv hl A c A2 c2 w hC hcl hM hcm
    · rw [if_neg (fun hh => hl hh.2)]; exact RMi.impl_long h xs ms hv (by omega) A c A2 c2 w hC hcl hM hcm
  · rw [if_neg (fun hh => hv hh.1)]; exact RMi.impl_no h xs ms (by simpa using hv) A c A2 c2 w hC hcl hM hcm
theorem small (h : Int) (xs ms : List (List Int)) : Small (hR h (runR h xs ms)).2 := by
  unfold runR
  by_cases hc : Yv.valid h xs = true ∧ ms.length ≤ 21
  · rw [if_pos hc]
    cases hr : runL h (clearR xs) ms with
    | none => exact small_of _ (by simp [hR]) (by simp [hR])
    | some ys => exact valid_small (runL_valid ms (clearR xs) (clear_valid _ xs rfl hc.1) hr)
  · rw [if_neg hc]; exact small_of _ (by simp [hR]) (by simp [hR])
end Go.Proofs.Ytibaiaenfeppcaa.RM

/- TakeNext, told once for all arguments, by both sides. -/
namespace Go.Proofs.Ytibaiaenfeppcaa.TN
open Go Go.RowKit Go.Proofs.YtibaiaenfeppcaaW.PrintWords Go.Proofs.YtibaiaenfeppcaaW.PrintLast Go.Proofs.YtibaiaenfeppcaaW.PrintMore Go.Proofs.Ytibaiaenfeppcaa.Q Go.Proofs.Ytibaiaenfeppcaa.PuY Go.Proofs.Ytibaiaenfeppcaa.PuTO Go.Proofs.Ytibaiaenfeppcaa.Lw Go.Proofs.Ytibaiaenfeppcaa.Ow Go.Proofs.Ytibaiaenfeppcaa.Yo Go.Proofs.Ytibaiaenfeppcaa.Yn Go.Proofs.Ytibaiaenfeppcaa.Yt Go.Proofs.Ytibaiaenfeppcaa.Yq
set_option linter.unusedVariables false
set_option linter.unusedSimpArgs false
open Go.Proofs.Ytibaiaenfeppcaa.PuTN Go.Proofs.Ytibaiaenfeppcaa.Yr
set_option maxRecDepth 100000 in
set_option maxHeartbeats 4000000 in
theorem impl_no (h : Int) (xs : List (List Int)) (hv : Yv.valid h xs = false)  (A : Option Addr) (c : Nat) (w : World) (hC : Kd.C dR w A xs.length xs) (hcl : xs.length ≤ c) :
    Calls Try.prog 26 #[.agg #[.int .i64 h, .slice A xs.length c]] w (Out h none w) := by
  have hu := Try.underlying27
  have HR := Aside0.mk hC
  have HC := Aside0.mk hcl
  have HV := Aside0.mk (show impl_ValidYard.f h xs = some false from congrArg some hv)
  clear hC hcl hv
  go_enter Try.func26, Try.ntmps26
  go_wp2_with (fail)
  have b2 := below_alloc (below_alloc (Below.refl w.heap.size w) (.cells #[.int .i64 h, .slice A xs.length c] 27)) (.cells #[.int .i64 0, .slice none 0 0] 27)
  refine (impl_ValidYard.calls h A c xs false _ (Kd.C_below HR.out b2) HC.out HV.out).mono ?_
  rintro e w1 ⟨rfl, hb⟩
  have HB := Aside0.mk (below_step b2 hb)
  have B6 := Aside0.mk (blk_below (blk_new' w (.cells #[.int .i64 h, .slice A xs.length c] 27) (.cells #[.int .i64 0, .slice none 0 0] 27)) hb)
  clear hb b2
  have g0 : w1.cell? ⟨w.heap.size + 1, 0, none⟩ = some (.int .i64 0) := (blk_cell B6.out 0).trans rfl
  have g1 : w1.cell? ⟨w.heap.size + 1, 1, none⟩ = some (.slice none 0 0) := (blk_cell B6.out 1).trans rfl
  have g2 := blk_frozen B6.out 0
  have g3 := blk_frozen B6.out 1
  go_wp2_with (fail)
  have b7 := blk_put (blk_put B6.out 0 (.int .i64 0) rfl) 1 (.slice none 0 0) rfl
  refine bodyPost_ret (results_ct rfl _ _ (w.heap.size + 1) 27 #[.int .i64 0, .slice none 0 0] (0, 0) _ rfl b7 Try.underlying27 rfl (by kernel_rfl)) rfl ?_
  exact out_none rfl (((HB.out).setCell (p := ⟨w.heap.size + 1, 0, none⟩) (Nat.le_succ _) _).setCell (p := ⟨w.heap.size + 1, 1, none⟩) (Nat.le_succ _) _)
set_option maxRecDepth 100000 in
set_option maxHeartbeats 4000000 in
theorem impl_any (h : Int) (xs : List (List Int)) (hv : Yv.valid h xs = true)  (A : Option Addr) (c : Nat) (w : World) (hC : Kd.C dR w A xs.length xs) (hcl : xs.length ≤ c) :
    Calls Try.prog 26 #[.agg #[.int .i64 h, .slice A xs.length c]] w (Out h (takeR xs) w) := by
  have hu := Try.underlying27
  have HR := Aside0.mk hC
  have HC := Aside0.mk hcl
  have HV := Aside0.mk (show impl_ValidYard.f h xs = some true from congrArg some hv)
  have HVV := Aside0.mk hv
  clear hC hcl hv
  go_enter Try.func26, Try.ntmps26
  go_wp2_with (fail)
  have b2 := below_alloc (below_alloc (Below.refl w.heap.size w) (.cells #[.int .i64 h, .slice A xs.length c] 27)) (.cells #[.int .i64 0, .slice none 0 0] 27)
  refine (impl_ValidYard.calls h A c xs true _ (Kd.C_below HR.out b2) HC.out HV.out).mono ?_
  rintro e w1 ⟨rfl, hb⟩
  have HB := Aside0.mk (below_step b2 hb)
  have B6 := Aside0.mk (blk_below (blk_new' w (.cells #[.int .i64 h, .slice A xs.length c] 27) (.cells #[.int .i64 0, .slice none 0 0] 27)) hb)
  have HBB := Aside0.mk hb
  clear hb b2
  have hcK0 : w1.cell? ⟨w.heap.size, 0, none⟩ = some (.int .i64 h) := by
    have := HB.out
    exact (blk_cell (blk_below (blk_alloc (blk_new w (.cells #[.int .i64 h, .slice A xs.length c] 27)) (.cells #[.int .i64 0, .slice none 0 0] 27)) (show Below ((w.alloc (.cells #[.int .i64 h, .slice A xs.length c] 27)).alloc (.cells #[.int .i64 0, .slice none 0 0] 27)).heap.size ((w.alloc (.cells #[.int .i64 h, .slice A xs.length c] 27)).alloc (.cells #[.int .i64 0, .slice none 0 0] 27)) w1 from HBB.out)) 0).trans rfl
  have hcK1 : w1.cell? ⟨w.heap.size, 1, none⟩ = some (.slice A xs.length c) := (blk_cell (blk_below (blk_alloc (blk_new w (.cells #[.int .i64 h, .slice A xs.length c] 27)) (.cells #[.int .i64 0, .slice none 0 0] 27)) HBB.out) 1).trans rfl
  go_wp2_with (fail)
  refine (taken_any h xs HVV.out A c w1 (Kd.C_below HR.out HB.out) HC.out).mono ?_
  rintro e w2 ⟨v, rfl, hS, hb⟩
  obtain ⟨Av, cv, rfl⟩ := Kd.S_slice hS
  have HS := Aside0.mk hS
  have HLT := Aside0.mk (blk_lt B6.out)
  have B6 := Aside0.mk (blk_below B6.out hb)
  have HB := Aside0.mk (below_step HB.out hb)
  clear hS hb hcK0 hcK1
  have g0 : w2.cell? ⟨w.heap.size + 1, 0, none⟩ = some (.int .i64 0) := (blk_cell B6.out 0).trans rfl
  have g1 : w2.cell? ⟨w.heap.size + 1, 1, none⟩ = some (.slice none 0 0) := (blk_cell B6.out 1).trans rfl
  have g2 := blk_frozen B6.out 0
  have g3 := blk_frozen B6.out 1
  go_wp2_with (fail)
  have b7 := blk_put (blk_put B6.out 0 (.int .i64 (hR h (takeR xs)).1) rfl) 1 (.slice Av (hR h (takeR xs)).2.length cv) rfl
  refine bodyPost_ret (results_ct rfl _ _ (w.heap.size + 1) 27 #[.int .i64 (hR h (takeR xs)).1, .slice Av (hR h (takeR xs)).2.length cv] (0, 0) _ rfl b7 Try.underlying27 rfl (by kernel_rfl)) rfl ?_
  refine ⟨_, rfl, ?_, (((HB.out).setCell (p := ⟨w.heap.size + 1, 0, none⟩) (Nat.le_succ _) _).setCell (p := ⟨w.heap.size + 1, 1, none⟩) (Nat.le_succ _) _)⟩
  exact Kd.S_mono (Kd.S_far (p := ⟨w.heap.size + 1, 1, none⟩) (Kd.S_far (p := ⟨w.heap.size + 1, 0, none⟩) (Kd.S_lower (Kd.S_bound HS.out) (by have := HLT.out; omega)) (fun k hk => by have := hk.2.1; have := HLT.out; show k ≠ w.heap.size + 1; omega) _) (fun k hk => by have := hk.2.1; have := HLT.out; show k ≠ w.heap.size + 1; omega) _) (fun _ _ => trivial)
/-- What TakeNext hands back. -/
def res (h : Int) (xs : List (List Int)) : Option (List (List Int)) := if Yv.valid h xs = true then takeR xs else none
theorem impl_calls (h : Int) (xs : List (List Int)) (A : Option Addr) (c : Nat) (w : World) (hC : Kd.C dR w A xs.length xs) (hcl : xs.length ≤ c) :
    Calls Try.prog 26 #[.agg #[.int .i64 h, .slice A xs.length c]] w (Out h (res h xs) w) := by
  unfold res
  by_cases hv : Yv.valid h xs = true
  · rw [if_pos hv]; exact impl_any h xs hv A c w hC hcl
  · rw [if_neg hv]; exact impl_no h xs (by simpa using hv) A c w hC hcl
theorem small (h : Int) (xs : List (List Int)) (hs : Small xs) : Small (hR h (res h xs)).2 := by
  unfold res
  by_cases hv : Yv.valid h xs = true
  · rw [if_pos hv]
    obtain ⟨h1, h2, h4, -⟩ := take_parts hv
    cases e : takeR xs with
    | none => exact small_of _ (by simp [hR]) (by simp [hR])
    | some ys =>
      obtain ⟨a1, a2⟩ := take_len e
      refine small_of _ (by simp only [hR]; omega) (fun r hr => ?_)
      simp only [hR] at hr
      obtain ⟨i, hi, rfl⟩ := List.mem_iff_getElem.1 hr
      have b1 := a2 i
      rw [getD_at ys i hi, getD_at xs i (by omega)] at b1
      have b2 := h4 _ (List.getElem_mem (show i < xs.length by omega))
      omega
  · rw [if_neg hv]; exact small_of _ (by simp [hR]) (by simp [hR])
end Go.Proofs.Ytibaiaenfeppcaa.TN

-- made by a patched copy of print.sh: this session's own
namespace Go.Proofs.Ytibaiaenfeppcaa.Q
open Go.RowKit Go.Proofs.YtibaiaenfeppcaaW.PrintWords Go.Proofs.YtibaiaenfeppcaaW.PrintLast Go.Proofs.YtibaiaenfeppcaaW.PrintMore
attribute [local go_sem] max2_int min2_int max_two min_two max_three min_three max_four min_four   -- for this text's walks alone
set_option linter.unusedVariables false
set_option linter.unusedSimpArgs false

/-- A state of type 81 at block g of W; what its slices lead to came in by w0. -/
def IsS81 (w0 W : World) (g : Nat) (f0 : List Int) (f1 : Int) (f2 : Int) : Prop := ∃ A0 c0, W.heap[g]? = some (.cells #[.slice A0 f0.length c0, .int .i64 f1, .int .u64 f2] 81 (0, 0)) ∧ w0.heap.size ≤ g ∧ Kd.C (Kd.int .u8) w0 A0 f0.length f0
theorem IsS81.grown {w0 W : World} {g : Nat} {f0 : List Int} {f1 : Int} {f2 : Int} {W1 : World} {row : Option Nat} (h : IsS81 w0 W g f0 f1 f2) (hw : W.grownBy W1 row) (hne : some g ≠ row) : IsS81 w0 W1 g f0 f1 f2 := by
  obtain ⟨A0, c0, hb, hg, hr0⟩ := h
  exact ⟨A0, c0, blk_grown hb hw hne, hg, hr0⟩
theorem IsS81.kept {w0 W : World} {g : Nat} {f0 : List Int} {f1 : Int} {f2 : Int} {W1 : World} {S : Nat → Prop} (h : IsS81 w0 W g f0 f1 f2) (hk : Kept W W1 S) (hne : ¬ S g) : IsS81 w0 W1 g f0 f1 f2 := by
  obtain ⟨A0, c0, hb, hg, hr0⟩ := h
  exact ⟨A0, c0, blk_kept hb hk hne, hg, hr0⟩
theorem IsS81.below {w0 W : World} {g : Nat} {f0 : List Int} {f1 : Int} {f2 : Int} {W1 : World} (h : IsS81 w0 W g f0 f1 f2) (hw : Below W.heap.size W W1) : IsS81 w0 W1 g f0 f1 f2 := h.grown (grown_of_below hw none) (by simp)
theorem IsS81.alloc {w0 W : World} {g : Nat} {f0 : List Int} {f1 : Int} {f2 : Int} (h : IsS81 w0 W g f0 f1 f2) (o : Obj) : IsS81 w0 (W.alloc o) g f0 f1 f2 := h.below (below_alloc (Below.refl _ _) o)
theorem IsS81.drewN {w0 W : World} {g : Nat} {f0 : List Int} {f1 : Int} {f2 : Int} (h : IsS81 w0 W g f0 f1 f2) (m : Nat) : IsS81 w0 (W.drewN m) g f0 f1 f2 := h
theorem IsS81.drew {w0 W : World} {g : Nat} {f0 : List Int} {f1 : Int} {f2 : Int} (h : IsS81 w0 W g f0 f1 f2) : IsS81 w0 W.drew g f0 f1 f2 := h
theorem IsS81.at_ {w0 W : World} {g : Nat} {f0 : List Int} {f1 : Int} {f2 : Int} {w' : World} {m : Nat} (hq : W.drewN m = w') (h : IsS81 w0 W g f0 f1 f2) : IsS81 w0 w' g f0 f1 f2 := by subst hq; exact IsS81.drewN h m
theorem IsS81.apart {w0 W : World} {g : Nat} {f0 : List Int} {f1 : Int} {f2 : Int} {α : Type} {d : Kd α} {e : Nat} {base : Nat} {ok : Nat → Prop} {v : Value} {xs : List α} (h : IsS81 w0 W g f0 f1 f2) (ho : d.R e W base ok v xs) (ht : ∀ q, q ∈ e :: d.E → q ≠ 81) : d.R e W base (fun k => ok k ∧ k ≠ g) v xs := by
  obtain ⟨A0, c0, hb, hg, hr0⟩ := h
  exact Kd.R_types ho hb ht
theorem IsS81.own_ne {w0 W : World} {g : Nat} {f0 : List Int} {f1 : Int} {f2 : Int} {α : Type} {d : Kd α} {e : Nat} {base : Nat} {ok : Nat → Prop} {v : Value} {xs : List α} (h : IsS81 w0 W g f0 f1 f2) (ho : d.R e W base ok v xs) (ht : e ≠ 81) : some g ≠ v.ownBlock := by
  obtain ⟨A0, c0, hb, hg, hr0⟩ := h
  exact Kd.R_ne ho hb ht
theorem IsS81.apartS {w0 W : World} {g : Nat} {f0 : List Int} {f1 : Int} {f2 : Int} {α : Type} {d : Kd α} {e : Nat} {base : Nat} {ok : Nat → Prop} {v : Value} {xs : List α} (h : IsS81 w0 W g f0 f1 f2) (ho : d.S e W base ok v xs) (ht : ∀ q, q ∈ e :: d.E → q ≠ 81) : d.S e W base (fun k => ok k ∧ k ≠ g) v xs := by
  obtain ⟨A0, c0, hb, hg, hr0⟩ := h
  exact Kd.S_types ho hb ht
theorem IsS81.own_neS {w0 W : World} {g : Nat} {f0 : List Int} {f1 : Int} {f2 : Int} {α : Type} {d : Kd α} {e : Nat} {base : Nat} {ok : Nat → Prop} {v : Value} {xs : List α} (h : IsS81 w0 W g f0 f1 f2) (ho : d.S e W base ok v xs) (ht : e ≠ 81) : some g ≠ v.ownBlock := by
  obtain ⟨A0, c0, hb, hg, hr0⟩ := h
  exact Kd.S_ne ho hb ht
theorem IsS81.lt {w0 W : World} {g : Nat} {f0 : List Int} {f1 : Int} {f2 : Int} (h : IsS81 w0 W g f0 f1 f2) : g < W.heap.size := by
  obtain ⟨A0, c0, hb, hg, hr0⟩ := h
  exact blk_lt hb
theorem IsS81.ge {w0 W : World} {g : Nat} {f0 : List Int} {f1 : Int} {f2 : Int} (h : IsS81 w0 W g f0 f1 f2) : w0.heap.size ≤ g := by
  obtain ⟨A0, c0, hb, hg, hr0⟩ := h
  exact hg
theorem IsS81.ne_blk {w0 W : World} {g : Nat} {f0 : List Int} {f1 : Int} {f2 : Int} {a : Nat} {cs : Array Value} {t : TypeId} {fr : Nat × Nat} (h : IsS81 w0 W g f0 f1 f2) (hb2 : W.heap[a]? = some (.cells cs t fr)) (ht : t ≠ 81) : g ≠ a := by
  obtain ⟨A0, c0, hb, hg, hr0⟩ := h
  rintro rfl
  rw [hb] at hb2
  injection hb2 with hb2
  injection hb2 with _ ht2
  exact ht ht2.symm
theorem IsS81.far {w0 W : World} {g : Nat} {f0 : List Int} {f1 : Int} {f2 : Int} {p : Addr} (h : IsS81 w0 W g f0 f1 f2) (hne : g ≠ p.block) (u : Value) : IsS81 w0 (W.setCell p u) g f0 f1 f2 := by
  obtain ⟨A0, c0, hb, hg, hr0⟩ := h
  exact ⟨A0, c0, blk_far hb hne u, hg, hr0⟩
theorem cellS81_0 {W : World} {g : Nat} {A0 : Option Addr} {c0 : Nat} {f0 : List Int} {f1 : Int} {f2 : Int} (h : W.heap[g]? = some (.cells #[.slice A0 f0.length c0, .int .i64 f1, .int .u64 f2] 81 (0, 0))) : W.cell? ⟨g, 0, none⟩ = some (.slice A0 f0.length c0) := (blk_cell h 0).trans rfl
theorem cellS81_1 {W : World} {g : Nat} {A0 : Option Addr} {c0 : Nat} {f0 : List Int} {f1 : Int} {f2 : Int} (h : W.heap[g]? = some (.cells #[.slice A0 f0.length c0, .int .i64 f1, .int .u64 f2] 81 (0, 0))) : W.cell? ⟨g, 1, none⟩ = some (.int .i64 f1) := (blk_cell h 1).trans rfl
theorem IsS81.set_1 {w0 W : World} {g : Nat} {f0 : List Int} {f1 : Int} {f2 : Int} (h : IsS81 w0 W g f0 f1 f2) (x : Int) : IsS81 w0 (W.setCell ⟨g, 1, none⟩ (.int .i64 x)) g f0 x f2 := by
  obtain ⟨A0, c0, hb, hg, hr0⟩ := h
  exact ⟨A0, c0, by simpa using blk_set hb 1 (.int .i64 x), hg, hr0⟩
theorem cellS81_2 {W : World} {g : Nat} {A0 : Option Addr} {c0 : Nat} {f0 : List Int} {f1 : Int} {f2 : Int} (h : W.heap[g]? = some (.cells #[.slice A0 f0.length c0, .int .i64 f1, .int .u64 f2] 81 (0, 0))) : W.cell? ⟨g, 2, none⟩ = some (.int .u64 f2) := (blk_cell h 2).trans rfl
theorem IsS81.set_2 {w0 W : World} {g : Nat} {f0 : List Int} {f1 : Int} {f2 : Int} (h : IsS81 w0 W g f0 f1 f2) (x : Int) : IsS81 w0 (W.setCell ⟨g, 2, none⟩ (.int .u64 x)) g f0 f1 x := by
  obtain ⟨A0, c0, hb, hg, hr0⟩ := h
  exact ⟨A0, c0, by simpa using blk_set hb 2 (.int .u64 x), hg, hr0⟩
theorem IsS81.new (w0 W : World) (A0 : Option Addr) (c0 : Nat) (f0 : List Int) (f1 : Int) (f2 : Int) (hB : Below w0.heap.size w0 W) (hr0 : Kd.C (Kd.int .u8) w0 A0 f0.length f0) : IsS81 w0 (W.alloc (.cells #[.slice A0 f0.length c0, .int .i64 f1, .int .u64 f2] 81)) W.heap.size f0 f1 f2 := ⟨A0, c0, by simpa using heap_alloc_new W _, hB.size, hr0⟩

/-! ### spec_l00From: function 44 -/
def spec_l00From.f (l0 : List Int) : Option (List Int × Int × Int) := some (l0, 0, 0)
set_option maxHeartbeats 8000000 in
set_option maxRecDepth 100000 in
theorem spec_l00From.calls (A0 : Option Addr) (c0 : Nat) (l0 : List Int) (r1 : List Int) (r2 : Int) (r3 : Int) (w0 w : World) (hB : Below w0.heap.size w0 w) (hr0 : Kd.C (Kd.int .u8) w0 A0 l0.length l0) (hc0 : l0.length ≤ c0) (h : spec_l00From.f l0 = some (r1, r2, r3)) :
    Calls Try.prog 44 #[.slice A0 l0.length c0] w fun e w' => ∃ g_ : Nat, e = .returned (.pointer (some ⟨g_, 0, none⟩)) ∧ IsS81 w0 w' g_ r1 r2 r3 ∧ Below w0.heap.size w0 w' ∧ Below w.heap.size w w' := by
  have hu81 := Try.underlying81
  have HR0 := Aside0.mk hr0
  have HC0 := Aside0.mk hc0
  clear hr0 hc0
  have HBW := Aside0.mk (Below.refl w.heap.size w)
  have HW0 := Aside0.mk hB.size
  have HB := Aside0.mk hB
  clear hB
  have H : (some (l0, 0, 0)) = some (r1, r2, r3) := h
  clear h
  simp only [Option.some.injEq, Prod.mk.injEq] at H
  obtain ⟨rfl, rfl, rfl⟩ := H
  go_enter Try.func44, Try.ntmps44
  go_wp2_with (first | ((with_reducible refine gate_dst (N := 5) rfl ?_); refine box_event ?hg (N := 5) ?hd (cs := #[.slice A0 l0.length c0, .int .i64 0, .int .u64 0]) (t := 81) ?hr ?_; (case hd => rfl); (case hg => rfl); (case hr => first | (go_simp; done) | (go_simp; rfl)); intro gb344 hg w2 hbox hb; have n0_ := Aside0.mk (below_step HBW.out hb); have n1_ := Aside0.mk (below_step (by repeat (first | (with_reducible first | exact HB.out | apply below_alloc | apply pw_below_drewN | apply below_drew1) | exact HB.out)) hb); have n2_ := Aside0.mk (hbox); have n3_ := Aside0.mk ((by rw [hg]; exact (below_size (by repeat (first | (with_reducible first | exact HBW.out | apply below_alloc | apply pw_below_drewN | apply below_drew1) | exact HBW.out))) : w.heap.size ≤ gb344)); have n4_ := Aside0.mk ((Nat.le_trans HW0.out (by rw [hg]; exact (below_size (by repeat (first | (with_reducible first | exact HBW.out | apply below_alloc | apply pw_below_drewN | apply below_drew1) | exact HBW.out))) : w.heap.size ≤ gb344) : w0.heap.size ≤ gb344)); clear HBW; clear HB; have HBW := n0_; have HB := n1_; have BK344 := n2_; have GW344 := n3_; have GE344 := n4_; clear n0_ n1_ n2_ n3_ n4_; clear hb hbox hg))
  go_ret
  exact ⟨_, rfl, (show IsS81 w0 _ gb344 l0 0 0 from ⟨_, _, by (with_reducible repeat (first | refine blk_drewN ?_ _ | refine blk_drew ?_ | refine blk_alloc ?_ _)); exact BK344.out, GE344.out, HR0.out⟩), by repeat (first | (with_reducible first | exact HB.out | apply below_alloc | apply pw_below_drewN | apply below_drew1 | refine below_set ?_ GE344.out) | exact HB.out), by repeat (first | (with_reducible first | exact HBW.out | apply below_alloc | apply pw_below_drewN | apply below_drew1 | refine below_set ?_ GW344.out) | exact HBW.out)⟩

end Go.Proofs.Ytibaiaenfeppcaa.Q

-- made by a patched copy of print.sh: this session's own
namespace Go.Proofs.Ytibaiaenfeppcaa.Q
open Go.RowKit Go.Proofs.YtibaiaenfeppcaaW.PrintWords Go.Proofs.YtibaiaenfeppcaaW.PrintLast Go.Proofs.YtibaiaenfeppcaaW.PrintMore
attribute [local go_sem] max2_int min2_int max_two min_two max_three min_three max_four min_four   -- for this text's walks alone
set_option linter.unusedVariables false
set_option linter.unusedSimpArgs false

/-! ### spec_l00Src_next: function 80 -/
def spec_l00Src_next.f (s0_0 : List Int) (s0_1 : Int) (s0_2 : Int) : Option (Int × Int × Int) := if s0_1 < (s0_0.length : Int) then (if 0 ≤ s0_1 then (if (wrap64 (s0_1 + 1)) ≤ (s0_0.length : Int) then (some (wrap64 (rd s0_0 s0_1), wrap64 (s0_1 + 1), IntKind.u64.wrap ((IntKind.u64.wrap ((IntKind.u64.wrap (s0_2 * 6364136223846793005)) + (IntKind.u64.wrap (wrap64 (rd s0_0 s0_1))))) + 1442695040888963407))) else (some (wrap64 (Go.bits .and .u64 ((IntKind.u64.wrap ((IntKind.u64.wrap ((IntKind.u64.wrap (s0_2 * 6364136223846793005)) + (IntKind.u64.wrap (wrap64 (rd s0_0 s0_1))))) + 1442695040888963407)) / 1099511627776) 255), wrap64 (s0_1 + 1), IntKind.u64.wrap ((IntKind.u64.wrap ((IntKind.u64.wrap (s0_2 * 6364136223846793005)) + (IntKind.u64.wrap (wrap64 (rd s0_0 s0_1))))) + 1442695040888963407)))) else (none)) else (if (wrap64 (s0_1 + 1)) ≤ (s0_0.length : Int) then (some (0, wrap64 (s0_1 + 1), IntKind.u64.wrap ((IntKind.u64.wrap ((IntKind.u64.wrap (s0_2 * 6364136223846793005)))) + 1442695040888963407))) else (some (wrap64 (Go.bits .and .u64 ((IntKind.u64.wrap ((IntKind.u64.wrap ((IntKind.u64.wrap (s0_2 * 6364136223846793005)))) + 1442695040888963407)) / 1099511627776) 255), wrap64 (s0_1 + 1), IntKind.u64.wrap ((IntKind.u64.wrap ((IntKind.u64.wrap (s0_2 * 6364136223846793005)))) + 1442695040888963407))))
set_option maxHeartbeats 8000000 in
set_option maxRecDepth 100000 in
theorem spec_l00Src_next.calls (g : Nat) (s0_0 : List Int) (s0_1 : Int) (s0_2 : Int) (r1 : Int) (r2 : Int) (r3 : Int) (w0 w : World) (hI : IsS81 w0 w g s0_0 s0_1 s0_2) (hB : Below w0.heap.size w0 w) (h : spec_l00Src_next.f s0_0 s0_1 s0_2 = some (r1, r2, r3)) :
    Calls Try.prog 80 #[.pointer (some ⟨g, 0, none⟩)] w fun e w' => e = .returned (.int .i64 r1) ∧ IsS81 w0 w' g s0_0 r2 r3 ∧ Below w0.heap.size w0 w' ∧ KeepBut w w' g none := by
  have HI0 := Aside0.mk hI
  have HK := Aside0.mk (KeepBut.refl w g none)
  have HL := Aside0.mk hB.size
  clear hI
  have HW0 := Aside0.mk hB.size
  have HB := Aside0.mk hB
  clear hB
  have H : (if s0_1 < (s0_0.length : Int) then (if 0 ≤ s0_1 then (if (wrap64 (s0_1 + 1)) ≤ (s0_0.length : Int) then (some (wrap64 (rd s0_0 s0_1), wrap64 (s0_1 + 1), IntKind.u64.wrap ((IntKind.u64.wrap ((IntKind.u64.wrap (s0_2 * 6364136223846793005)) + (IntKind.u64.wrap (wrap64 (rd s0_0 s0_1))))) + 1442695040888963407))) else (some (wrap64 (Go.bits .and .u64 ((IntKind.u64.wrap ((IntKind.u64.wrap ((IntKind.u64.wrap (s0_2 * 6364136223846793005)) + (IntKind.u64.wrap (wrap64 (rd s0_0 s0_1))))) + 1442695040888963407)) / 1099511627776) 255), wrap64 (s0_1 + 1), IntKind.u64.wrap ((IntKind.u64.wrap ((IntKind.u64.wrap (s0_2 * 6364136223846793005)) + (IntKind.u64.wrap (wrap64 (rd s0_0 s0_1))))) + 1442695040888963407)))) else (none)) else (if (wrap64 (s0_1 + 1)) ≤ (s0_0.length : Int) then (some (0, wrap64 (s0_1 + 1), IntKind.u64.wrap ((IntKind.u64.wrap ((IntKind.u64.wrap (s0_2 * 6364136223846793005)))) + 1442695040888963407))) else (some (wrap64 (Go.bits .and .u64 ((IntKind.u64.wrap ((IntKind.u64.wrap ((IntKind.u64.wrap (s0_2 * 6364136223846793005)))) + 1442695040888963407)) / 1099511627776) 255), wrap64 (s0_1 + 1), IntKind.u64.wrap ((IntKind.u64.wrap ((IntKind.u64.wrap (s0_2 * 6364136223846793005)))) + 1442695040888963407))))) = some (r1, r2, r3) := h
  clear h
  by_cases c2 : s0_1 < (s0_0.length : Int)
  · rw [if_pos c2] at H
    have c2b0 : decide (s0_1 < (s0_0.length : Int)) = true := decide_eq_true c2
    clear c2
    by_cases c3 : 0 ≤ s0_1
    · rw [if_pos c3] at H
      have c3b0 : decide (0 ≤ s0_1) = true := decide_eq_true c3
      clear c3
      by_cases c4 : (wrap64 (s0_1 + 1)) ≤ (s0_0.length : Int)
      · rw [if_pos c4] at H
        have c4b0 : decide ((wrap64 (s0_1 + 1)) ≤ (s0_0.length : Int)) = true := decide_eq_true c4
        clear c4
        simp only [Option.some.injEq, Prod.mk.injEq] at H
        obtain ⟨rfl, rfl, rfl⟩ := H
        obtain ⟨ASz5_0, cSz5_0, HGz5, hgz5, HSz5_0⟩ := HI0.out
        have hcz5_0 := cellS81_0 HGz5
        have hcz5_1 := cellS81_1 HGz5
        have hcz5_2 := cellS81_2 HGz5
        have hfz5_1 := blk_frozen HGz5 1
        have hfz5_2 := blk_frozen HGz5 2
        clear HGz5 hgz5
        have p345 : 0 ≤ (s0_1 : Int) := of_decide_eq_true (by first | (with_reducible assumption) | assumption)
        have q345 : s0_1 < (s0_0.length : Int) := of_decide_eq_true (by first | (with_reducible assumption) | assumption)
        obtain ⟨ad345, e345, hx345_0⟩ := Kd.at_int HSz5_0 s0_1 p345 q345
        cases e345
        replace hx345_0 := pw_cell_below HB.out hx345_0
        replace p345 := eq_true p345
        replace q345 := eq_true q345
        go_enter Try.func80, Try.ntmps80
        go_wp2
        repeat (go_quiet (fail); try go_wp2)
        go_ret
        exact ⟨by first | rfl | (simp [errW_none, errW_some] <;> rfl) | (simp [*, errW_none, errW_some] <;> rfl), by repeat (first | (with_reducible first | exact HI0.out | apply IsS81.alloc | apply IsS81.drewN | apply IsS81.drew | apply IsS81.set_1 | apply IsS81.set_2) | exact HI0.out), by repeat (first | (with_reducible first | exact HB.out | apply below_alloc | apply pw_below_drewN | apply below_drew1 | refine below_set ?_ (IsS81.ge HI0.out)) | exact HB.out), by repeat (first | (with_reducible first | exact HK.out | apply KeepBut.set_ | apply keep_drewN | apply keep_drew | apply keep_alloc) | exact HK.out)⟩
      · rw [if_neg c4] at H
        have c4b0 : decide ((wrap64 (s0_1 + 1)) ≤ (s0_0.length : Int)) = false := decide_eq_false c4
        clear c4
        simp only [Option.some.injEq, Prod.mk.injEq] at H
        obtain ⟨rfl, rfl, rfl⟩ := H
        obtain ⟨ASz6_0, cSz6_0, HGz6, hgz6, HSz6_0⟩ := HI0.out
        have hcz6_0 := cellS81_0 HGz6
        have hcz6_1 := cellS81_1 HGz6
        have hcz6_2 := cellS81_2 HGz6
        have hfz6_1 := blk_frozen HGz6 1
        have hfz6_2 := blk_frozen HGz6 2
        clear HGz6 hgz6
        have p345 : 0 ≤ (s0_1 : Int) := of_decide_eq_true (by first | (with_reducible assumption) | assumption)
        have q345 : s0_1 < (s0_0.length : Int) := of_decide_eq_true (by first | (with_reducible assumption) | assumption)
        obtain ⟨ad345, e345, hx345_0⟩ := Kd.at_int HSz6_0 s0_1 p345 q345
        cases e345
        replace hx345_0 := pw_cell_below HB.out hx345_0
        replace p345 := eq_true p345
        replace q345 := eq_true q345
        go_enter Try.func80, Try.ntmps80
        go_wp2
        repeat (go_quiet (fail); try go_wp2)
        go_ret
        exact ⟨by first | rfl | (simp [errW_none, errW_some] <;> rfl) | (simp [*, errW_none, errW_some] <;> rfl), by repeat (first | (with_reducible first | exact HI0.out | apply IsS81.alloc | apply IsS81.drewN | apply IsS81.drew | apply IsS81.set_1 | apply IsS81.set_2) | exact HI0.out), by repeat (first | (with_reducible first | exact HB.out | apply below_alloc | apply pw_below_drewN | apply below_drew1 | refine below_set ?_ (IsS81.ge HI0.out)) | exact HB.out), by repeat (first | (with_reducible first | exact HK.out | apply KeepBut.set_ | apply keep_drewN | apply keep_drew | apply keep_alloc) | exact HK.out)⟩
    · rw [if_neg c3] at H
      exact absurd H (by simp)
  · rw [if_neg c2] at H
    have c2b0 : decide (s0_1 < (s0_0.length : Int)) = false := decide_eq_false c2
    clear c2
    by_cases c7 : (wrap64 (s0_1 + 1)) ≤ (s0_0.length : Int)
    · rw [if_pos c7] at H
      have c7b0 : decide ((wrap64 (s0_1 + 1)) ≤ (s0_0.length : Int)) = true := decide_eq_true c7
      clear c7
      simp only [Option.some.injEq, Prod.mk.injEq] at H
      obtain ⟨rfl, rfl, rfl⟩ := H
      obtain ⟨ASz8_0, cSz8_0, HGz8, hgz8, HSz8_0⟩ := HI0.out
      have hcz8_0 := cellS81_0 HGz8
      have hcz8_1 := cellS81_1 HGz8
      have hcz8_2 := cellS81_2 HGz8
      have hfz8_1 := blk_frozen HGz8 1
      have hfz8_2 := blk_frozen HGz8 2
      clear HGz8 hgz8
      go_enter Try.func80, Try.ntmps80
      go_wp2
      repeat (go_quiet (fail); try go_wp2)
      go_ret
      exact ⟨by first | rfl | (simp [errW_none, errW_some] <;> rfl) | (simp [*, errW_none, errW_some] <;> rfl), by repeat (first | (with_reducible first | exact HI0.out | apply IsS81.alloc | apply IsS81.drewN | apply IsS81.drew | apply IsS81.set_1 | apply IsS81.set_2) | exact HI0.out), by repeat (first | (with_reducible first | exact HB.out | apply below_alloc | apply pw_below_drewN | apply below_drew1 | refine below_set ?_ (IsS81.ge HI0.out)) | exact HB.out), by repeat (first | (with_reducible first | exact HK.out | apply KeepBut.set_ | apply keep_drewN | apply keep_drew | apply keep_alloc) | exact HK.out)⟩
    · rw [if_neg c7] at H
      have c7b0 : decide ((wrap64 (s0_1 + 1)) ≤ (s0_0.length : Int)) = false := decide_eq_false c7
      clear c7
      simp only [Option.some.injEq, Prod.mk.injEq] at H
      obtain ⟨rfl, rfl, rfl⟩ := H
      obtain ⟨ASz9_0, cSz9_0, HGz9, hgz9, HSz9_0⟩ := HI0.out
      have hcz9_0 := cellS81_0 HGz9
      have hcz9_1 := cellS81_1 HGz9
      have hcz9_2 := cellS81_2 HGz9
      have hfz9_1 := blk_frozen HGz9 1
      have hfz9_2 := blk_frozen HGz9 2
      clear HGz9 hgz9
      go_enter Try.func80, Try.ntmps80
      go_wp2
      repeat (go_quiet (fail); try go_wp2)
      go_ret
      exact ⟨by first | rfl | (simp [errW_none, errW_some] <;> rfl) | (simp [*, errW_none, errW_some] <;> rfl), by repeat (first | (with_reducible first | exact HI0.out | apply IsS81.alloc | apply IsS81.drewN | apply IsS81.drew | apply IsS81.set_1 | apply IsS81.set_2) | exact HI0.out), by repeat (first | (with_reducible first | exact HB.out | apply below_alloc | apply pw_below_drewN | apply below_drew1 | refine below_set ?_ (IsS81.ge HI0.out)) | exact HB.out), by repeat (first | (with_reducible first | exact HK.out | apply KeepBut.set_ | apply keep_drewN | apply keep_drew | apply keep_alloc) | exact HK.out)⟩

end Go.Proofs.Ytibaiaenfeppcaa.Q

-- mended

-- made by a patched copy of print.sh: this session's own
namespace Go.Proofs.Ytibaiaenfeppcaa.Q
open Go.RowKit Go.Proofs.YtibaiaenfeppcaaW.PrintWords Go.Proofs.YtibaiaenfeppcaaW.PrintLast Go.Proofs.YtibaiaenfeppcaaW.PrintMore
attribute [local go_sem] max2_int min2_int max_two min_two max_three min_three max_four min_four   -- for this text's walks alone
set_option linter.unusedVariables false
set_option linter.unusedSimpArgs false

/-! ### spec_l00Src_pick: function 69 -/
def spec_l00Src_pick.f (s0_0 : List Int) (s0_1 : Int) (s0_2 : Int) (a1 : Int) : Option (Int × Int × Int) := if a1 ≤ 1 then (some (0, s0_1, s0_2)) else ((spec_l00Src_next.f s0_0 s0_1 s0_2).bind fun bt346 => (if a1 > 200 then ((spec_l00Src_next.f s0_0 bt346.2.1 bt346.2.2).bind fun bt349 => (if a1 = 0 then (none) else (some (Int.tmod (wrap64 ((wrap64 (bt346.1 * 256)) + bt349.1)) a1, bt349.2.1, bt349.2.2)))) else (if a1 = 0 then (none) else (some (Int.tmod bt346.1 a1, bt346.2.1, bt346.2.2)))))
set_option maxHeartbeats 8000000 in
set_option maxRecDepth 100000 in
theorem spec_l00Src_pick.calls (g : Nat) (s0_0 : List Int) (s0_1 : Int) (s0_2 : Int) (a1 : Int) (r1 : Int) (r2 : Int) (r3 : Int) (w0 w : World) (hI : IsS81 w0 w g s0_0 s0_1 s0_2) (hB : Below w0.heap.size w0 w) (h : spec_l00Src_pick.f s0_0 s0_1 s0_2 a1 = some (r1, r2, r3)) :
    Calls Try.prog 69 #[.pointer (some ⟨g, 0, none⟩), .int .i64 a1] w fun e w' => e = .returned (.int .i64 r1) ∧ IsS81 w0 w' g s0_0 r2 r3 ∧ Below w0.heap.size w0 w' ∧ KeepBut w w' g none := by
  have HI0 := Aside0.mk hI
  have HK := Aside0.mk (KeepBut.refl w g none)
  have HL := Aside0.mk hB.size
  clear hI
  have HW0 := Aside0.mk hB.size
  have HB := Aside0.mk hB
  clear hB
  have H : (if a1 ≤ 1 then (some (0, s0_1, s0_2)) else ((spec_l00Src_next.f s0_0 s0_1 s0_2).bind fun bt346 => (if a1 > 200 then ((spec_l00Src_next.f s0_0 bt346.2.1 bt346.2.2).bind fun bt349 => (if a1 = 0 then (none) else (some (Int.tmod (wrap64 ((wrap64 (bt346.1 * 256)) + bt349.1)) a1, bt349.2.1, bt349.2.2)))) else (if a1 = 0 then (none) else (some (Int.tmod bt346.1 a1, bt346.2.1, bt346.2.2)))))) = some (r1, r2, r3) := h
  clear h
  by_cases c3 : a1 ≤ 1
  · rw [if_pos c3] at H
    have c3b0 : decide (a1 ≤ 1) = true := decide_eq_true c3
    clear c3
    simp only [Option.some.injEq, Prod.mk.injEq] at H
    obtain ⟨rfl, rfl, rfl⟩ := H
    go_enter Try.func69, Try.ntmps69
    go_wp2
    go_ret
    exact ⟨by first | rfl | (simp [errW_none, errW_some] <;> rfl) | (simp [*, errW_none, errW_some] <;> rfl), by repeat (first | (with_reducible first | exact HI0.out | apply IsS81.alloc | apply IsS81.drewN | apply IsS81.drew | apply IsS81.set_1 | apply IsS81.set_2) | exact HI0.out), by repeat (first | (with_reducible first | exact HB.out | apply below_alloc | apply pw_below_drewN | apply below_drew1 | refine below_set ?_ (IsS81.ge HI0.out)) | exact HB.out), by repeat (first | (with_reducible first | exact HK.out | apply KeepBut.set_ | apply keep_drewN | apply keep_drew | apply keep_alloc) | exact HK.out)⟩
  · rw [if_neg c3] at H
    have c3b0 : decide (a1 ≤ 1) = false := decide_eq_false c3
    clear c3
    replace H := Option.bind_eq_some_iff.mp H
    obtain ⟨⟨t346, t347, t348⟩, A40, H⟩ := H
    replace H : (if a1 > 200 then ((spec_l00Src_next.f s0_0 t347 t348).bind fun bt349 => (if a1 = 0 then (none) else (some (Int.tmod (wrap64 ((wrap64 (t346 * 256)) + bt349.1)) a1, bt349.2.1, bt349.2.2)))) else (if a1 = 0 then (none) else (some (Int.tmod t346 a1, t347, t348)))) = some (r1, r2, r3) := H
    have A4 := Aside0.mk A40
    clear A40
    by_cases c5 : a1 > 200
    · rw [if_pos c5] at H
      have c5b0 : decide (200 < a1) = true := decide_eq_true c5
      clear c5
      replace H := Option.bind_eq_some_iff.mp H
      obtain ⟨⟨t349, t350, t351⟩, A60, H⟩ := H
      replace H : (if a1 = 0 then (none) else (some (Int.tmod (wrap64 ((wrap64 (t346 * 256)) + t349)) a1, t350, t351))) = some (r1, r2, r3) := H
      have A6 := Aside0.mk A60
      clear A60
      by_cases c7 : a1 = 0
      · rw [if_pos c7] at H
        exact absurd H (by simp)
      · rw [if_neg c7] at H
        have c7b0 : (a1 == 0) = false := beq_eq_false_iff_ne.mpr c7
        have c7b1 : (a1 != 0) = true := bne_iff_ne.mpr c7
        simp only [Option.some.injEq, Prod.mk.injEq] at H
        obtain ⟨rfl, rfl, rfl⟩ := H
        go_enter Try.func69, Try.ntmps69
        go_wp2_with (first | ((with_reducible refine gate_callee (f := 80) rfl ?_); refine goesL_ (some 9) rfl rfl Try.func80 (by kernel_rfl) rfl #[.pointer (some ⟨g, 0, none⟩)] rfl (by (try simp only [List.map_toArray, List.map_cons, List.map_nil]); first | done | rfl | (simp only [List.length_drop, List.length_take]; rfl)) ?_; (with_reducible refine (spec_l00Src_next.calls g s0_0 s0_1 s0_2 t346 t347 t348 w0 _ ?side1 ?side2 A4.out).mono ?_); (case side1 => repeat (first | (with_reducible first | exact HI0.out | apply IsS81.alloc | apply IsS81.drewN | apply IsS81.drew | apply IsS81.set_1 | apply IsS81.set_2) | exact HI0.out)); (case side2 => repeat (first | (with_reducible first | exact HB.out | apply below_alloc | apply pw_below_drewN | apply below_drew1 | refine below_set ?_ (IsS81.ge HI0.out)) | exact HB.out)); rintro e w8 ⟨rfl, hi, hb, hk⟩; refine ⟨_, rfl, ?_⟩; have n0_ := Aside0.mk (KeepBut.trans (by repeat (first | (with_reducible first | exact HK.out | apply KeepBut.set_ | apply keep_drewN | apply keep_drew | apply keep_alloc) | exact HK.out)) hk (.inl rfl)); have n1_ := Aside0.mk (hb); have n2_ := Aside0.mk (hi); clear HK; clear HB; clear HI0; have HK := n0_; have HB := n1_; have HI0 := n2_; clear n0_ n1_ n2_; (try clear hb); (try clear hb2); (try clear hk); (try clear hi)) | ((with_reducible refine gate_callee (f := 80) rfl ?_); refine goesL_ (some 15) rfl rfl Try.func80 (by kernel_rfl) rfl #[.pointer (some ⟨g, 0, none⟩)] rfl (by (try simp only [List.map_toArray, List.map_cons, List.map_nil]); first | done | rfl | (simp only [List.length_drop, List.length_take]; rfl)) ?_; (with_reducible refine (spec_l00Src_next.calls g s0_0 t347 t348 t349 t350 t351 w0 _ ?side1 ?side2 A6.out).mono ?_); (case side1 => repeat (first | (with_reducible first | exact HI0.out | apply IsS81.alloc | apply IsS81.drewN | apply IsS81.drew | apply IsS81.set_1 | apply IsS81.set_2) | exact HI0.out)); (case side2 => repeat (first | (with_reducible first | exact HB.out | apply below_alloc | apply pw_below_drewN | apply below_drew1 | refine below_set ?_ (IsS81.ge HI0.out)) | exact HB.out)); rintro e w9 ⟨rfl, hi, hb, hk⟩; refine ⟨_, rfl, ?_⟩; have n0_ := Aside0.mk (KeepBut.trans (by repeat (first | (with_reducible first | exact HK.out | apply KeepBut.set_ | apply keep_drewN | apply keep_drew | apply keep_alloc) | exact HK.out)) hk (.inl rfl)); have n1_ := Aside0.mk (hb); have n2_ := Aside0.mk (hi); clear HK; clear HB; clear HI0; have HK := n0_; have HB := n1_; have HI0 := n2_; clear n0_ n1_ n2_; (try clear hb); (try clear hb2); (try clear hk); (try clear hi)))
        go_ret
        exact ⟨by first | rfl | (simp [errW_none, errW_some] <;> rfl) | (simp [*, errW_none, errW_some] <;> rfl), by repeat (first | (with_reducible first | exact HI0.out | apply IsS81.alloc | apply IsS81.drewN | apply IsS81.drew | apply IsS81.set_1 | apply IsS81.set_2) | exact HI0.out), by repeat (first | (with_reducible first | exact HB.out | apply below_alloc | apply pw_below_drewN | apply below_drew1 | refine below_set ?_ (IsS81.ge HI0.out)) | exact HB.out), by repeat (first | (with_reducible first | exact HK.out | apply KeepBut.set_ | apply keep_drewN | apply keep_drew | apply keep_alloc) | exact HK.out)⟩
    · rw [if_neg c5] at H
      have c5b0 : decide (200 < a1) = false := decide_eq_false c5
      clear c5
      by_cases c10 : a1 = 0
      · rw [if_pos c10] at H
        exact absurd H (by simp)
      · rw [if_neg c10] at H
        have c10b0 : (a1 == 0) = false := beq_eq_false_iff_ne.mpr c10
        have c10b1 : (a1 != 0) = true := bne_iff_ne.mpr c10
        simp only [Option.some.injEq, Prod.mk.injEq] at H
        obtain ⟨rfl, rfl, rfl⟩ := H
        go_enter Try.func69, Try.ntmps69
        go_wp2_with (first | ((with_reducible refine gate_callee (f := 80) rfl ?_); refine goesL_ (some 9) rfl rfl Try.func80 (by kernel_rfl) rfl #[.pointer (some ⟨g, 0, none⟩)] rfl (by (try simp only [List.map_toArray, List.map_cons, List.map_nil]); first | done | rfl | (simp only [List.length_drop, List.length_take]; rfl)) ?_; (with_reducible refine (spec_l00Src_next.calls g s0_0 s0_1 s0_2 t346 t347 t348 w0 _ ?side1 ?side2 A4.out).mono ?_); (case side1 => repeat (first | (with_reducible first | exact HI0.out | apply IsS81.alloc | apply IsS81.drewN | apply IsS81.drew | apply IsS81.set_1 | apply IsS81.set_2) | exact HI0.out)); (case side2 => repeat (first | (with_reducible first | exact HB.out | apply below_alloc | apply pw_below_drewN | apply below_drew1 | refine below_set ?_ (IsS81.ge HI0.out)) | exact HB.out)); rintro e w11 ⟨rfl, hi, hb, hk⟩; refine ⟨_, rfl, ?_⟩; have n0_ := Aside0.mk (KeepBut.trans (by repeat (first | (with_reducible first | exact HK.out | apply KeepBut.set_ | apply keep_drewN | apply keep_drew | apply keep_alloc) | exact HK.out)) hk (.inl rfl)); have n1_ := Aside0.mk (hb); have n2_ := Aside0.mk (hi); clear HK; clear HB; clear HI0; have HK := n0_; have HB := n1_; have HI0 := n2_; clear n0_ n1_ n2_; (try clear hb); (try clear hb2); (try clear hk); (try clear hi)))
        go_ret
        exact ⟨by first | rfl | (simp [errW_none, errW_some] <;> rfl) | (simp [*, errW_none, errW_some] <;> rfl), by repeat (first | (with_reducible first | exact HI0.out | apply IsS81.alloc | apply IsS81.drewN | apply IsS81.drew | apply IsS81.set_1 | apply IsS81.set_2) | exact HI0.out), by repeat (first | (with_reducible first | exact HB.out | apply below_alloc | apply pw_below_drewN | apply below_drew1 | refine below_set ?_ (IsS81.ge HI0.out)) | exact HB.out), by repeat (first | (with_reducible first | exact HK.out | apply KeepBut.set_ | apply keep_drewN | apply keep_drew | apply keep_alloc) | exact HK.out)⟩

end Go.Proofs.Ytibaiaenfeppcaa.Q

