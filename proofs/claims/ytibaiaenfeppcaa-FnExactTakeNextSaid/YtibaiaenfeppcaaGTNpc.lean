/- Parts of the proof that the law of this seat holds: Q65, Q11, Ymv, Q39, Q61, Q63, Q64, Ytn, Q48, Q43, Q49, Q75, Q76, Q77, Q78, Q32. -/
import Derived.Test.YtibaiaenfeppcaaGTNpa
import Derived.Test.YtibaiaenfeppcaaGTNpb
set_option linter.unusedVariables false
set_option linter.unusedSimpArgs false
-- made by a patched copy of print.sh: this session's own
namespace Go.Proofs.Ytibaiaenfeppcaa.Q
open Go.RowKit Go.Proofs.YtibaiaenfeppcaaW.PrintWords Go.Proofs.YtibaiaenfeppcaaW.PrintLast Go.Proofs.YtibaiaenfeppcaaW.PrintMore
attribute [local go_sem] max2_int min2_int max_two min_two max_three min_three max_four min_four   -- for this text's walks alone
set_option linter.unusedVariables false
set_option linter.unusedSimpArgs false

/-! ### impl_Yard_cloned: function 72 -/
def impl_Yard_cloned.l0 : Nat → List (List Int) → Int → Int → Int → List (List Int) → Option (Int × (List (List Int)))
  | 0, _, _, _, _, _ => none
  | k + 1, x10, x11, x12, x423000, x423001 => if x12 < x11 then (if 0 ≤ x12 then (if x12 < (x10.length : Int) then ((some (([] : List Int) : List Int)).bind fun y424 => (if y424.length + (rd_L1 x10 x12).length < 17592186044416 then (if x423001.length < 5864062014805 then (impl_Yard_cloned.l0 k x10 x11 (wrap64 (x12 + 1)) x423000 (x423001 ++ [(y424 ++ (rd_L1 x10 x12))])) else (none)) else (none))) else (none)) else (none)) else (some (x423000, x423001))
def impl_Yard_cloned.f (k : Nat) (a0_0 : Int) (l0_1 : List (List Int)) : Option (Int × (List (List Int))) := impl_Yard_cloned.l0 k l0_1 (l0_1.length : Int) 0 a0_0 ([] : List (List Int))
theorem impl_Yard_cloned.mono_l : ∀ k, (∀ y0 y1 y2 y3 y4, LeO (impl_Yard_cloned.l0 k y0 y1 y2 y3 y4) (impl_Yard_cloned.l0 (k + 1) y0 y1 y2 y3 y4))
  | 0 => fun _ _ _ _ _ r h => by simp [impl_Yard_cloned.l0] at h
  | k + 1 => by
    have ih0 := impl_Yard_cloned.mono_l k
    · intro y0 y1 y2 y3 y4
      unfold impl_Yard_cloned.l0
      repeat' first
      | (with_reducible exact ih0 _ _ _ _ _)
      | (with_reducible exact LeO.refl _)
      | (with_reducible exact LeO.none _)
      | (with_reducible refine LeO.ite ?_ ?_)
      | (with_reducible refine LeO.bind ?_ (fun _ => ?_))
      | exact ih0 _ _ _ _ _
      | exact LeO.none _
      | refine LeO.ite ?_ ?_
      | refine LeO.bind ?_ (fun _ => ?_)
theorem impl_Yard_cloned.mono : ∀ a0 a1 k, LeO (impl_Yard_cloned.f k a0 a1) (impl_Yard_cloned.f (k + 1) a0 a1) := by
  intro a0 a1 k
  have ih0 := impl_Yard_cloned.mono_l k
  unfold impl_Yard_cloned.f
  repeat' first
      | (with_reducible exact ih0 _ _ _ _ _)
      | (with_reducible exact LeO.refl _)
      | (with_reducible exact LeO.none _)
      | (with_reducible refine LeO.ite ?_ ?_)
      | (with_reducible refine LeO.bind ?_ (fun _ => ?_))
      | exact ih0 _ _ _ _ _
      | exact LeO.none _
      | refine LeO.ite ?_ ?_
      | refine LeO.bind ?_ (fun _ => ?_)
def impl_Yard_cloned.T5 : Bool × List (List Nat × List Nat) := (true, [([], []), ([0], [0]), ([], []), ([], []), ([2, 3], [2, 3]), ([4], [4]), ([1, 5, 4], [1, 5]), ([0, 1, 2, 3, 4, 5, 6], []), ([7, 6, 6, 0, 1, 2, 3, 4, 5, 6], [6, 7])])
def impl_Yard_cloned.B5 : List Nat := [0, 1, 0, 0, 12, 28, 63, 127, 255]
theorem impl_Yard_cloned.tab5 : rtab .any (opsOf Try.f72 5) = impl_Yard_cloned.T5 := by kernel_rfl
theorem impl_Yard_cloned.bits5 : waitsOk impl_Yard_cloned.T5.2 impl_Yard_cloned.B5 = true := by kernel_rfl
set_option maxHeartbeats 8000000 in
set_option maxRecDepth 100000 in
theorem impl_Yard_cloned.calls (k : Nat) (a0_0 : Int) (A0_1 : Option Addr) (c0_1 : Nat) (l0_1 : List (List Int)) (r1 : Int) (r2 : List (List Int)) (w : World) (hr0_1 : Kd.C (Kd.slice 2 (Kd.int .i64)) w A0_1 l0_1.length l0_1) (hc0_1 : l0_1.length ≤ c0_1) (h : impl_Yard_cloned.f k a0_0 l0_1 = some (r1, r2)) :
    Calls Try.prog 72 #[.agg #[.int .i64 a0_0, .slice A0_1 l0_1.length c0_1]] w fun e w' => ∃ v1_ : Value, e = .returned (.agg #[.int .i64 r1, v1_]) ∧ Kd.S (Kd.slice 2 (Kd.int .i64)) 31 w' w.heap.size (fun _ => True) v1_ r2 ∧ Below w.heap.size w w' := by
  have hu27 := Try.underlying27
  have HR0_1 := Aside0.mk hr0_1
  have HC0_1 := Aside0.mk hc0_1
  clear hr0_1 hc0_1
  have HB := Aside0.mk (Below.refl w.heap.size w)
  have H : (impl_Yard_cloned.l0 k l0_1 (l0_1.length : Int) 0 a0_0 ([] : List (List Int))) = some (r1, r2) := h
  clear h
  have H' := Aside0.mk H
  clear H
  go_enter Try.func72, Try.ntmps72
  go_wp2_with (first | ((with_reducible refine gate_dst (N := 1) rfl ?_); refine box_event ?hg (N := 1) ?hd (cs := #[.int .i64 a0_0, .slice A0_1 l0_1.length c0_1]) (t := 27) ?hr ?_; (case hd => rfl); (case hg => rfl); (case hr => first | (go_simp; done) | (go_simp; rfl)); intro gb420 hg w2 hbox hb; have n0_ := Aside0.mk (below_step (by repeat (first | (with_reducible first | exact HB.out | apply below_alloc | apply pw_below_drewN | apply below_drew1) | exact HB.out)) hb); have n1_ := Aside0.mk (hbox); have n2_ := Aside0.mk ((by rw [hg]; exact (below_size (by repeat (first | (with_reducible first | exact HB.out | apply below_alloc | apply pw_below_drewN | apply below_drew1) | exact HB.out))) : w.heap.size ≤ gb420)); have n3_ := Aside0.mk ((by rw [hg]; exact (below_size (by repeat (first | (with_reducible first | exact HB.out | apply below_alloc | apply pw_below_drewN | apply below_drew1) | exact HB.out))) : w.heap.size ≤ gb420)); clear HB; have HB := n0_; have BK420 := n1_; have GW420 := n2_; have GE420 := n3_; clear n0_ n1_ n2_ n3_; clear hb hbox hg) | ((with_reducible refine gate_dst (N := 2) rfl ?_); refine box_event ?hg (N := 2) ?hd (cs := #[.int .i64 0, .slice none 0 0]) (t := 27) ?hr ?_; (case hd => rfl); (case hg => rfl); (case hr => first | (go_simp; done) | (go_simp; rfl)); intro gb421 hg w3 hbox hb; have n0_ := Aside0.mk (blk_below (g := gb420) (o := .cells #[.int .i64 a0_0, .slice A0_1 l0_1.length c0_1] 27 (0, 0)) (by (with_reducible repeat (first | refine blk_drewN ?_ _ | refine blk_drew ?_ | refine blk_alloc ?_ _)); exact BK420.out) hb); have n1_ := Aside0.mk (below_step (by repeat (first | (with_reducible first | exact HB.out | apply below_alloc | apply pw_below_drewN | apply below_drew1 | refine below_set ?_ GE420.out) | exact HB.out)) hb); have n2_ := Aside0.mk (hbox); have n3_ := Aside0.mk ((by rw [hg]; exact (below_size (by repeat (first | (with_reducible first | exact HB.out | apply below_alloc | apply pw_below_drewN | apply below_drew1 | refine below_set ?_ GE420.out) | exact HB.out))) : w.heap.size ≤ gb421)); have n4_ := Aside0.mk ((by rw [hg]; exact (below_size (by repeat (first | (with_reducible first | exact HB.out | apply below_alloc | apply pw_below_drewN | apply below_drew1 | refine below_set ?_ GE420.out) | exact HB.out))) : w.heap.size ≤ gb421)); have n5_ := Aside0.mk ((by rw [hg]; exact Nat.ne_of_lt (blk_lt (g := gb420) (o := .cells #[.int .i64 a0_0, .slice A0_1 l0_1.length c0_1] 27 (0, 0)) (by (with_reducible repeat (first | refine blk_drewN ?_ _ | refine blk_drew ?_ | refine blk_alloc ?_ _)); exact BK420.out)) : gb420 ≠ gb421)); have n6_ := Aside0.mk ((by rw [hg]; exact Nat.ne_of_gt (blk_lt (g := gb420) (o := .cells #[.int .i64 a0_0, .slice A0_1 l0_1.length c0_1] 27 (0, 0)) (by (with_reducible repeat (first | refine blk_drewN ?_ _ | refine blk_drew ?_ | refine blk_alloc ?_ _)); exact BK420.out)) : gb421 ≠ gb420)); clear BK420; clear HB; have BK420 := n0_; have HB := n1_; have BK421 := n2_; have GW421 := n3_; have GE421 := n4_; have NB420_421 := n5_; have NB421_420 := n6_; clear n0_ n1_ n2_ n3_ n4_ n5_ n6_; clear hb hbox hg; have hnb4 := NB420_421.out; have hnc4 := NB421_420.out; have hcz5_0 : w3.cell? ⟨gb420, 0, none⟩ = some (.int .i64 a0_0) := (blk_cell BK420.out 0).trans rfl; have hcz5_1 : w3.cell? ⟨gb420, 1, none⟩ = some (.slice A0_1 l0_1.length c0_1) := (blk_cell BK420.out 1).trans rfl; have hfz5_0 := blk_frozen BK420.out 0; have hfz5_1 := blk_frozen BK420.out 1) | ((with_reducible refine gate_dst (N := 3) rfl ?_); refine box_event ?hg (N := 3) ?hd (cs := #[.int .i64 0, .slice none 0 0]) (t := 27) ?hr ?_; (case hd => rfl); (case hg => rfl); (case hr => first | (go_simp; done) | (go_simp; rfl)); intro gb422 hg w6 hbox hb; have n0_ := Aside0.mk (blk_below (g := gb420) (o := .cells #[.int .i64 a0_0, .slice A0_1 l0_1.length c0_1] 27 (0, 0)) (by (with_reducible repeat (first | refine blk_drewN ?_ _ | refine blk_drew ?_ | refine blk_alloc ?_ _)); exact BK420.out) hb); have n1_ := Aside0.mk (blk_below (g := gb421) (o := .cells #[.int .i64 0, .slice none 0 0] 27 (0, 0)) (by (with_reducible repeat (first | refine blk_drewN ?_ _ | refine blk_drew ?_ | refine blk_alloc ?_ _)); exact BK421.out) hb); have n2_ := Aside0.mk (below_step (by repeat (first | (with_reducible first | exact HB.out | apply below_alloc | apply pw_below_drewN | apply below_drew1 | refine below_set ?_ GE420.out | refine below_set ?_ GE421.out) | exact HB.out)) hb); have n3_ := Aside0.mk (hbox); have n4_ := Aside0.mk ((by rw [hg]; exact (below_size (by repeat (first | (with_reducible first | exact HB.out | apply below_alloc | apply pw_below_drewN | apply below_drew1 | refine below_set ?_ GE420.out | refine below_set ?_ GE421.out) | exact HB.out))) : w.heap.size ≤ gb422)); have n5_ := Aside0.mk ((by rw [hg]; exact (below_size (by repeat (first | (with_reducible first | exact HB.out | apply below_alloc | apply pw_below_drewN | apply below_drew1 | refine below_set ?_ GE420.out | refine below_set ?_ GE421.out) | exact HB.out))) : w.heap.size ≤ gb422)); have n6_ := Aside0.mk ((by rw [hg]; exact Nat.ne_of_lt (blk_lt (g := gb420) (o := .cells #[.int .i64 a0_0, .slice A0_1 l0_1.length c0_1] 27 (0, 0)) (by (with_reducible repeat (first | refine blk_drewN ?_ _ | refine blk_drew ?_ | refine blk_alloc ?_ _)); exact BK420.out)) : gb420 ≠ gb422)); have n7_ := Aside0.mk ((by rw [hg]; exact Nat.ne_of_gt (blk_lt (g := gb420) (o := .cells #[.int .i64 a0_0, .slice A0_1 l0_1.length c0_1] 27 (0, 0)) (by (with_reducible repeat (first | refine blk_drewN ?_ _ | refine blk_drew ?_ | refine blk_alloc ?_ _)); exact BK420.out)) : gb422 ≠ gb420)); have n8_ := Aside0.mk ((by rw [hg]; exact Nat.ne_of_lt (blk_lt (g := gb421) (o := .cells #[.int .i64 0, .slice none 0 0] 27 (0, 0)) (by (with_reducible repeat (first | refine blk_drewN ?_ _ | refine blk_drew ?_ | refine blk_alloc ?_ _)); exact BK421.out)) : gb421 ≠ gb422)); have n9_ := Aside0.mk ((by rw [hg]; exact Nat.ne_of_gt (blk_lt (g := gb421) (o := .cells #[.int .i64 0, .slice none 0 0] 27 (0, 0)) (by (with_reducible repeat (first | refine blk_drewN ?_ _ | refine blk_drew ?_ | refine blk_alloc ?_ _)); exact BK421.out)) : gb422 ≠ gb421)); clear BK420; clear BK421; clear HB; have BK420 := n0_; have BK421 := n1_; have HB := n2_; have BK422 := n3_; have GW422 := n4_; have GE422 := n5_; have NB420_422 := n6_; have NB422_420 := n7_; have NB421_422 := n8_; have NB422_421 := n9_; clear n0_ n1_ n2_ n3_ n4_ n5_ n6_ n7_ n8_ n9_; clear hb hbox hg; have hnb7 := NB422_420.out; have hnc7 := NB420_422.out; have hnb8 := NB422_421.out; have hnc8 := NB421_422.out; have hcz9_0 : w6.cell? ⟨gb422, 0, none⟩ = some (.int .i64 0) := (blk_cell BK422.out 0).trans rfl; have hcz9_1 : w6.cell? ⟨gb422, 1, none⟩ = some (.slice none 0 0) := (blk_cell BK422.out 1).trans rfl; have hfz9_0 := blk_frozen BK422.out 0; have hfz9_1 := blk_frozen BK422.out 1; have hcz10_0 : w6.cell? ⟨gb420, 0, none⟩ = some (.int .i64 a0_0) := (blk_cell BK420.out 0).trans rfl; have hcz10_1 : w6.cell? ⟨gb420, 1, none⟩ = some (.slice A0_1 l0_1.length c0_1) := (blk_cell BK420.out 1).trans rfl; have hfz10_0 := blk_frozen BK420.out 0; have hfz10_1 := blk_frozen BK420.out 1))
  go_loopg [12] k (fun kq v12 w' => ∃ (x12_1 : Int) (x423001_1 : List (List Int)) (u423001 : Value), v12 = .int .i64 x12_1 ∧ Aside0 (impl_Yard_cloned.l0 kq l0_1 (l0_1.length : Int) x12_1 a0_0 x423001_1 = some (r1, r2)) ∧ Aside0 (kq ≤ k) ∧ Aside0 (Kd.S (Kd.slice 2 (Kd.int .i64)) 31 w' w.heap.size (fun _ => True) u423001 x423001_1) ∧ Aside0 (w'.heap[gb420]? = some (.cells #[.int .i64 a0_0, (.slice A0_1 l0_1.length c0_1)] 27 (0, 0))) ∧ Aside0 (w'.heap[gb421]? = some (.cells #[.int .i64 0, (.slice none 0 0)] 27 (0, 0))) ∧ Aside0 (w'.heap[gb422]? = some (.cells #[.int .i64 a0_0, u423001] 27 (0, 0))) ∧ Aside0 (Below w.heap.size w w'))
  case atStart => exact ⟨(0), (([] : List (List Int))), (.slice none 0 0), (by first | rfl | (simp; done) | (simp [*]; done)), H', ⟨Nat.le_refl _⟩, ⟨by first | exact Kd.S_nil _ _ _ _ _ | exact Kd.N_nil _ _ _ _ _ | exact Kd.V_nil _ _ _ _ _ | exact Kd.Q_nil _ _ _ _ _ | exact Kd.R_nil _ _ _ _ _⟩, ⟨by (with_reducible repeat (first | refine blk_drewN ?_ _ | refine blk_drew ?_ | refine blk_alloc ?_ _)); refine blk_far ?_ NB420_422.out _; (with_reducible repeat (first | refine blk_drewN ?_ _ | refine blk_drew ?_ | refine blk_alloc ?_ _)); refine blk_far ?_ NB420_422.out _; (with_reducible repeat (first | refine blk_drewN ?_ _ | refine blk_drew ?_ | refine blk_alloc ?_ _)); exact BK420.out⟩, ⟨by (with_reducible repeat (first | refine blk_drewN ?_ _ | refine blk_drew ?_ | refine blk_alloc ?_ _)); refine blk_far ?_ NB421_422.out _; (with_reducible repeat (first | refine blk_drewN ?_ _ | refine blk_drew ?_ | refine blk_alloc ?_ _)); refine blk_far ?_ NB421_422.out _; (with_reducible repeat (first | refine blk_drewN ?_ _ | refine blk_drew ?_ | refine blk_alloc ?_ _)); exact BK421.out⟩, ⟨by (with_reducible repeat (first | refine blk_drewN ?_ _ | refine blk_drew ?_ | refine blk_alloc ?_ _)); refine blk_put (cs := #[.int .i64 a0_0, .slice none 0 0]) ?_ 1 _ rfl; (with_reducible repeat (first | refine blk_drewN ?_ _ | refine blk_drew ?_ | refine blk_alloc ?_ _)); refine blk_put (cs := #[.int .i64 0, .slice none 0 0]) ?_ 0 _ rfl; (with_reducible repeat (first | refine blk_drewN ?_ _ | refine blk_drew ?_ | refine blk_alloc ?_ _)); exact BK422.out⟩, ⟨by repeat (first | (with_reducible first | exact HB.out | apply below_alloc | apply pw_below_drewN | apply below_drew1 | refine below_set ?_ GE420.out | refine below_set ?_ GE421.out | refine below_set ?_ GE422.out) | exact HB.out)⟩⟩
  case round =>
    clear H'
    try clear p2
    try clear c4
    try clear c7
    try clear c8
    try clear hcz10_0
    try clear hcz10_1
    try clear hcz5_0
    try clear hcz5_1
    try clear hcz9_0
    try clear hcz9_1
    try clear hfz10_0
    try clear hfz10_1
    try clear hfz5_0
    try clear hfz5_1
    try clear hfz9_0
    try clear hfz9_1
    obtain ⟨x12_1, x423001_1, u423001, rfl, HA, HK1, HO_423001, BK420, BK421, BK422, HB⟩ := hrel
    cases gk with
    | zero => exact absurd HA.out (by simp [impl_Yard_cloned.l0])
    | succ k1 =>
      have H := HA.out
      clear HA
      simp only [impl_Yard_cloned.l0] at H
      by_cases c11 : x12_1 < (l0_1.length : Int)
      · rw [if_pos c11] at H
        have c11b0 : decide (x12_1 < (l0_1.length : Int)) = true := decide_eq_true c11
        clear c11
        by_cases c12 : 0 ≤ x12_1
        · rw [if_pos c12] at H
          have c12b0 : decide (0 ≤ x12_1) = true := decide_eq_true c12
          clear c12
          by_cases c13 : x12_1 < (l0_1.length : Int)
          · rw [if_pos c13] at H
            have c13b0 : decide (x12_1 < (l0_1.length : Int)) = true := decide_eq_true c13
            clear c13
            obtain ⟨y424, hy424⟩ : ∃ y_ : List Int, y_ = (([] : List Int)) := ⟨_, rfl⟩
            replace H : (if y424.length + (rd_L1 l0_1 x12_1).length < 17592186044416 then (if x423001_1.length < 5864062014805 then (impl_Yard_cloned.l0 k1 l0_1 (l0_1.length : Int) (wrap64 (x12_1 + 1)) a0_0 (x423001_1 ++ [(y424 ++ (rd_L1 l0_1 x12_1))])) else (none)) else (none)) = some (r1, r2) := by first | (rw [hy424]; with_reducible exact H) | (have H2_ := (Option.bind_some _ _).symm.trans H; rw [hy424]; with_reducible exact H2_) | (have H2_ := (Option.bind_some _ _).symm.trans H; with_reducible exact H2_) | with_reducible exact H | (rw [hy424]; exact H) | exact H
            have Ny424 := Aside0.mk hy424
            clear hy424
            by_cases c14 : y424.length + (rd_L1 l0_1 x12_1).length < 17592186044416
            · rw [if_pos c14] at H
              have LMc14 := Aside0.mk c14
              clear c14
              obtain ⟨y427, hy427⟩ : ∃ y_ : List Int, y_ = (y424 ++ (rd_L1 l0_1 x12_1)) := ⟨_, rfl⟩
              replace H : (if x423001_1.length < 5864062014805 then (impl_Yard_cloned.l0 k1 l0_1 (l0_1.length : Int) (wrap64 (x12_1 + 1)) a0_0 (x423001_1 ++ [y427])) else (none)) = some (r1, r2) := by first | (rw [hy427]; with_reducible exact H) | (have H2_ := (Option.bind_some _ _).symm.trans H; rw [hy427]; with_reducible exact H2_) | (have H2_ := (Option.bind_some _ _).symm.trans H; with_reducible exact H2_) | with_reducible exact H | (rw [hy427]; exact H) | exact H
              have Ny427 := Aside0.mk hy427
              clear hy427
              by_cases c15 : x423001_1.length < 5864062014805
              · rw [if_pos c15] at H
                have LMc15 := Aside0.mk c15
                clear c15
                obtain ⟨y430, hy430⟩ : ∃ y_ : List (List Int), y_ = (x423001_1 ++ [y427]) := ⟨_, rfl⟩
                replace H : (impl_Yard_cloned.l0 k1 l0_1 (l0_1.length : Int) (wrap64 (x12_1 + 1)) a0_0 y430) = some (r1, r2) := by first | (rw [hy430]; with_reducible exact H) | (have H2_ := (Option.bind_some _ _).symm.trans H; rw [hy430]; with_reducible exact H2_) | (have H2_ := (Option.bind_some _ _).symm.trans H; with_reducible exact H2_) | with_reducible exact H | (rw [hy430]; exact H) | exact H
                have Ny430 := Aside0.mk hy430
                clear hy430
                have H' := Aside0.mk H
                clear H
                have p423 : 0 ≤ (x12_1 : Int) := of_decide_eq_true (by first | (with_reducible assumption) | assumption)
                have q423 : x12_1 < (l0_1.length : Int) := of_decide_eq_true (by first | (with_reducible assumption) | assumption)
                obtain ⟨ad423, A423_0, c423_0, e423, hx423_0, hl423_0, hi423_0⟩ := at_L1 HR0_1.out x12_1 p423 q423
                cases e423
                replace hx423_0 := (HB.out.cell (World.block_lt_of_cell? w _ hx423_0)).trans hx423_0
                have HR423_0 := Aside0.mk hi423_0
                have HC423_0 := Aside0.mk hl423_0
                clear hi423_0 hl423_0
                replace p423 := eq_true p423
                replace q423 := eq_true q423
                try go_wp2
                have n0_ := Aside0.mk (Kd.S_drew HO_423001.out)
                have n1_ := Aside0.mk (blk_drew BK420.out)
                have n2_ := Aside0.mk (blk_drew BK421.out)
                have n3_ := Aside0.mk (blk_drew BK422.out)
                have n4_ := Aside0.mk (below_drew1 HB.out)
                clear HO_423001
                clear BK420
                clear BK421
                clear BK422
                clear HB
                have HO_423001 := n0_
                have BK420 := n1_
                have BK421 := n2_
                have BK422 := n3_
                have HB := n4_
                clear n0_ n1_ n2_ n3_ n4_
                refine start_ (n := 9) (S := fun w' => w'.cell? ⟨gb422, 0, none⟩ = some (.int .i64 a0_0) ∧ w'.cell? ⟨gb422, 1, none⟩ = some (u423001)) (ds := [8]) #[false, false, false, false, false, false, false, false, false] (by kernel_rfl) rfl rfl ⟨(blk_cell BK422.out 0).trans rfl, (blk_cell BK422.out 1).trans rfl⟩ (fun hHeld => ?_); refine with_tabW impl_Yard_cloned.tab5 impl_Yard_cloned.bits5 (fun HT_ HW_ => ?_)
                generalize wr.drew = w16 at HO_423001 BK420 BK421 BK422 HB hHeld ⊢
                refine pure_ (i := 0) (N := some 16) (v := ?_) (a' := ?_) #[true, false, false, false, false, false, false, false, false] rfl rfl (any_of HT_.out (by kernel_rfl)) (fun _ _ _ h => h) (Or.inl ⟨by rfl, ?_⟩) ?_ ?_
                rotate_left
                · intro w'
                  go_simp
                  with_reducible rfl
                rotate_left
                · simp only [Act.put, List.setIfInBounds_toArray, List.set_cons_zero, List.set_cons_succ, i64_w, i32_w]
                  rfl
                refine pure_ (i := 3) (N := some 19) (v := ?_) (a' := ?_) #[true, false, false, true, false, false, false, false, false] rfl rfl (any_of HT_.out (by kernel_rfl)) (fun _ _ _ h => h) (Or.inl ⟨by rfl, ?_⟩) ?_ ?_
                rotate_left
                · intro w'
                  go_simp
                  with_reducible rfl
                rotate_left
                · simp only [Act.put, List.setIfInBounds_toArray, List.set_cons_zero, List.set_cons_succ, i64_w, i32_w]
                  rfl
                refine take_ (i := 1) (N := some 17) (v := ?_) (a' := ?_) #[true, true, false, true, false, false, false, false, false] rfl rfl (take_ofW HT_.out HW_.out (by kernel_rfl)) (fun _ _ _ h => h) (Or.inl ⟨by rfl, ?_⟩) hHeld ?_ ?_
                rotate_left
                · rintro w' ⟨s0, s1⟩
                  go_simp
                  with_reducible rfl
                rotate_left
                · simp only [Act.put, List.setIfInBounds_toArray, List.set_cons_zero, List.set_cons_succ, i64_w, i32_w]
                  rfl
                refine one_ (i := 2) (N := some 18) #[true, true, true, true, false, false, false, false, false] rfl rfl (one_of HT_.out (by kernel_rfl)) (by decide) (fun K hK => ?_)
                refine Kd.R_lit_step (Kd.int .i64) _ 2 ?hg (N := 18) ?hd (xs := ([] : List Int)) (inner := []) (ok := fun _ => True) (okp := fun _ => True) ?hr ?hp (fun _ hk => hk) trivial (Below.refl _ _) (Nat.le_refl _) (by simp) ?_; (case hd => rfl); (case hg => rfl); (case hr => first | (go_simp; done) | (go_simp; rfl)); (case hp => exact (Reps.none _ _))
                intro v425 w17 ho18 hb hg_ hnew_
                clear hg_ hnew_
                (first | rw [← Ny424.out] at ho18 | (simp only [Int.reduceToNat] at ho18; rw [← Ny424.out] at ho18))
                have n0_ := Aside0.mk (Kd.S_elder' (by (with_reducible repeat (first | apply Kd.S_alloc | apply Kd.S_drewN | apply Kd.S_drew)); exact HO_423001.out) (Kd.R_base ho18) hb)
                have n1_ := Aside0.mk (Kd.R_lower ho18 (below_size (by repeat (first | (with_reducible first | exact HB.out | apply below_alloc | apply pw_below_drewN | apply below_drew1 | refine below_set ?_ GE420.out | refine below_set ?_ GE421.out | refine below_set ?_ GE422.out) | exact HB.out))))
                have n2_ := Aside0.mk (blk_below (g := gb420) (o := .cells #[.int .i64 a0_0, .slice (some ad423) l0_1.length c0_1] 27 (0, 0)) (by (with_reducible repeat (first | refine blk_drewN ?_ _ | refine blk_drew ?_ | refine blk_alloc ?_ _)); exact BK420.out) hb)
                have n3_ := Aside0.mk (blk_below (g := gb421) (o := .cells #[.int .i64 0, .slice none 0 0] 27 (0, 0)) (by (with_reducible repeat (first | refine blk_drewN ?_ _ | refine blk_drew ?_ | refine blk_alloc ?_ _)); exact BK421.out) hb)
                have n4_ := Aside0.mk (blk_below (g := gb422) (o := .cells #[.int .i64 a0_0, u423001] 27 (0, 0)) (by (with_reducible repeat (first | refine blk_drewN ?_ _ | refine blk_drew ?_ | refine blk_alloc ?_ _)); exact BK422.out) hb)
                have n5_ := Aside0.mk (below_step (by repeat (first | (with_reducible first | exact HB.out | apply below_alloc | apply pw_below_drewN | apply below_drew1 | refine below_set ?_ GE420.out | refine below_set ?_ GE421.out | refine below_set ?_ GE422.out) | exact HB.out)) hb)
                clear HO_423001
                clear BK420
                clear BK421
                clear BK422
                clear HB
                have HO_423001 := n0_
                have HO426 := n1_
                have BK420 := n2_
                have BK421 := n3_
                have BK422 := n4_
                have HB := n5_
                clear n0_ n1_ n2_ n3_ n4_ n5_
                clear hb ho18
                refine hK.out _ _ ⟨(blk_cell BK422.out 0).trans rfl, (blk_cell BK422.out 1).trans rfl⟩ (fun hHeld => ?_)
                clear hK K
                refine norm_ (a' := ?_) ?_ ?_
                rotate_left
                · show Act.put _ (some 18) _ = _
                  simp only [Act.put, List.setIfInBounds_toArray, List.set_cons_zero, List.set_cons_succ, i64_w, i32_w]
                  rfl
                refine one_ (i := 4) (N := some 20) #[true, true, true, true, true, false, false, false, false] rfl rfl (one_of HT_.out (by kernel_rfl)) (by decide) (fun K hK => ?_)
                refine Kd.R_append_rows_step (Kd.int .i64) (w0 := w) w.heap.size (by rfl) (.tmp 18) (.tmp 19) 31 2 (.int .i64 0) 8 rfl Try.underlying31 info2 rfl (by decide) (by omega) v425 y424 (rd_L1 l0_1 x12_1) _ _ _ (fun _ => True) (fun _ => False) rfl rfl ?aO ?aR (fun _ _ h => h) (fun _ h => h.elim) ?aF ?aB ?aS ?aL ?_
                (case aR => repeat (first | exact (Kd.C_below HR423_0.out HB.out) | (with_reducible refine Kd.C_alloc ?_ _) | (with_reducible refine Kd.C_drewN ?_ _) | (with_reducible refine Kd.C_drew ?_)))
                (case aB => exact (by repeat (first | (with_reducible first | exact HB.out | apply below_alloc | apply pw_below_drewN | apply below_drew1 | refine below_set ?_ GE420.out | refine below_set ?_ GE421.out | refine below_set ?_ GE422.out) | exact HB.out)))
                (case aF => exact (fun _ _ => trivial))
                (case aO => exact (by (with_reducible repeat (first | apply Kd.R_alloc | apply Kd.R_drewN | apply Kd.R_drew)); exact HO426.out))
                (case aS => exact (below_size (by repeat (first | (with_reducible first | exact HB.out | apply below_alloc | apply pw_below_drewN | apply below_drew1 | refine below_set ?_ GE420.out | refine below_set ?_ GE421.out | refine below_set ?_ GE422.out) | exact HB.out))))
                (case aL => have := LMc14.out; omega)
                intro v428 w19 ho hb hg hat
                rw [← Ny427.out] at ho
                have n0_ := Aside0.mk (Kd.S_after (ok := (fun _ => True)) (by (with_reducible repeat (first | apply Kd.S_alloc | apply Kd.S_drewN | apply Kd.S_drew)); exact HO_423001.out) hg hat)
                have n1_ := Aside0.mk (blk_grown (g := gb420) (o := .cells #[.int .i64 a0_0, .slice (some ad423) l0_1.length c0_1] 27 (0, 0)) (by (with_reducible repeat (first | refine blk_drewN ?_ _ | refine blk_drew ?_ | refine blk_alloc ?_ _)); exact BK420.out) hg (Kd.R_ne HO426.out BK420.out (by decide)))
                have n2_ := Aside0.mk (blk_grown (g := gb421) (o := .cells #[.int .i64 0, .slice none 0 0] 27 (0, 0)) (by (with_reducible repeat (first | refine blk_drewN ?_ _ | refine blk_drew ?_ | refine blk_alloc ?_ _)); exact BK421.out) hg (Kd.R_ne HO426.out BK421.out (by decide)))
                have n3_ := Aside0.mk (blk_grown (g := gb422) (o := .cells #[.int .i64 a0_0, u423001] 27 (0, 0)) (by (with_reducible repeat (first | refine blk_drewN ?_ _ | refine blk_drew ?_ | refine blk_alloc ?_ _)); exact BK422.out) hg (Kd.R_ne HO426.out BK422.out (by decide)))
                have n4_ := Aside0.mk (hb)
                have n5_ := Aside0.mk (ho)
                clear HO_423001
                clear BK420
                clear BK421
                clear BK422
                clear HB
                clear HO426
                have HO_423001 := n0_
                have BK420 := n1_
                have BK421 := n2_
                have BK422 := n3_
                have HB := n4_
                have HO429 := n5_
                clear n0_ n1_ n2_ n3_ n4_ n5_
                clear ho hb hg hat
                obtain ⟨Ao21, co21, eo21⟩ := Kd.R_slice HO429.out
                (first | subst eo21 | (injection eo21 with f1_ f2_ f3_; have f4_ := f1_.symm; have f5_ := f3_.symm; clear f1_ f2_ f3_; subst f4_; subst f5_))
                refine hK.out _ _ ⟨(blk_cell BK422.out 0).trans rfl, (blk_cell BK422.out 1).trans rfl⟩ (fun hHeld => ?_)
                clear hK K
                refine norm_ (a' := ?_) ?_ ?_
                rotate_left
                · show Act.put _ (some 20) _ = _
                  simp only [Act.put, List.setIfInBounds_toArray, List.set_cons_zero, List.set_cons_succ, i64_w, i32_w]
                  rfl
                refine one_ (i := 5) (N := some 21) #[true, true, true, true, true, true, false, false, false] rfl rfl (one_of HT_.out (by kernel_rfl)) (by decide) (fun K hK => ?_)
                refine value_ (w1 := ?_) (v := ?_) (by rfl) rfl ?_ ?_
                rotate_left 2
                · go_simp
                  constructor
                  · rfl
                  · rfl
                refine hK.out _ _ ⟨(blk_cell (blk_alloc BK422.out _) 0).trans rfl, (blk_cell (blk_alloc BK422.out _) 1).trans rfl⟩ (fun hHeld => ?_)
                clear hK K
                refine norm_ (a' := ?_) ?_ ?_
                rotate_left
                · show Act.put _ (some 21) _ = _
                  simp only [Act.put, List.setIfInBounds_toArray, List.set_cons_zero, List.set_cons_succ, i64_w, i32_w]
                  rfl
                refine one_ (i := 6) (N := some 22) #[true, true, true, true, true, true, true, false, false] rfl rfl (one_of HT_.out (by kernel_rfl)) (by decide) (fun K hK => ?_)
                refine Kd.S_append_step (Kd.slice 2 (Kd.int .i64)) (w0 := w) w.heap.size (by rfl) (.tmp 17) (.tmp 21) 22 31 (.slice none 0 0) 24 rfl Try.underlying22 info31 rfl (by decide) (by omega) u423001 x423001_1 y427 [.slice Ao21 y427.length co21] (fun _ => True) (fun k_ => some k_ = (.slice Ao21 y427.length co21 : Value).ownBlock) rfl rfl ?aP (fun k_ hk_ => ((Kd.R_mono (ok' := fun k_ => ((fun _ => True)) k_ ∧ some k_ ≠ (u423001 : Value).ownBlock) (Kd.R_apart' (HO429.out) (Kd.S_typed HO_423001.out) (by decide)) (fun k_ hk => ⟨trivial, hk.2⟩))).1 k_ hk_.symm) ?aF ?aO ?aB ?aS ?aL ?_
                (case aP => exact Kd.M_row (Kd.R_mono (Kd.R_tight rfl (Kd.R_mono (ok' := fun k_ => ((fun _ => True)) k_ ∧ some k_ ≠ (u423001 : Value).ownBlock) (Kd.R_apart' (HO429.out) (Kd.S_typed HO_423001.out) (by decide)) (fun k_ hk => ⟨trivial, hk.2⟩))) (fun _ h_ => h_)))
                (case aB => exact (by repeat (first | (with_reducible first | exact HB.out | apply below_alloc | apply pw_below_drewN | apply below_drew1 | refine below_set ?_ GE420.out | refine below_set ?_ GE421.out | refine below_set ?_ GE422.out) | exact HB.out)))
                (case aF => exact (fun _ _ => trivial))
                (case aO => exact (by (with_reducible repeat (first | apply Kd.S_alloc | apply Kd.S_drewN | apply Kd.S_drew)); exact Kd.S_mono HO_423001.out (fun k_ hk => ⟨trivial, fun e_ => hk.2 e_⟩)))
                (case aS => exact (below_size (by repeat (first | (with_reducible first | exact HB.out | apply below_alloc | apply pw_below_drewN | apply below_drew1 | refine below_set ?_ GE420.out | refine below_set ?_ GE421.out | refine below_set ?_ GE422.out) | exact HB.out))))
                (case aL => have := LMc15.out; omega)
                intro v431 w20 ho hb hg hat
                rw [← Ny430.out] at ho
                have n0_ := Aside0.mk (blk_grown (g := gb420) (o := .cells #[.int .i64 a0_0, .slice (some ad423) l0_1.length c0_1] 27 (0, 0)) (by (with_reducible repeat (first | refine blk_drewN ?_ _ | refine blk_drew ?_ | refine blk_alloc ?_ _)); exact BK420.out) hg (Kd.S_ne HO_423001.out BK420.out (by decide)))
                have n1_ := Aside0.mk (blk_grown (g := gb421) (o := .cells #[.int .i64 0, .slice none 0 0] 27 (0, 0)) (by (with_reducible repeat (first | refine blk_drewN ?_ _ | refine blk_drew ?_ | refine blk_alloc ?_ _)); exact BK421.out) hg (Kd.S_ne HO_423001.out BK421.out (by decide)))
                have n2_ := Aside0.mk (blk_grown (g := gb422) (o := .cells #[.int .i64 a0_0, u423001] 27 (0, 0)) (by (with_reducible repeat (first | refine blk_drewN ?_ _ | refine blk_drew ?_ | refine blk_alloc ?_ _)); exact BK422.out) hg (Kd.S_ne HO_423001.out BK422.out (by decide)))
                have n3_ := Aside0.mk (hb)
                have n4_ := Aside0.mk (ho)
                clear BK420
                clear BK421
                clear BK422
                clear HB
                clear HO_423001
                clear HO429
                have BK420 := n0_
                have BK421 := n1_
                have BK422 := n2_
                have HB := n3_
                have HO432 := n4_
                clear n0_ n1_ n2_ n3_ n4_
                clear ho hb hg hat
                obtain ⟨Ao22, co22, eo22⟩ := Kd.S_slice HO432.out
                (first | subst eo22 | (injection eo22 with f1_ f2_ f3_; have f4_ := f1_.symm; have f5_ := f3_.symm; clear f1_ f2_ f3_; subst f4_; subst f5_))
                refine hK.out _ _ ⟨(blk_cell BK422.out 0).trans rfl, (blk_cell BK422.out 1).trans rfl⟩ (fun hHeld => ?_)
                clear hK K
                refine norm_ (a' := ?_) ?_ ?_
                rotate_left
                · show Act.put _ (some 22) _ = _
                  simp only [Act.put, List.setIfInBounds_toArray, List.set_cons_zero, List.set_cons_succ, i64_w, i32_w]
                  rfl
                refine pure_ (i := 7) (N := some 23) (v := ?_) (a' := ?_) #[true, true, true, true, true, true, true, true, false] rfl rfl (any_of HT_.out (by kernel_rfl)) (fun _ _ _ h => h) (Or.inl ⟨by rfl, ?_⟩) ?_ ?_
                rotate_left
                · intro w'
                  go_simp
                  with_reducible rfl
                rotate_left
                · simp only [Act.put, List.setIfInBounds_toArray, List.set_cons_zero, List.set_cons_succ, i64_w, i32_w]
                  rfl
                refine last_ (i := 8) (N := none) #[true, true, true, true, true, true, true, true, true] rfl rfl (one_of HT_.out (by kernel_rfl)) (by decide) (fun K hK => ?_)
                have hs23 : w20.cell? ⟨gb422, 1, none⟩ = some (u423001) := (blk_cell BK422.out 1).trans rfl
                have hfs23 := blk_frozen BK422.out 1
                have hns23_0 := NB420_422.out
                have hns23_1 := NB421_422.out
                have hms23_0 := NB422_420.out
                have hms23_1 := NB422_421.out
                refine skip_ (w1 := ?_) (by rfl) rfl ?_ ?_
                rotate_left
                · go_simp
                  rfl
                refine hK.out _ _ ?_
                clear hK K
                refine done_ (done_of HT_.out (by kernel_rfl)) ?_
                try go_wp2
                go_roundg k1
                case measure => have := HK1.out; omega
                case rel => exact ⟨(wrap64 (x12_1 + 1)), (y430), (.slice Ao22 y430.length co22), (by first | rfl | (simp; done) | (simp [*]; done)), H', ⟨by have := HK1.out; omega⟩, ⟨by (with_reducible repeat (first | apply Kd.S_alloc | apply Kd.S_drewN | apply Kd.S_drew)); exact Kd.S_mono (Kd.S_far (p := ⟨gb422, 1, none⟩) (Kd.S_types HO432.out BK422.out (by decide)) (fun _ hk => hk.2) (.slice Ao22 y430.length co22)) (fun _ hk => trivial)⟩, ⟨by (with_reducible repeat (first | refine blk_drewN ?_ _ | refine blk_drew ?_ | refine blk_alloc ?_ _)); refine blk_far ?_ NB420_422.out _; (with_reducible repeat (first | refine blk_drewN ?_ _ | refine blk_drew ?_ | refine blk_alloc ?_ _)); exact BK420.out⟩, ⟨by (with_reducible repeat (first | refine blk_drewN ?_ _ | refine blk_drew ?_ | refine blk_alloc ?_ _)); refine blk_far ?_ NB421_422.out _; (with_reducible repeat (first | refine blk_drewN ?_ _ | refine blk_drew ?_ | refine blk_alloc ?_ _)); exact BK421.out⟩, ⟨by (with_reducible repeat (first | refine blk_drewN ?_ _ | refine blk_drew ?_ | refine blk_alloc ?_ _)); refine blk_put (cs := #[.int .i64 a0_0, u423001]) ?_ 1 _ rfl; (with_reducible repeat (first | refine blk_drewN ?_ _ | refine blk_drew ?_ | refine blk_alloc ?_ _)); exact BK422.out⟩, ⟨by repeat (first | (with_reducible first | exact HB.out | apply below_alloc | apply pw_below_drewN | apply below_drew1 | refine below_set ?_ GE420.out | refine below_set ?_ GE421.out | refine below_set ?_ GE422.out) | exact HB.out)⟩⟩
              · rw [if_neg c15] at H
                exact absurd H (by simp)
            · rw [if_neg c14] at H
              exact absurd H (by simp)
          · rw [if_neg c13] at H
            exact absurd H (by simp)
        · rw [if_neg c12] at H
          exact absurd H (by simp)
      · rw [if_neg c11] at H
        have c11b0 : decide (x12_1 < (l0_1.length : Int)) = false := decide_eq_false c11
        clear c11
        simp only [Option.some.injEq, Prod.mk.injEq] at H
        obtain ⟨rfl, rfl⟩ := H
        have hnb24 := NB422_420.out
        have hnc24 := NB420_422.out
        have hnb25 := NB422_421.out
        have hnc25 := NB421_422.out
        have hcz26_0 : wr.cell? ⟨gb422, 0, none⟩ = some (.int .i64 a0_0) := (blk_cell BK422.out 0).trans rfl
        have hcz26_1 : wr.cell? ⟨gb422, 1, none⟩ = some (u423001) := (blk_cell BK422.out 1).trans rfl
        have hfz26_0 := blk_frozen BK422.out 0
        have hfz26_1 := blk_frozen BK422.out 1
        have hnb27 := NB421_420.out
        have hnc27 := NB420_421.out
        have hcz28_0 : wr.cell? ⟨gb421, 0, none⟩ = some (.int .i64 0) := (blk_cell BK421.out 0).trans rfl
        have hcz28_1 : wr.cell? ⟨gb421, 1, none⟩ = some (.slice none 0 0) := (blk_cell BK421.out 1).trans rfl
        have hfz28_0 := blk_frozen BK421.out 0
        have hfz28_1 := blk_frozen BK421.out 1
        obtain ⟨Ao29, co29, eo29⟩ := Kd.S_slice HO_423001.out
        subst eo29
        go_wp2
        refine bodyPost_ret (results_cell_row rfl _ _ gb421 27 #[.int .i64 a0_0, .slice Ao29 x423001_1.length co29] (0, 0) _ rfl (by (with_reducible repeat (first | refine blk_drewN ?_ _ | refine blk_drew ?_ | refine blk_alloc ?_ _)); refine blk_put (cs := #[.int .i64 a0_0, .slice none 0 0]) ?_ 1 _ rfl; (with_reducible repeat (first | refine blk_drewN ?_ _ | refine blk_drew ?_ | refine blk_alloc ?_ _)); refine blk_put (cs := #[.int .i64 0, .slice none 0 0]) ?_ 0 _ rfl; (with_reducible repeat (first | refine blk_drewN ?_ _ | refine blk_drew ?_ | refine blk_alloc ?_ _)); exact BK421.out) Try.underlying27 rfl (by kernel_rfl)) rfl ?_
        exact ⟨_, by first | rfl | (simp [errW_none, errW_some] <;> rfl) | (simp [*, errW_none, errW_some] <;> rfl), by (with_reducible repeat (first | apply Kd.S_alloc | apply Kd.S_drewN | apply Kd.S_drew)); exact Kd.S_mono (Kd.S_far (p := ⟨gb421, 1, none⟩) (Kd.S_far (p := ⟨gb421, 0, none⟩) (Kd.S_types HO_423001.out BK421.out (by decide)) (fun _ hk => hk.2) (.int .i64 a0_0)) (fun _ hk => hk.2) (.slice Ao29 x423001_1.length co29)) (fun _ hk => trivial), by repeat (first | (with_reducible first | exact HB.out | apply below_alloc | apply pw_below_drewN | apply below_drew1 | refine below_set ?_ GE420.out | refine below_set ?_ GE421.out | refine below_set ?_ GE422.out) | exact HB.out)⟩

end Go.Proofs.Ytibaiaenfeppcaa.Q

-- made by a patched copy of print.sh: this session's own
namespace Go.Proofs.Ytibaiaenfeppcaa.Q
open Go.RowKit Go.Proofs.YtibaiaenfeppcaaW.PrintWords Go.Proofs.YtibaiaenfeppcaaW.PrintLast Go.Proofs.YtibaiaenfeppcaaW.PrintMore
attribute [local go_sem] max2_int min2_int max_two min_two max_three min_three max_four min_four   -- for this text's walks alone
set_option linter.unusedVariables false
set_option linter.unusedSimpArgs false

/-! ### impl_within: function 39 -/
def impl_within.f (a0 : Int) (a1 : Int) (a2 : Int) : Option (Bool) := if a1 ≤ a0 then (some (decide (a0 ≤ a2))) else (some false)
set_option maxHeartbeats 8000000 in
set_option maxRecDepth 100000 in
theorem impl_within.calls (a0 : Int) (a1 : Int) (a2 : Int) (r : Bool) (w : World) (h : impl_within.f a0 a1 a2 = some r) :
    Calls Try.prog 39 #[.int .i64 a0, .int .i64 a1, .int .i64 a2] w fun e w' => e = .returned (.bool r) ∧ Drawn0 w w' := by
  have H : (if a1 ≤ a0 then (some (decide (a0 ≤ a2))) else (some false)) = some r := h
  clear h
  by_cases c4 : a1 ≤ a0
  · rw [if_pos c4] at H
    have c4b0 : decide (a1 ≤ a0) = true := decide_eq_true c4
    clear c4
    obtain rfl := Option.some.inj H
    go_enter Try.func39, Try.ntmps39
    go_wp2
    go_ret
    exact ⟨by first | rfl | (simp; done) | (simp [*]; done), by repeat (first | exact Drawn0.refl _ | apply Drawn0.step)⟩
  · rw [if_neg c4] at H
    have c4b0 : decide (a1 ≤ a0) = false := decide_eq_false c4
    clear c4
    obtain rfl := Option.some.inj H
    go_enter Try.func39, Try.ntmps39
    go_wp2
    go_ret
    exact ⟨by first | rfl | (simp; done) | (simp [*]; done), by repeat (first | exact Drawn0.refl _ | apply Drawn0.step)⟩

end Go.Proofs.Ytibaiaenfeppcaa.Q

/- The program's (Yard).moved. -/
namespace Go.Proofs.Ytibaiaenfeppcaa.Ymv
open Go Go.RowKit Go.Proofs.YtibaiaenfeppcaaW.PrintWords Go.Proofs.YtibaiaenfeppcaaW.PrintLast Go.Proofs.YtibaiaenfeppcaaW.PrintMore Go.Proofs.Ytibaiaenfeppcaa.Q Go.Proofs.Ytibaiaenfeppcaa.PuY Go.Proofs.Ytibaiaenfeppcaa.Lw Go.Proofs.Ytibaiaenfeppcaa.Ow Go.Proofs.Ytibaiaenfeppcaa.Yo Go.Proofs.Ytibaiaenfeppcaa.Yn Go.Proofs.Ytibaiaenfeppcaa.Yt
set_option linter.unusedVariables false
set_option linter.unusedSimpArgs false
theorem within_eq (a b c : Int) : impl_within.f a b c = some (Ha.inB b c a) := by
  unfold impl_within.f Ha.inB; split <;> simp_all <;> (intros; omega)
theorem cloned_loop (h : Int) (xs : List (List Int)) (hl : xs.length ≤ 4) (hr : ∀ r ∈ xs, r.length ≤ 4) : ∀ (d k i : Nat), i + d = xs.length → d < k → impl_Yard_cloned.l0 k xs (xs.length : Int) (i : Int) h (xs.take i) = some (h, xs) := by
  intro d
  induction d with
  | zero =>
    intro k i hi hk
    obtain ⟨k, rfl⟩ : ∃ m, k = m + 1 := ⟨k - 1, by omega⟩
    simp only [impl_Yard_cloned.l0]
    rw [if_neg (by omega), List.take_of_length_le (by omega)]
  | succ d ih =>
    intro k i hi hk
    obtain ⟨k, rfl⟩ : ∃ m, k = m + 1 := ⟨k - 1, by omega⟩
    have hlt : i < xs.length := by omega
    have hx := hr xs[i] (List.getElem_mem hlt)
    simp only [impl_Yard_cloned.l0, Option.bind_some, List.nil_append, List.length_nil]
    rw [if_pos (by omega), if_pos (by omega), if_pos (by omega), rdL_at xs i hlt, if_pos (by omega), if_pos (by rw [List.length_take]; omega), wrap_succ i (by omega), ← List.take_succ_eq_append_getElem hlt]
    exact ih k (i + 1) (by omega) (by omega)
theorem cloned_eq (h : Int) (xs : List (List Int)) (hl : xs.length ≤ 4) (hr : ∀ r ∈ xs, r.length ≤ 4) : impl_Yard_cloned.f 1000 h xs = some (h, xs) := by
  have := cloned_loop h xs hl hr xs.length 1000 0 (by omega) (by omega)
  simpa [impl_Yard_cloned.f] using this
set_option maxRecDepth 100000 in
set_option maxHeartbeats 4000000 in
theorem no_from (h : Int) (xs : List (List Int)) (hx4 : xs.length ≤ 4) (h4 : h ≤ 4) (hr4 : ∀ r ∈ xs, r.length ≤ 4) (f t : Int) (h1 : f < 0 ∨ (xs.length : Int) ≤ f) (A : Option Addr) (c : Nat) (w : World) (hC : Kd.C dR w A xs.length xs) (hcl : xs.length ≤ c) :
    Calls Try.prog 50 #[.agg #[.int .i64 h, .slice A xs.length c], .int .i64 f, .int .i64 t] w fun e w' => e = .returned (.tuple #[.agg #[.int .i64 0, .slice none 0 0], .bool false]) ∧ Below w.heap.size w w' := by
  obtain ⟨n, hn⟩ : ∃ n, n = xs.length := ⟨_, rfl⟩
  have hu := Try.underlying27
  have hC0 := hC
  rw [← hn] at hC0 ⊢
  obtain ⟨m, hm⟩ : ∃ m, IntKind.i64.wrap ((n : Int) - 1) = m := ⟨_, rfl⟩
  have hmw : wrap64 ((n : Int) - 1) = m := by rw [← i64_w]; exact hm
  have hmv : m = (n : Int) - 1 := by rw [← hmw]; unfold wrap64; omega
  have hn4 : n ≤ 4 := by omega
  have hq : Ha.inB 0 m f = false := by unfold Ha.inB; rw [hmv, hn]; rcases h1 with h1 | h1 <;> simp <;> omega
  have H1 := Aside0.mk (show impl_within.f f 0 m = some false by rw [within_eq, hq])
  have HMV := Aside0.mk hmv
  have HN := Aside0.mk hn
  have HC := Aside0.mk hC
  have HR4 := Aside0.mk hr4
  clear hmv hn hC hC0 hr4 hq h1
  go_enter Try.func50, Try.ntmps50
  go_wp2_with (fail)
  go_quiet (first | (go_at_call 39; (with_reducible refine (impl_within.calls f 0 m false _ H1.out).mono ?_); rintro e w' ⟨rfl, ⟨nd, rfl⟩⟩; (try first | exact ⟨rfl, _, World.drewN_drewN _ _ _⟩ | exact ⟨rfl, _, Eq.trans (World.drewN_drewN _ _ _) (congrArg (World.drewN _) (Nat.add_assoc _ _ _))⟩)))
  go_wp2_with (fail)
  have hb := pw_below_drewN (below_alloc (below_alloc (Below.refl w.heap.size w) (.cells #[.int .i64 h, .slice A n c] 27)) (.cells #[.int .i64 0, .slice none 0 0] 27)) nq
  have b6 : (((w.alloc (.cells #[.int .i64 h, .slice A n c] 27)).alloc (.cells #[.int .i64 0, .slice none 0 0] 27)).drewN nq).heap[w.heap.size + 1]? = some (.cells #[.int .i64 0, .slice none 0 0] 27 (0, 0)) := blk_new' w _ _
  have b7 := blk_put (blk_put b6 0 (.int .i64 0) rfl) 1 (.slice none 0 0) rfl
  refine bodyPost_ret (results_ct rfl _ _ (w.heap.size + 1) 27 #[.int .i64 0, .slice none 0 0] (0, 0) _ rfl b7 Try.underlying27 rfl (by kernel_rfl)) rfl ?_
  exact ⟨rfl, (hb.setCell (p := ⟨w.heap.size + 1, 0, none⟩) (Nat.le_succ _) _).setCell (p := ⟨w.heap.size + 1, 1, none⟩) (Nat.le_succ _) _⟩
set_option maxRecDepth 100000 in
set_option maxHeartbeats 4000000 in
theorem no_to (h : Int) (xs : List (List Int)) (hx4 : xs.length ≤ 4) (h4 : h ≤ 4) (hr4 : ∀ r ∈ xs, r.length ≤ 4) (i : Nat) (hi : i < xs.length) (t : Int) (h1 : t < 0 ∨ (xs.length : Int) ≤ t) (A : Option Addr) (c : Nat) (w : World) (hC : Kd.C dR w A xs.length xs) (hcl : xs.length ≤ c) :
    Calls Try.prog 50 #[.agg #[.int .i64 h, .slice A xs.length c], .int .i64 (i : Int), .int .i64 t] w fun e w' => e = .returned (.tuple #[.agg #[.int .i64 0, .slice none 0 0], .bool false]) ∧ Below w.heap.size w w' := by
  obtain ⟨n, hn⟩ : ∃ n, n = xs.length := ⟨_, rfl⟩
  have hu := Try.underlying27
  have hC0 := hC
  rw [← hn] at hC0 ⊢
  obtain ⟨m, hm⟩ : ∃ m, IntKind.i64.wrap ((n : Int) - 1) = m := ⟨_, rfl⟩
  have hmw : wrap64 ((n : Int) - 1) = m := by rw [← i64_w]; exact hm
  have hmv : m = (n : Int) - 1 := by rw [← hmw]; unfold wrap64; omega
  have hn4 : n ≤ 4 := by omega
  have H1 := Aside0.mk (show impl_within.f (i : Int) 0 m = some true by rw [within_eq]; unfold Ha.inB; rw [hmv]; simp; omega)
  have hq : Ha.inB 0 m t = false := by unfold Ha.inB; rw [hmv, hn]; rcases h1 with h1 | h1 <;> simp <;> omega
  have H2 := Aside0.mk (show impl_within.f t 0 m = some false by rw [within_eq, hq])
  have HMV := Aside0.mk hmv
  have HN := Aside0.mk hn
  have HC := Aside0.mk hC
  have HR4 := Aside0.mk hr4
  clear hmv hn hC hC0 hr4 hq h1
  go_enter Try.func50, Try.ntmps50
  go_wp2_with (fail)
  go_quiet (first | (go_at_call 39; (with_reducible refine (impl_within.calls (i : Int) 0 m true _ H1.out).mono ?_); rintro e w' ⟨rfl, ⟨nd, rfl⟩⟩; (try first | exact ⟨rfl, _, World.drewN_drewN _ _ _⟩ | exact ⟨rfl, _, Eq.trans (World.drewN_drewN _ _ _) (congrArg (World.drewN _) (Nat.add_assoc _ _ _))⟩)) | (go_at_call 39; (with_reducible refine (impl_within.calls t 0 m false _ H2.out).mono ?_); rintro e w' ⟨rfl, ⟨nd, rfl⟩⟩; (try first | exact ⟨rfl, _, World.drewN_drewN _ _ _⟩ | exact ⟨rfl, _, Eq.trans (World.drewN_drewN _ _ _) (congrArg (World.drewN _) (Nat.add_assoc _ _ _))⟩)))
  go_wp2_with (fail)
  have hb := pw_below_drewN (below_alloc (below_alloc (Below.refl w.heap.size w) (.cells #[.int .i64 h, .slice A n c] 27)) (.cells #[.int .i64 0, .slice none 0 0] 27)) nq
  have b6 : (((w.alloc (.cells #[.int .i64 h, .slice A n c] 27)).alloc (.cells #[.int .i64 0, .slice none 0 0] 27)).drewN nq).heap[w.heap.size + 1]? = some (.cells #[.int .i64 0, .slice none 0 0] 27 (0, 0)) := blk_new' w _ _
  have b7 := blk_put (blk_put b6 0 (.int .i64 0) rfl) 1 (.slice none 0 0) rfl
  refine bodyPost_ret (results_ct rfl _ _ (w.heap.size + 1) 27 #[.int .i64 0, .slice none 0 0] (0, 0) _ rfl b7 Try.underlying27 rfl (by kernel_rfl)) rfl ?_
  exact ⟨rfl, (hb.setCell (p := ⟨w.heap.size + 1, 0, none⟩) (Nat.le_succ _) _).setCell (p := ⟨w.heap.size + 1, 1, none⟩) (Nat.le_succ _) _⟩
set_option maxRecDepth 100000 in
set_option maxHeartbeats 4000000 in
theorem no_same (h : Int) (xs : List (List Int)) (hx4 : xs.length ≤ 4) (h4 : h ≤ 4) (hr4 : ∀ r ∈ xs, r.length ≤ 4) (i : Nat) (hi : i < xs.length) (A : Option Addr) (c : Nat) (w : World) (hC : Kd.C dR w A xs.length xs) (hcl : xs.length ≤ c) :
    Calls Try.prog 50 #[.agg #[.int .i64 h, .slice A xs.length c], .int .i64 (i : Int), .int .i64 (i : Int)] w fun e w' => e = .returned (.tuple #[.agg #[.int .i64 0, .slice none 0 0], .bool false]) ∧ Below w.heap.size w w' := by
  obtain ⟨n, hn⟩ : ∃ n, n = xs.length := ⟨_, rfl⟩
  have hu := Try.underlying27
  have hC0 := hC
  rw [← hn] at hC0 ⊢
  obtain ⟨m, hm⟩ : ∃ m, IntKind.i64.wrap ((n : Int) - 1) = m := ⟨_, rfl⟩
  have hmw : wrap64 ((n : Int) - 1) = m := by rw [← i64_w]; exact hm
  have hmv : m = (n : Int) - 1 := by rw [← hmw]; unfold wrap64; omega
  have hn4 : n ≤ 4 := by omega
  have H1 := Aside0.mk (show impl_within.f (i : Int) 0 m = some true by rw [within_eq]; unfold Ha.inB; rw [hmv]; simp; omega)
  have e1 : ((i : Int) == (i : Int)) = true := beq_self_eq_true _
  have HMV := Aside0.mk hmv
  have HN := Aside0.mk hn
  have HC := Aside0.mk hC
  have HR4 := Aside0.mk hr4
  clear hmv hn hC hC0 hr4 
  go_enter Try.func50, Try.ntmps50
  go_wp2_with (fail)
  go_quiet (first | (go_at_call 39; (with_reducible refine (impl_within.calls (i : Int) 0 m true _ H1.out).mono ?_); rintro e w' ⟨rfl, ⟨nd, rfl⟩⟩; (try first | exact ⟨rfl, _, World.drewN_drewN _ _ _⟩ | exact ⟨rfl, _, Eq.trans (World.drewN_drewN _ _ _) (congrArg (World.drewN _) (Nat.add_assoc _ _ _))⟩)))
  go_wp2_with (fail)
  have hb := pw_below_drewN (below_alloc (below_alloc (Below.refl w.heap.size w) (.cells #[.int .i64 h, .slice A n c] 27)) (.cells #[.int .i64 0, .slice none 0 0] 27)) nq
  have b6 : (((w.alloc (.cells #[.int .i64 h, .slice A n c] 27)).alloc (.cells #[.int .i64 0, .slice none 0 0] 27)).drewN nq).heap[w.heap.size + 1]? = some (.cells #[.int .i64 0, .slice none 0 0] 27 (0, 0)) := blk_new' w _ _
  have b7 := blk_put (blk_put b6 0 (.int .i64 0) rfl) 1 (.slice none 0 0) rfl
  refine bodyPost_ret (results_ct rfl _ _ (w.heap.size + 1) 27 #[.int .i64 0, .slice none 0 0] (0, 0) _ rfl b7 Try.underlying27 rfl (by kernel_rfl)) rfl ?_
  exact ⟨rfl, (hb.setCell (p := ⟨w.heap.size + 1, 0, none⟩) (Nat.le_succ _) _).setCell (p := ⟨w.heap.size + 1, 1, none⟩) (Nat.le_succ _) _⟩
set_option maxRecDepth 100000 in
set_option maxHeartbeats 4000000 in
theorem no_lot (h : Int) (xs : List (List Int)) (hx4 : xs.length ≤ 4) (h4 : h ≤ 4) (hr4 : ∀ r ∈ xs, r.length ≤ 4) (i j : Nat) (hi : i < xs.length) (hj : j < xs.length) (hij : i ≠ j) (h1 : xs[i].length = 0) (A : Option Addr) (c : Nat) (w : World) (hC : Kd.C dR w A xs.length xs) (hcl : xs.length ≤ c) :
    Calls Try.prog 50 #[.agg #[.int .i64 h, .slice A xs.length c], .int .i64 (i : Int), .int .i64 (j : Int)] w fun e w' => e = .returned (.tuple #[.agg #[.int .i64 0, .slice none 0 0], .bool false]) ∧ Below w.heap.size w w' := by
  obtain ⟨n, hn⟩ : ∃ n, n = xs.length := ⟨_, rfl⟩
  have hu := Try.underlying27
  have hC0 := hC
  rw [← hn] at hC0 ⊢
  obtain ⟨m, hm⟩ : ∃ m, IntKind.i64.wrap ((n : Int) - 1) = m := ⟨_, rfl⟩
  have hmw : wrap64 ((n : Int) - 1) = m := by rw [← i64_w]; exact hm
  have hmv : m = (n : Int) - 1 := by rw [← hmw]; unfold wrap64; omega
  have hn4 : n ≤ 4 := by omega
  have H1 := Aside0.mk (show impl_within.f (i : Int) 0 m = some true by rw [within_eq]; unfold Ha.inB; rw [hmv]; simp; omega)
  have H2 := Aside0.mk (show impl_within.f (j : Int) 0 m = some true by rw [within_eq]; unfold Ha.inB; rw [hmv]; simp; omega)
  have e1 : ((i : Int) == (j : Int)) = false := beq_eq_false_iff_ne.2 (by omega)
  obtain ⟨adrI, AI, cI, eadrI, xI0, lrI, -⟩ := C_rows hC i hi
  cases eadrI
  obtain ⟨rI, hrrI⟩ : ∃ r, r = xs[i] := ⟨_, rfl⟩
  rw [← hrrI] at xI0 lrI
  have xI := pw_cell_below (below_alloc (below_alloc (Below.refl w.heap.size w) (.cells #[.int .i64 h, .slice (some adrI) n c] 27)) (.cells #[.int .i64 0, .slice none 0 0] 27)) xI0
  clear xI0
  rw [← hrrI] at h1
  have e2 : ((rI.length : Int) == 0) = true := beq_iff_eq.2 (by omega)
  have HRI := Aside0.mk hrrI
  have pi : (0 ≤ (i : Int)) = True := eq_true (by omega)
  have qi : ((i : Int) < (n : Int)) = True := eq_true (by omega)
  have HMV := Aside0.mk hmv
  have HN := Aside0.mk hn
  have HC := Aside0.mk hC
  have HR4 := Aside0.mk hr4
  clear hmv hn hC hC0 hr4 hrrI h1 hij
  go_enter Try.func50, Try.ntmps50
  go_wp2_with (fail)
  go_quiet (first | (go_at_call 39; (with_reducible refine (impl_within.calls (i : Int) 0 m true _ H1.out).mono ?_); rintro e w' ⟨rfl, ⟨nd, rfl⟩⟩; (try first | exact ⟨rfl, _, World.drewN_drewN _ _ _⟩ | exact ⟨rfl, _, Eq.trans (World.drewN_drewN _ _ _) (congrArg (World.drewN _) (Nat.add_assoc _ _ _))⟩)) | (go_at_call 39; (with_reducible refine (impl_within.calls (j : Int) 0 m true _ H2.out).mono ?_); rintro e w' ⟨rfl, ⟨nd, rfl⟩⟩; (try first | exact ⟨rfl, _, World.drewN_drewN _ _ _⟩ | exact ⟨rfl, _, Eq.trans (World.drewN_drewN _ _ _) (congrArg (World.drewN _) (Nat.add_assoc _ _ _))⟩)))
  go_wp2_with (fail)
  have hb := pw_below_drewN (below_alloc (below_alloc (Below.refl w.heap.size w) (.cells #[.int .i64 h, .slice (some adrI) n c] 27)) (.cells #[.int .i64 0, .slice none 0 0] 27)) nq
  have b6 : (((w.alloc (.cells #[.int .i64 h, .slice (some adrI) n c] 27)).alloc (.cells #[.int .i64 0, .slice none 0 0] 27)).drewN nq).heap[w.heap.size + 1]? = some (.cells #[.int .i64 0, .slice none 0 0] 27 (0, 0)) := blk_new' w _ _
  have b7 := blk_put (blk_put b6 0 (.int .i64 0) rfl) 1 (.slice none 0 0) rfl
  refine bodyPost_ret (results_ct rfl _ _ (w.heap.size + 1) 27 #[.int .i64 0, .slice none 0 0] (0, 0) _ rfl b7 Try.underlying27 rfl (by kernel_rfl)) rfl ?_
  exact ⟨rfl, (hb.setCell (p := ⟨w.heap.size + 1, 0, none⟩) (Nat.le_succ _) _).setCell (p := ⟨w.heap.size + 1, 1, none⟩) (Nat.le_succ _) _⟩
set_option maxRecDepth 100000 in
set_option maxHeartbeats 4000000 in
theorem no_room (h : Int) (xs : List (List Int)) (hx4 : xs.length ≤ 4) (h4 : h ≤ 4) (hr4 : ∀ r ∈ xs, r.length ≤ 4) (i j : Nat) (hi : i < xs.length) (hj : j < xs.length) (hij : i ≠ j) (h1 : 0 < xs[i].length) (h2 : (xs[j].length : Int) = h) (A : Option Addr) (c : Nat) (w : World) (hC : Kd.C dR w A xs.length xs) (hcl : xs.length ≤ c) :
    Calls Try.prog 50 #[.agg #[.int .i64 h, .slice A xs.length c], .int .i64 (i : Int), .int .i64 (j : Int)] w fun e w' => e = .returned (.tuple #[.agg #[.int .i64 0, .slice none 0 0], .bool false]) ∧ Below w.heap.size w w' := by
  obtain ⟨n, hn⟩ : ∃ n, n = xs.length := ⟨_, rfl⟩
  have hu := Try.underlying27
  have hC0 := hC
  rw [← hn] at hC0 ⊢
  obtain ⟨m, hm⟩ : ∃ m, IntKind.i64.wrap ((n : Int) - 1) = m := ⟨_, rfl⟩
  have hmw : wrap64 ((n : Int) - 1) = m := by rw [← i64_w]; exact hm
  have hmv : m = (n : Int) - 1 := by rw [← hmw]; unfold wrap64; omega
  have hn4 : n ≤ 4 := by omega
  have H1 := Aside0.mk (show impl_within.f (i : Int) 0 m = some true by rw [within_eq]; unfold Ha.inB; rw [hmv]; simp; omega)
  have H2 := Aside0.mk (show impl_within.f (j : Int) 0 m = some true by rw [within_eq]; unfold Ha.inB; rw [hmv]; simp; omega)
  have e1 : ((i : Int) == (j : Int)) = false := beq_eq_false_iff_ne.2 (by omega)
  obtain ⟨adrI, AI, cI, eadrI, xI0, lrI, -⟩ := C_rows hC i hi
  cases eadrI
  obtain ⟨rI, hrrI⟩ : ∃ r, r = xs[i] := ⟨_, rfl⟩
  rw [← hrrI] at xI0 lrI
  have xI := pw_cell_below (below_alloc (below_alloc (Below.refl w.heap.size w) (.cells #[.int .i64 h, .slice (some adrI) n c] 27)) (.cells #[.int .i64 0, .slice none 0 0] 27)) xI0
  clear xI0
  rw [← hrrI] at h1
  have e2 : ((rI.length : Int) == 0) = false := beq_eq_false_iff_ne.2 (by omega)
  have HRI := Aside0.mk hrrI
  obtain ⟨adrJ, AJ, cJ, eadrJ, xJ0, lrJ, -⟩ := C_rows hC j hj
  obtain rfl : adrI = adrJ := by injection eadrJ
  obtain ⟨rJ, hrrJ⟩ : ∃ r, r = xs[j] := ⟨_, rfl⟩
  rw [← hrrJ] at xJ0 lrJ
  have xJ := pw_cell_below (below_alloc (below_alloc (Below.refl w.heap.size w) (.cells #[.int .i64 h, .slice (some adrI) n c] 27)) (.cells #[.int .i64 0, .slice none 0 0] 27)) xJ0
  clear xJ0
  rw [← hrrJ] at h2
  have e3 : ((rJ.length : Int) == h) = true := beq_iff_eq.2 h2
  have HRJ := Aside0.mk hrrJ
  have pi : (0 ≤ (i : Int)) = True := eq_true (by omega)
  have qi : ((i : Int) < (n : Int)) = True := eq_true (by omega)
  have pj : (0 ≤ (j : Int)) = True := eq_true (by omega)
  have qj : ((j : Int) < (n : Int)) = True := eq_true (by omega)
  have HMV := Aside0.mk hmv
  have HN := Aside0.mk hn
  have HC := Aside0.mk hC
  have HR4 := Aside0.mk hr4
  clear hmv hn hC hC0 hr4 hrrI hrrJ h1 h2 hij
  go_enter Try.func50, Try.ntmps50
  go_wp2_with (fail)
  go_quiet (first | (go_at_call 39; (with_reducible refine (impl_within.calls (i : Int) 0 m true _ H1.out).mono ?_); rintro e w' ⟨rfl, ⟨nd, rfl⟩⟩; (try first | exact ⟨rfl, _, World.drewN_drewN _ _ _⟩ | exact ⟨rfl, _, Eq.trans (World.drewN_drewN _ _ _) (congrArg (World.drewN _) (Nat.add_assoc _ _ _))⟩)) | (go_at_call 39; (with_reducible refine (impl_within.calls (j : Int) 0 m true _ H2.out).mono ?_); rintro e w' ⟨rfl, ⟨nd, rfl⟩⟩; (try first | exact ⟨rfl, _, World.drewN_drewN _ _ _⟩ | exact ⟨rfl, _, Eq.trans (World.drewN_drewN _ _ _) (congrArg (World.drewN _) (Nat.add_assoc _ _ _))⟩)))
  go_wp2_with (fail)
  have hb := pw_below_drewN (below_alloc (below_alloc (Below.refl w.heap.size w) (.cells #[.int .i64 h, .slice (some adrI) n c] 27)) (.cells #[.int .i64 0, .slice none 0 0] 27)) nq
  have b6 : (((w.alloc (.cells #[.int .i64 h, .slice (some adrI) n c] 27)).alloc (.cells #[.int .i64 0, .slice none 0 0] 27)).drewN nq).heap[w.heap.size + 1]? = some (.cells #[.int .i64 0, .slice none 0 0] 27 (0, 0)) := blk_new' w _ _
  have b7 := blk_put (blk_put b6 0 (.int .i64 0) rfl) 1 (.slice none 0 0) rfl
  refine bodyPost_ret (results_ct rfl _ _ (w.heap.size + 1) 27 #[.int .i64 0, .slice none 0 0] (0, 0) _ rfl b7 Try.underlying27 rfl (by kernel_rfl)) rfl ?_
  exact ⟨rfl, (hb.setCell (p := ⟨w.heap.size + 1, 0, none⟩) (Nat.le_succ _) _).setCell (p := ⟨w.heap.size + 1, 1, none⟩) (Nat.le_succ _) _⟩
set_option maxRecDepth 100000 in
set_option maxHeartbeats 4000000 in
theorem yes (h : Int) (xs : List (List Int)) (hx4 : xs.length ≤ 4) (h4 : h ≤ 4) (hr4 : ∀ r ∈ xs, r.length ≤ 4) (i j : Nat) (hi : i < xs.length) (hj : j < xs.length) (hij : i ≠ j) (h1 : 0 < xs[i].length) (h2 : (xs[j].length : Int) < h) (A : Option Addr) (c : Nat) (w : World) (hC : Kd.C dR w A xs.length xs) (hcl : xs.length ≤ c) :
    Calls Try.prog 50 #[.agg #[.int .i64 h, .slice A xs.length c], .int .i64 (i : Int), .int .i64 (j : Int)] w fun e w' => ∃ v, e = .returned (.tuple #[.agg #[.int .i64 h, v], .bool true]) ∧ Kd.S dW 31 w' w.heap.size (fun _ => True) v (moveRows xs i j) ∧ Below w.heap.size w w' := by
  obtain ⟨n, hn⟩ : ∃ n, n = xs.length := ⟨_, rfl⟩
  have hu := Try.underlying27
  have hC0 := hC
  rw [← hn] at hC0 ⊢
  obtain ⟨m, hm⟩ : ∃ m, IntKind.i64.wrap ((n : Int) - 1) = m := ⟨_, rfl⟩
  have hmw : wrap64 ((n : Int) - 1) = m := by rw [← i64_w]; exact hm
  have hmv : m = (n : Int) - 1 := by rw [← hmw]; unfold wrap64; omega
  have hn4 : n ≤ 4 := by omega
  have H1 := Aside0.mk (show impl_within.f (i : Int) 0 m = some true by rw [within_eq]; unfold Ha.inB; rw [hmv]; simp; omega)
  have H2 := Aside0.mk (show impl_within.f (j : Int) 0 m = some true by rw [within_eq]; unfold Ha.inB; rw [hmv]; simp; omega)
  have e1 : ((i : Int) == (j : Int)) = false := beq_eq_false_iff_ne.2 (by omega)
  obtain ⟨adrI, AI0, cI0, eadrI, xI0, lrI, -⟩ := C_rows hC i hi
  cases eadrI
  obtain ⟨rI, hrrI⟩ : ∃ r, r = xs[i] := ⟨_, rfl⟩
  rw [← hrrI] at xI0 lrI
  have xI := pw_cell_below (below_alloc (below_alloc (Below.refl w.heap.size w) (.cells #[.int .i64 h, .slice (some adrI) n c] 27)) (.cells #[.int .i64 0, .slice none 0 0] 27)) xI0
  clear xI0
  rw [← hrrI] at h1
  have e2 : ((rI.length : Int) == 0) = false := beq_eq_false_iff_ne.2 (by omega)
  obtain ⟨adrJ, AJ0, cJ0, eadrJ, xJ0, lrJ, -⟩ := C_rows hC j hj
  obtain rfl : adrI = adrJ := by injection eadrJ
  obtain ⟨rJ, hrrJ⟩ : ∃ r, r = xs[j] := ⟨_, rfl⟩
  rw [← hrrJ] at xJ0 lrJ
  have xJ := pw_cell_below (below_alloc (below_alloc (Below.refl w.heap.size w) (.cells #[.int .i64 h, .slice (some adrI) n c] 27)) (.cells #[.int .i64 0, .slice none 0 0] 27)) xJ0
  clear xJ0
  rw [← hrrJ] at h2
  have e3 : ((rJ.length : Int) == h) = false := beq_eq_false_iff_ne.2 (by omega)
  have hrI4 : rI.length ≤ 4 := hr4 rI (by rw [hrrI]; exact List.getElem_mem hi)
  have hrJ4 : rJ.length ≤ 4 := hr4 rJ (by rw [hrrJ]; exact List.getElem_mem hj)
  have HRI := Aside0.mk hrrI
  have HRJ := Aside0.mk hrrJ
  have HIJ := Aside0.mk hij
  have hcn : n ≤ c := by omega
  have HCL := Aside0.mk hcl
  obtain ⟨q, hq⟩ : ∃ q, wrap64 ((rI.length : Int) - 1) = q := ⟨_, rfl⟩
  have hqv : q = (rI.length : Int) - 1 := by rw [← hq]; unfold wrap64; omega
  have hqw : IntKind.i64.wrap ((rI.length : Int) - 1) = q := by rw [i64_w]; exact hq
  have pq : (0 ≤ q) = True := eq_true (by omega)
  have qq : (q < (rI.length : Int)) = True := eq_true (by omega)
  have HQ := Aside0.mk hqv
  have HCLN := Aside0.mk (cloned_eq h xs hx4 hr4)
  have pi : (0 ≤ (i : Int)) = True := eq_true (by omega)
  have qi : ((i : Int) < (n : Int)) = True := eq_true (by omega)
  have pj : (0 ≤ (j : Int)) = True := eq_true (by omega)
  have qj : ((j : Int) < (n : Int)) = True := eq_true (by omega)
  have HMV := Aside0.mk hmv
  have HN := Aside0.mk hn
  have HC := Aside0.mk hC
  have HR4 := Aside0.mk hr4
  clear hmv hn hC hC0 hr4 hrrI hrrJ hij hcl hq hqv
  go_enter Try.func50, Try.ntmps50
  go_wp2_with (fail)
  go_quiet (first | (go_at_call 39; (with_reducible refine (impl_within.calls (i : Int) 0 m true _ H1.out).mono ?_); rintro e w' ⟨rfl, ⟨nd, rfl⟩⟩; (try first | exact ⟨rfl, _, World.drewN_drewN _ _ _⟩ | exact ⟨rfl, _, Eq.trans (World.drewN_drewN _ _ _) (congrArg (World.drewN _) (Nat.add_assoc _ _ _))⟩)) | (go_at_call 39; (with_reducible refine (impl_within.calls (j : Int) 0 m true _ H2.out).mono ?_); rintro e w' ⟨rfl, ⟨nd, rfl⟩⟩; (try first | exact ⟨rfl, _, World.drewN_drewN _ _ _⟩ | exact ⟨rfl, _, Eq.trans (World.drewN_drewN _ _ _) (congrArg (World.drewN _) (Nat.add_assoc _ _ _))⟩)))
  go_wp2_with (fail)
  have hcl2 := HCL.out
  rw [← HN.out] at hcl2
  have hcc := impl_Yard_cloned.calls 1000 h (some adrI) c xs h xs (((w.alloc (.cells #[.int .i64 h, .slice (some adrI) n c] 27)).alloc (.cells #[.int .i64 0, .slice none 0 0] 27)).drewN nq) (Kd.C_below HC.out (pw_below_drewN (below_alloc (below_alloc (Below.refl w.heap.size w) (.cells #[.int .i64 h, .slice (some adrI) n c] 27)) (.cells #[.int .i64 0, .slice none 0 0] 27)) nq)) HCL.out HCLN.out
  rw [← HN.out] at hcc
  refine hcc.mono ?_
  clear hcc
  rintro e w1 ⟨v, rfl, hS0, hb1⟩
  have HBL := Aside0.mk (below_step (pw_below_drewN (below_alloc (below_alloc (Below.refl w.heap.size w) (.cells #[.int .i64 h, .slice (some adrI) n c] 27)) (.cells #[.int .i64 0, .slice none 0 0] 27)) nq) hb1)
  have HB6 := Aside0.mk (blk_below (show (((w.alloc (.cells #[.int .i64 h, .slice (some adrI) n c] 27)).alloc (.cells #[.int .i64 0, .slice none 0 0] 27)).drewN nq).heap[w.heap.size + 1]? = some (.cells #[.int .i64 0, .slice none 0 0] 27 (0, 0)) from blk_new' w _ _) hb1)
  have HLO := Aside0.mk (show w.heap.size + 1 < w1.heap.size from blk_lt HB6.out)
  have hS1 : Kd.S dR 31 w1 (w.heap.size + 2) (fun k => k ≠ w1.heap.size) v xs := Kd.S_mono (Kd.S_elderB (Kd.S_lower hS0 (Nat.le_of_eq (show w.heap.size + 2 = ((w.alloc (.cells #[.int .i64 h, .slice (some adrI) n c] 27)).alloc (.cells #[.int .i64 0, .slice none 0 0] 27)).heap.size by simp))) w1.heap.size (Nat.le_refl _)) (fun k hk => hk.2)
  obtain ⟨Av, cv, hv⟩ := Kd.S_slice hS1
  rw [← HN.out] at hv
  subst hv
  have hS := Kd.S_alloc hS1 (.cells #[.int .i64 h, .slice Av n cv] 27)
  have hb : (w1.alloc (.cells #[.int .i64 h, .slice Av n cv] 27)).heap[w1.heap.size]? = some (.cells #[.int .i64 h, .slice Av n cv] 27 (0, 0)) := blk_new w1 _
  have HB6W := Aside0.mk (blk_alloc HB6.out (.cells #[.int .i64 h, .slice Av n cv] 27))
  have HBLW := Aside0.mk (below_alloc HBL.out (.cells #[.int .i64 h, .slice Av n cv] 27))
  have HSZ := Aside0.mk (show (w1.alloc (.cells #[.int .i64 h, .slice Av n cv] 27)).heap.size = w1.heap.size + 1 by simp)
  clear hS0 hb1 hS1 hcl2
  obtain ⟨gs, rfl⟩ : ∃ gs, Av = some ⟨gs, 0, none⟩ := by
    have := HN.out
    obtain ⟨gs, cap, he, _⟩ := Kd.S_form hS (by omega)
    injection he with he _ _
    exact ⟨gs, he⟩
  have hi' : i < n := by have := HN.out; omega
  have hj' : j < n := by have := HN.out; omega
  obtain ⟨okI, cI, hMI, hclI, hcI, hokI, hbackI⟩ := row_out (d := dR) rfl hS i hi' hi (fun k hk => by have := blk_lt hb; omega)
  obtain ⟨okJ, cJ, hMJ, hclJ, hcJ, hokJ, hbackJ⟩ := row_out (d := dR) rfl hS j hj' hj (fun k hk => by have := blk_lt hb; omega)
  obtain ⟨vI, rfl, hRI⟩ := hMI
  obtain ⟨vJ, rfl, hRJ⟩ := hMJ
  rw [← HRI.out] at hRI
  rw [← HRJ.out] at hRJ
  obtain ⟨AI, capI, rfl⟩ := Kd.R_slice hRI
  obtain ⟨AJ, capJ, rfl⟩ := Kd.R_slice hRJ
  have yI := hcI _ rfl
  have yJ := hcJ _ rfl
  have bx0 : (w1.alloc (.cells #[.int .i64 h, .slice (some ⟨gs, 0, none⟩) n cv] 27)).cell? ⟨w1.heap.size, 0, none⟩ = some (.int .i64 h) := (blk_cell hb 0).trans rfl
  have bx1 : (w1.alloc (.cells #[.int .i64 h, .slice (some ⟨gs, 0, none⟩) n cv] 27)).cell? ⟨w1.heap.size, 1, none⟩ = some (.slice (some ⟨gs, 0, none⟩) n cv) := (blk_cell hb 1).trans rfl
  obtain ⟨gI, eI, hxq⟩ := Kd.at_int (Kd.R_reads' hRI).2.2 q (by have := HQ.out; omega) (by have := HQ.out; omega)
  subst eI
  have HB := Aside0.mk hb
  have HGL := Aside0.mk (blk_lt hb)
  obtain ⟨f, hf⟩ := rows_f hS
  obtain ⟨uI, k1, -, k2⟩ := hf i hi
  obtain ⟨uJ, k3, k4, k5⟩ := hf j hj
  obtain rfl : uI = .slice (some gI) rI.length capI := by rw [yI] at k1; injection k1 with k1; exact k1.symm
  obtain rfl : uJ = .slice AJ rJ.length capJ := by rw [yJ] at k3; injection k3 with k3; exact k3.symm
  have HFR := Aside0.mk k4
  have hRJb := hRJ.1
  have HGS := Aside0.mk (show gs < (w1.alloc (.cells #[.int .i64 h, .slice (some ⟨gs, 0, none⟩) n cv] 27)).heap.size from World.block_lt_of_cell? _ _ yI)
  have HGI := Aside0.mk (show gI.block < (w1.alloc (.cells #[.int .i64 h, .slice (some ⟨gs, 0, none⟩) n cv] 27)).heap.size ∧ some gI.block ≠ (Value.slice AJ rJ.length capJ).ownBlock from ⟨by have := World.block_lt_of_cell? _ _ hxq; rwa [add_block] at this, fun e => by
    have a1 := (k2.1 gI.block rfl).2
    have a2 := (k5.1 gI.block e.symm).2
    have := HIJ.out
    omega⟩)
  have HGNE := Aside0.mk (show w1.heap.size ≠ gs from fun e => by
    obtain ⟨f0, hS0, _⟩ := hS
    exact hS0 gs (by simp [Value.ownBlock]) e.symm)
  have HGLO := Aside0.mk (show (w.heap.size + 2) ≤ gs from Kd.S_base hS gs (by simp [Value.ownBlock]))
  have HX := Aside0.mk (And.intro bx0 (And.intro bx1 (And.intro yI (And.intro yJ hxq))))
  have HBJ := Aside0.mk hbackJ
  have HRJR := Aside0.mk hRJ
  have HOK := Aside0.mk (And.intro hokI hokJ)
  clear hf k1 k2 k3 k4 k5 hbackI hbackJ hRI hRJ hokI hokJ hS hcI hcJ hclI hclJ hb
  go_wp2_with (fail)
  refine start_ (n := 20) (S := fun w' => w'.cell? ⟨w1.heap.size, 1, none⟩ = some (.slice (some ⟨gs, 0, none⟩) n cv) ∧ w'.cell? ⟨gs, j, none⟩ = some (.slice AJ rJ.length capJ) ∧ w'.cell? ⟨gs, i, none⟩ = some (.slice (some gI) rI.length capI) ∧ w'.cell? (gI.add q.toNat) = some (.int .i64 (rd rI q))) (ds := [19]) #[false, false, false, false, false, false, false, false, false, false, false, false, false, false, false, false, false, false, false, false] (by kernel_rfl) rfl rfl ⟨HX.out.2.1, HX.out.2.2.2.1, HX.out.2.2.1, HX.out.2.2.2.2⟩ (fun hHeld => ?_)
  have hV : Below (w1.alloc (.cells #[.int .i64 h, .slice (some ⟨gs, 0, none⟩) n cv] 27)).heap.size (w1.alloc (.cells #[.int .i64 h, .slice (some ⟨gs, 0, none⟩) n cv] 27)) (w1.alloc (.cells #[.int .i64 h, .slice (some ⟨gs, 0, none⟩) n cv] 27)).drew := below_drew (Below.refl _ _)
  have rV : Kd.R (Kd.int .i64) 2 (w1.alloc (.cells #[.int .i64 h, .slice (some ⟨gs, 0, none⟩) n cv] 27)).drew (w.heap.size + 2) (fun k => okJ k ∨ (w1.alloc (.cells #[.int .i64 h, .slice (some ⟨gs, 0, none⟩) n cv] 27)).heap.size ≤ k) (.slice AJ rJ.length capJ) rJ := Kd.R_mono (Kd.R_below HRJR.out hV) (fun k hk => .inl hk)
  generalize hw : (w1.alloc (.cells #[.int .i64 h, .slice (some ⟨gs, 0, none⟩) n cv] 27)).drew = V at hV rV hHeld ⊢
  have hVs : V.heap.size = (w1.alloc (.cells #[.int .i64 h, .slice (some ⟨gs, 0, none⟩) n cv] 27)).heap.size := by rw [← hw]; rfl
  clear hw
  refine pure_ (i := 0) (N := some 60) (v := ?_) (a' := ?_) #[true, false, false, false, false, false, false, false, false, false, false, false, false, false, false, false, false, false, false, false] rfl rfl (by kernel_rfl) (fun _ _ _ h => h) (Or.inl ⟨by rfl, ?_⟩) ?_ ?_
  rotate_left
  · intro w'
    go_simp
    with_reducible rfl
  rotate_left
  · simp only [Act.put, List.setIfInBounds_toArray, List.set_cons_zero, List.set_cons_succ, i64_w, i32_w]
    rfl
  refine pure_ (i := 2) (N := some 62) (v := ?_) (a' := ?_) #[true, false, true, false, false, false, false, false, false, false, false, false, false, false, false, false, false, false, false, false] rfl rfl (by kernel_rfl) (fun _ _ _ h => h) (Or.inl ⟨by rfl, ?_⟩) ?_ ?_
  rotate_left
  · intro w'
    go_simp
    with_reducible rfl
  rotate_left
  · simp only [Act.put, List.setIfInBounds_toArray, List.set_cons_zero, List.set_cons_succ, i64_w, i32_w]
    rfl
  refine pure_ (i := 3) (N := some 63) (v := ?_) (a' := ?_) #[true, false, true, true, false, false, false, false, false, false, false, false, false, false, false, false, false, false, false, false] rfl rfl (by kernel_rfl) (fun _ _ _ h => h) (Or.inl ⟨by rfl, ?_⟩) ?_ ?_
  rotate_left
  · intro w'
    go_simp
    with_reducible rfl
  rotate_left
  · simp only [Act.put, List.setIfInBounds_toArray, List.set_cons_zero, List.set_cons_succ, i64_w, i32_w]
    rfl
  refine pure_ (i := 5) (N := some 65) (v := ?_) (a' := ?_) #[true, false, true, true, false, true, false, false, false, false, false, false, false, false, false, false, false, false, false, false] rfl rfl (by kernel_rfl) (fun _ _ _ h => h) (Or.inl ⟨by rfl, ?_⟩) ?_ ?_
  rotate_left
  · intro w'
    go_simp
    with_reducible rfl
  rotate_left
  · simp only [Act.put, List.setIfInBounds_toArray, List.set_cons_zero, List.set_cons_succ, i64_w, i32_w]
    rfl
  refine pure_ (i := 8) (N := some 68) (v := ?_) (a' := ?_) #[true, false, true, true, false, true, false, false, true, false, false, false, false, false, false, false, false, false, false, false] rfl rfl (by kernel_rfl) (fun _ _ _ h => h) (Or.inl ⟨by rfl, ?_⟩) ?_ ?_
  rotate_left
  · intro w'
    go_simp
    with_reducible rfl
  rotate_left
  · simp only [Act.put, List.setIfInBounds_toArray, List.set_cons_zero, List.set_cons_succ, i64_w, i32_w]
    rfl
  refine pure_ (i := 10) (N := some 70) (v := ?_) (a' := ?_) #[true, false, true, true, false, true, false, false, true, false, true, false, false, false, false, false, false, false, false, false] rfl rfl (by kernel_rfl) (fun _ _ _ h => h) (Or.inl ⟨by rfl, ?_⟩) ?_ ?_
  rotate_left
  · intro w'
    go_simp
    with_reducible rfl
  rotate_left
  · simp only [Act.put, List.setIfInBounds_toArray, List.set_cons_zero, List.set_cons_succ, i64_w, i32_w]
    rfl
  refine pure_ (i := 13) (N := some 73) (v := ?_) (a' := ?_) #[true, false, true, true, false, true, false, false, true, false, true, false, false, true, false, false, false, false, false, false] rfl rfl (by kernel_rfl) (fun _ _ _ h => h) (Or.inl ⟨by rfl, ?_⟩) ?_ ?_
  rotate_left
  · intro w'
    go_simp
    with_reducible rfl
  rotate_left
  · simp only [Act.put, List.setIfInBounds_toArray, List.set_cons_zero, List.set_cons_succ, i64_w, i32_w]
    rfl
  refine take_ (i := 1) (N := some 61) (v := ?_) (a' := ?_) #[true, true, true, true, false, true, false, false, true, false, true, false, false, true, false, false, false, false, false, false] rfl rfl (by kernel_rfl) (fun _ _ _ h => h) (Or.inl ⟨by rfl, ?_⟩) hHeld ?_ ?_
  rotate_left
  · rintro w' ⟨s0, s1, s2, s3⟩
    go_simp
    with_reducible rfl
  rotate_left
  · simp only [Act.put, List.setIfInBounds_toArray, List.set_cons_zero, List.set_cons_succ, i64_w, i32_w]
    rfl
  refine take_ (i := 4) (N := some 64) (v := ?_) (a' := ?_) #[true, true, true, true, true, true, false, false, true, false, true, false, false, true, false, false, false, false, false, false] rfl rfl (by kernel_rfl) (fun _ _ _ h => h) (Or.inl ⟨by rfl, ?_⟩) hHeld ?_ ?_
  rotate_left
  · rintro w' ⟨s0, s1, s2, s3⟩
    go_simp
    with_reducible rfl
  rotate_left
  · simp only [Act.put, List.setIfInBounds_toArray, List.set_cons_zero, List.set_cons_succ, i64_w, i32_w]
    rfl
  refine pure_ (i := 6) (N := some 66) (v := ?_) (a' := ?_) #[true, true, true, true, true, true, true, false, true, false, true, false, false, true, false, false, false, false, false, false] rfl rfl (by kernel_rfl) (fun _ _ _ h => h) (Or.inl ⟨by rfl, ?_⟩) ?_ ?_
  rotate_left
  · intro w'
    go_simp
    with_reducible rfl
  rotate_left
  · simp only [Act.put, List.setIfInBounds_toArray, List.set_cons_zero, List.set_cons_succ, i64_w, i32_w]
    rfl
  refine take_ (i := 7) (N := some 67) (v := ?_) (a' := ?_) #[true, true, true, true, true, true, true, true, true, false, true, false, false, true, false, false, false, false, false, false] rfl rfl (by kernel_rfl) (fun _ _ _ h => h) (Or.inl ⟨by rfl, ?_⟩) hHeld ?_ ?_
  rotate_left
  · rintro w' ⟨s0, s1, s2, s3⟩
    go_simp
    with_reducible rfl
  rotate_left
  · simp only [Act.put, List.setIfInBounds_toArray, List.set_cons_zero, List.set_cons_succ, i64_w, i32_w]
    rfl
  refine take_ (i := 9) (N := some 69) (v := ?_) (a' := ?_) #[true, true, true, true, true, true, true, true, true, true, true, false, false, true, false, false, false, false, false, false] rfl rfl (by kernel_rfl) (fun _ _ _ h => h) (Or.inl ⟨by rfl, ?_⟩) hHeld ?_ ?_
  rotate_left
  · rintro w' ⟨s0, s1, s2, s3⟩
    go_simp
    with_reducible rfl
  rotate_left
  · simp only [Act.put, List.setIfInBounds_toArray, List.set_cons_zero, List.set_cons_succ, i64_w, i32_w]
    rfl
  refine pure_ (i := 11) (N := some 71) (v := ?_) (a' := ?_) #[true, true, true, true, true, true, true, true, true, true, true, true, false, true, false, false, false, false, false, false] rfl rfl (by kernel_rfl) (fun _ _ _ h => h) (Or.inl ⟨by rfl, ?_⟩) ?_ ?_
  rotate_left
  · intro w'
    go_simp
    with_reducible rfl
  rotate_left
  · simp only [Act.put, List.setIfInBounds_toArray, List.set_cons_zero, List.set_cons_succ, i64_w, i32_w]
    rfl
  refine take_ (i := 12) (N := some 72) (v := ?_) (a' := ?_) #[true, true, true, true, true, true, true, true, true, true, true, true, true, true, false, false, false, false, false, false] rfl rfl (by kernel_rfl) (fun _ _ _ h => h) (Or.inl ⟨by rfl, ?_⟩) hHeld ?_ ?_
  rotate_left
  · rintro w' ⟨s0, s1, s2, s3⟩
    go_simp
    with_reducible rfl
  rotate_left
  · simp only [Act.put, List.setIfInBounds_toArray, List.set_cons_zero, List.set_cons_succ, i64_w, i32_w]
    rfl
  refine pure_ (i := 14) (N := some 74) (v := ?_) (a' := ?_) #[true, true, true, true, true, true, true, true, true, true, true, true, true, true, true, false, false, false, false, false] rfl rfl (by kernel_rfl) (fun _ _ _ h => h) (Or.inl ⟨by rfl, ?_⟩) ?_ ?_
  rotate_left
  · intro w'
    go_simp
    with_reducible rfl
  rotate_left
  · simp only [Act.put, List.setIfInBounds_toArray, List.set_cons_zero, List.set_cons_succ, i64_w, i32_w]
    rfl
  refine take_ (i := 15) (N := some 75) (v := ?_) (a' := ?_) #[true, true, true, true, true, true, true, true, true, true, true, true, true, true, true, true, false, false, false, false] rfl rfl (by kernel_rfl) (fun _ _ _ h => h) (Or.inl ⟨by rfl, ?_⟩) hHeld ?_ ?_
  rotate_left
  · rintro w' ⟨s0, s1, s2, s3⟩
    go_simp
    with_reducible rfl
  rotate_left
  · simp only [Act.put, List.setIfInBounds_toArray, List.set_cons_zero, List.set_cons_succ, i64_w, i32_w]
    rfl
  refine one_ (i := 16) (N := some 76) #[true, true, true, true, true, true, true, true, true, true, true, true, true, true, true, true, true, false, false, false] rfl rfl (by kernel_rfl) (by decide) (fun K_ hK => ?_)
  refine value_ (v := .slice (some ⟨V.heap.size, 0, none⟩) 1 1) (w1 := V.alloc (.cells #[.int .i64 (rd rI q)] 2)) (by rfl) rfl ?_ ?_
  · go_simp
    first | done | exact ⟨rfl, rfl⟩ | rfl
  have hal := below_alloc (Below.refl V.heap.size V) (.cells #[.int .i64 (rd rI q)] 2)
  obtain ⟨t0, t1, t2, t3⟩ := hHeld
  refine hK.out _ _ ⟨pw_cell_below hal t0, pw_cell_below hal t1, pw_cell_below hal t2, pw_cell_below hal t3⟩ (fun hHeld => ?_)
  clear hK K_
  refine norm_ (a' := ?_) ?_ ?_
  rotate_left
  · show Act.put _ (some 76) _ = _
    simp only [Act.put, List.setIfInBounds_toArray, List.set_cons_zero, List.set_cons_succ, i64_w, i32_w]
    rfl
  refine one_ (i := 17) (N := some 77) #[true, true, true, true, true, true, true, true, true, true, true, true, true, true, true, true, true, true, false, false] rfl rfl (by kernel_rfl) (by decide) (fun K_ hK => ?_)
  refine Kd.R_append_step (Kd.int .i64) (w0 := (w1.alloc (.cells #[.int .i64 h, .slice (some ⟨gs, 0, none⟩) n cv] 27))) (w.heap.size + 2) (by rfl) (.tmp 67) (.tmp 76) 31 2 (.int .i64 0) 8 rfl Try.underlying31 infoI rfl (by decide) (by decide) (.slice AJ rJ.length capJ) rJ (rd rI q) [.int .i64 (rd rI q)] (fun k => okJ k ∨ (w1.alloc (.cells #[.int .i64 h, .slice (some ⟨gs, 0, none⟩) n cv] 27)).heap.size ≤ k) (fun _ => False) rfl rfl rfl (fun _ hk => hk.elim) (fun k hk => .inr (by omega)) rV (Below.mono hV (by have := HGLO.out; have := HGS.out; omega)) (by have := HGLO.out; have := HGS.out; omega) (by omega) ?_
  intro v1 w2 h1 Hb2 h3 h4
  obtain ⟨A1, c1, rfl⟩ := Kd.R_slice h1
  have h1L := h1
  rw [show (rJ ++ [rd rI q]).length = rJ.length + 1 by simp] at h1L
  have hs2 := h3.size
  have nb : ∀ k, ¬ okJ k → k < (w1.alloc (.cells #[.int .i64 h, .slice (some ⟨gs, 0, none⟩) n cv] 27)).heap.size → w2.heap[k]? = V.heap[k]? := fun k hn hk => h3.block k (by omega) (fun e => hn (hRJb k e.symm))
  have hgs := HGS.out
  have hgl := HGL.out
  have z0 : w2.cell? ⟨w1.heap.size, 1, none⟩ = some (.slice (some ⟨gs, 0, none⟩) n cv) := (World.cell?_of_block (w := V) (nb w1.heap.size (fun h => (HOK.out.2 _ h).1 rfl) hgl)).trans t0
  have z1 : w2.cell? ⟨gs, j, none⟩ = some (.slice AJ rJ.length capJ) := (World.cell?_of_block (w := V) (nb gs (fun h => (HOK.out.2 gs h).2 rfl) hgs)).trans t1
  have z2 : w2.cell? ⟨gs, i, none⟩ = some (.slice (some gI) rI.length capI) := (World.cell?_of_block (w := V) (nb gs (fun h => (HOK.out.2 gs h).2 rfl) hgs)).trans t2
  have z3 : w2.cell? (gI.add q.toNat) = some (.int .i64 (rd rI q)) := (World.cell?_of_block (w := V) (by rw [add_block]; exact h3.block gI.block (by have := HGI.out.1; omega) HGI.out.2)).trans t3
  have z4 : w2.frozen? ⟨gs, j, none⟩ = false := (World.frozen?_of_block (w := V) (nb gs (fun h => (HOK.out.2 gs h).2 rfl) hgs)).trans ((World.frozen?_of_block (w := (w1.alloc (.cells #[.int .i64 h, .slice (some ⟨gs, 0, none⟩) n cv] 27))) (hV.block gs hgs)).trans HFR.out)
  have hy3 := HBJ.out w2 (.slice A1 (rJ.length + 1) c1) (rJ ++ [rd rI q]) (by omega) (fun k hk hn => (nb k hn hk).trans (hV.block k hk)) ⟨_, rfl, h1L⟩
  have HY3 := Aside0.mk hy3
  have HB2 := Aside0.mk Hb2
  have HNB := Aside0.mk (show ∀ k, ¬ okJ k → k < (w1.alloc (.cells #[.int .i64 h, .slice (some ⟨gs, 0, none⟩) n cv] 27)).heap.size → w2.heap[k]? = (w1.alloc (.cells #[.int .i64 h, .slice (some ⟨gs, 0, none⟩) n cv] 27)).heap[k]? from fun k hn hk => (nb k hn hk).trans (hV.block k hk))
  clear h1L h1 Hb2 h3 h4 nb hy3 rV hVs hV t0 t1 t2 t3 hal hgs hgl
  refine hK.out _ _ ⟨z0, z1, z2, z3⟩ (fun hHeld => ?_)
  clear hK K_
  refine norm_ (a' := ?_) ?_ ?_
  rotate_left
  · show Act.put _ (some 77) _ = _
    simp only [Act.put, List.setIfInBounds_toArray, List.set_cons_zero, List.set_cons_succ, i64_w, i32_w]
    rfl
  refine pure_ (i := 18) (N := some 78) (v := ?_) (a' := ?_) #[true, true, true, true, true, true, true, true, true, true, true, true, true, true, true, true, true, true, true, false] rfl rfl (by kernel_rfl) (fun _ _ _ h => h) (Or.inl ⟨by rfl, ?_⟩) ?_ ?_
  rotate_left
  · intro w'
    go_simp
    with_reducible rfl
  rotate_left
  · simp only [Act.put, List.setIfInBounds_toArray, List.set_cons_zero, List.set_cons_succ, i64_w, i32_w]
    rfl
  refine last_ (i := 19) (N := none) #[true, true, true, true, true, true, true, true, true, true, true, true, true, true, true, true, true, true, true, true] rfl rfl (by kernel_rfl) (by decide) (fun K_ hK => ?_)
  refine skip_ (w1 := ?_) (by rfl) rfl ?_ ?_
  rotate_left
  · go_simp
    rfl
  refine hK.out _ _ ?_
  clear hK K_
  refine done_ (by kernel_rfl) ?_
  have hlo2 : (w.heap.size + 2) ≤ (w1.alloc (.cells #[.int .i64 h, .slice (some ⟨gs, 0, none⟩) n cv] 27)).heap.size := by have := HGLO.out; have := HGS.out; omega
  have hset : YO (w.heap.size + 2) (w2.setCell ⟨gs, j, none⟩ (.slice A1 (rJ.length + 1) c1)) w1.heap.size h (xs.set j (rJ ++ [rd rI q])) := by
    refine ⟨some ⟨gs, 0, none⟩, cv, ?_, by have := HLO.out; omega, ?_, ?_⟩
    · rw [List.length_set, ← HN.out, Below.heap_setCell _ _ _ _ HGNE.out, HNB.out w1.heap.size (fun h => (HOK.out.2 _ h).1 rfl) HGL.out]; exact HB.out
    · exact Nat.le_trans hlo2 (HB2.out.setCell (p := ⟨gs, j, none⟩) HGLO.out _).size
    · rw [List.length_set, ← HN.out]; exact HY3.out.1
  have hb3 : Below (w.heap.size + 2) (w1.alloc (.cells #[.int .i64 h, .slice (some ⟨gs, 0, none⟩) n cv] 27)) (w2.setCell ⟨gs, j, none⟩ (.slice A1 (rJ.length + 1) c1)) := HB2.out.setCell (p := ⟨gs, j, none⟩) HGLO.out _
  generalize hw3 : w2.setCell ⟨gs, j, none⟩ (.slice A1 (rJ.length + 1) c1) = w3 at hset hb3 ⊢
  clear hw3 z0 z1 z2 z3 z4 hHeld HY3 HB2 HNB bx0 bx1 yI yJ hxq
  have HB3 := Aside0.mk hb3
  have HB63 := Aside0.mk ((hb3.block (w.heap.size + 1) (by omega)).trans HB6W.out)
  clear hb3
  obtain ⟨A3, c3, hb3, -, hlo3, hS3⟩ := hset
  have hn' := HN.out
  have q0 := of_eq_true pq
  have q1 := of_eq_true qq
  have hl3 : (xs.set j (rJ ++ [rd rI q])).length = n := by rw [List.length_set, HN.out]
  rw [hl3] at hb3 hS3
  obtain ⟨gs3, rfl⟩ : ∃ gs3, A3 = some ⟨gs3, 0, none⟩ := by
    obtain ⟨gs3, cap, he, _⟩ := Kd.S_form hS3 (by omega)
    rw [hl3] at he
    injection he with he _ _
    exact ⟨gs3, he⟩
  obtain ⟨okK, cK, hMK, hclK, hcK, hokK, hbackK⟩ := row_out (d := dW) rfl (sW_of_sR hS3) i hi' (by omega) (fun k hk => by have := blk_lt hb3; omega)
  obtain ⟨vK, rfl, hRK⟩ := hMK
  have xK := hcK _ rfl
  have e4 : (xs.set j (rJ ++ [rd rI q]))[i]'(by omega) = rI := (List.getElem_set_ne (Ne.symm HIJ.out) _).trans HRI.out.symm
  rw [e4] at hRK
  obtain ⟨AK, capK, rfl, hcapK, -⟩ := hRK.reads
  have hcut := cutm_run AK rI.length capK q (by omega) (by omega) hcapK
  obtain ⟨f3, hf3⟩ := rows_f hS3
  obtain ⟨uK, k1, k2, -⟩ := hf3 i (by omega)
  obtain rfl : uK = .slice AK rI.length capK := by rw [xK] at k1; injection k1 with k1; exact k1.symm
  have yx1 : w3.cell? ⟨w1.heap.size, 1, none⟩ = some (.slice (some ⟨gs3, 0, none⟩) n c3) := (blk_cell hb3 1).trans rfl
  have HRK := Aside0.mk (rowW_cut (m := q.toNat) hRK (by omega))
  have HBK := Aside0.mk hbackK
  have HB3' := Aside0.mk hb3
  have HGN3 := Aside0.mk (show w1.heap.size ≠ gs3 from fun e => by
    obtain ⟨f0, hS0, _⟩ := hS3
    exact hS0 gs3 (by simp [Value.ownBlock]) e.symm)
  have HGL3 := Aside0.mk (show (w.heap.size + 2) ≤ gs3 from Kd.S_base hS3 gs3 (by simp [Value.ownBlock]))
  have HX3 := Aside0.mk (And.intro yx1 xK)
  clear hb3 hlo3 hS3 hcK hokK hbackK hRK e4 hf3 hl3 hclK hn' q0 q1 hcapK
  go_wp2_with (fail)
  refine start_ (n := 13) (S := fun w' => w'.cell? ⟨w1.heap.size, 1, none⟩ = some (.slice (some ⟨gs3, 0, none⟩) n c3) ∧ w'.cell? ⟨gs3, i, none⟩ = some (.slice AK rI.length capK)) (ds := [12]) #[false, false, false, false, false, false, false, false, false, false, false, false, false] (by kernel_rfl) rfl rfl HX3.out (fun hHeld => ?_)
  refine pure_ (i := 0) (N := some 79) (v := ?_) (a' := ?_) #[true, false, false, false, false, false, false, false, false, false, false, false, false] rfl rfl (by kernel_rfl) (fun _ _ _ h => h) (Or.inl ⟨by rfl, ?_⟩) ?_ ?_
  rotate_left
  · intro w'
    go_simp
    with_reducible rfl
  rotate_left
  · simp only [Act.put, List.setIfInBounds_toArray, List.set_cons_zero, List.set_cons_succ, i64_w, i32_w]
    rfl
  refine pure_ (i := 2) (N := some 81) (v := ?_) (a' := ?_) #[true, false, true, false, false, false, false, false, false, false, false, false, false] rfl rfl (by kernel_rfl) (fun _ _ _ h => h) (Or.inl ⟨by rfl, ?_⟩) ?_ ?_
  rotate_left
  · intro w'
    go_simp
    with_reducible rfl
  rotate_left
  · simp only [Act.put, List.setIfInBounds_toArray, List.set_cons_zero, List.set_cons_succ, i64_w, i32_w]
    rfl
  refine pure_ (i := 3) (N := some 82) (v := ?_) (a' := ?_) #[true, false, true, true, false, false, false, false, false, false, false, false, false] rfl rfl (by kernel_rfl) (fun _ _ _ h => h) (Or.inl ⟨by rfl, ?_⟩) ?_ ?_
  rotate_left
  · intro w'
    go_simp
    with_reducible rfl
  rotate_left
  · simp only [Act.put, List.setIfInBounds_toArray, List.set_cons_zero, List.set_cons_succ, i64_w, i32_w]
    rfl
  refine pure_ (i := 5) (N := some 84) (v := ?_) (a' := ?_) #[true, false, true, true, false, true, false, false, false, false, false, false, false] rfl rfl (by kernel_rfl) (fun _ _ _ h => h) (Or.inl ⟨by rfl, ?_⟩) ?_ ?_
  rotate_left
  · intro w'
    go_simp
    with_reducible rfl
  rotate_left
  · simp only [Act.put, List.setIfInBounds_toArray, List.set_cons_zero, List.set_cons_succ, i64_w, i32_w]
    rfl
  refine pure_ (i := 8) (N := some 87) (v := ?_) (a' := ?_) #[true, false, true, true, false, true, false, false, true, false, false, false, false] rfl rfl (by kernel_rfl) (fun _ _ _ h => h) (Or.inl ⟨by rfl, ?_⟩) ?_ ?_
  rotate_left
  · intro w'
    go_simp
    with_reducible rfl
  rotate_left
  · simp only [Act.put, List.setIfInBounds_toArray, List.set_cons_zero, List.set_cons_succ, i64_w, i32_w]
    rfl
  refine pure_ (i := 9) (N := some 88) (v := ?_) (a' := ?_) #[true, false, true, true, false, true, false, false, true, true, false, false, false] rfl rfl (by kernel_rfl) (fun _ _ _ h => h) (Or.inl ⟨by rfl, ?_⟩) ?_ ?_
  rotate_left
  · intro w'
    go_simp
    with_reducible rfl
  rotate_left
  · simp only [Act.put, List.setIfInBounds_toArray, List.set_cons_zero, List.set_cons_succ, i64_w, i32_w]
    rfl
  refine take_ (i := 1) (N := some 80) (v := ?_) (a' := ?_) #[true, true, true, true, false, true, false, false, true, true, false, false, false] rfl rfl (by kernel_rfl) (fun _ _ _ h => h) (Or.inl ⟨by rfl, ?_⟩) hHeld ?_ ?_
  rotate_left
  · rintro w' ⟨s0, s1⟩
    go_simp
    with_reducible rfl
  rotate_left
  · simp only [Act.put, List.setIfInBounds_toArray, List.set_cons_zero, List.set_cons_succ, i64_w, i32_w]
    rfl
  refine take_ (i := 4) (N := some 83) (v := ?_) (a' := ?_) #[true, true, true, true, true, true, false, false, true, true, false, false, false] rfl rfl (by kernel_rfl) (fun _ _ _ h => h) (Or.inl ⟨by rfl, ?_⟩) hHeld ?_ ?_
  rotate_left
  · rintro w' ⟨s0, s1⟩
    go_simp
    with_reducible rfl
  rotate_left
  · simp only [Act.put, List.setIfInBounds_toArray, List.set_cons_zero, List.set_cons_succ, i64_w, i32_w]
    rfl
  refine pure_ (i := 6) (N := some 85) (v := ?_) (a' := ?_) #[true, true, true, true, true, true, true, false, true, true, false, false, false] rfl rfl (by kernel_rfl) (fun _ _ _ h => h) (Or.inl ⟨by rfl, ?_⟩) ?_ ?_
  rotate_left
  · intro w'
    go_simp
    with_reducible rfl
  rotate_left
  · simp only [Act.put, List.setIfInBounds_toArray, List.set_cons_zero, List.set_cons_succ, i64_w, i32_w]
    rfl
  refine take_ (i := 7) (N := some 86) (v := ?_) (a' := ?_) #[true, true, true, true, true, true, true, true, true, true, false, false, false] rfl rfl (by kernel_rfl) (fun _ _ _ h => h) (Or.inl ⟨by rfl, ?_⟩) hHeld ?_ ?_
  rotate_left
  · rintro w' ⟨s0, s1⟩
    go_simp
    with_reducible rfl
  rotate_left
  · simp only [Act.put, List.setIfInBounds_toArray, List.set_cons_zero, List.set_cons_succ, i64_w, i32_w]
    rfl
  refine pure_ (i := 10) (N := some 89) (v := ?_) (a' := ?_) #[true, true, true, true, true, true, true, true, true, true, true, false, false] rfl rfl (by kernel_rfl) (fun _ _ _ h => h) (Or.inl ⟨by rfl, ?_⟩) ?_ ?_
  rotate_left
  · intro w'
    go_simp
    with_reducible rfl
  rotate_left
  · simp only [Act.put, List.setIfInBounds_toArray, List.set_cons_zero, List.set_cons_succ, i64_w, i32_w]
    rfl
  refine pure_ (i := 11) (N := some 90) (v := ?_) (a' := ?_) #[true, true, true, true, true, true, true, true, true, true, true, true, false] rfl rfl (by kernel_rfl) (fun _ _ _ h => h) (Or.inl ⟨by rfl, ?_⟩) ?_ ?_
  rotate_left
  · intro w'
    go_simp
    with_reducible rfl
  rotate_left
  · simp only [Act.put, List.setIfInBounds_toArray, List.set_cons_zero, List.set_cons_succ, i64_w, i32_w]
    rfl
  refine last_ (i := 12) (N := none) #[true, true, true, true, true, true, true, true, true, true, true, true, true] rfl rfl (by kernel_rfl) (by decide) (fun K_ hK => ?_)
  refine skip_ (w1 := ?_) (by rfl) rfl ?_ ?_
  rotate_left
  · go_simp
    rfl
  refine hK.out _ _ ?_
  clear hK K_
  refine done_ (by kernel_rfl) ?_
  obtain ⟨p1, p2⟩ := HBK.out w3 (.slice AK q.toNat q.toNat) (rI.take q.toNat) (Nat.le_refl _) (fun _ _ _ => rfl) ⟨_, rfl, by
    have := HRK.out
    rcases this with h | ⟨g1, cap1, cur1, hv, hb', ho, r1⟩
    · exact .inl h
    · exact .inr ⟨g1, cap1, cur1, hv, hb', .inl ho, r1⟩⟩
  have b5 : (w3.setCell ⟨gs3, i, none⟩ (.slice AK q.toNat q.toNat)).drew.heap[w1.heap.size]? = some (.cells #[.int .i64 h, .slice (some ⟨gs3, 0, none⟩) n c3] 27 (0, 0)) := by
    show (w3.setCell ⟨gs3, i, none⟩ (.slice AK q.toNat q.toNat)).heap[w1.heap.size]? = _
    rw [Below.heap_setCell _ _ _ _ HGN3.out]; exact HB3'.out
  have b6 : (w3.setCell ⟨gs3, i, none⟩ (.slice AK q.toNat q.toNat)).drew.heap[w.heap.size + 1]? = some (.cells #[.int .i64 0, .slice none 0 0] 27 (0, 0)) := by
    show (w3.setCell ⟨gs3, i, none⟩ (.slice AK q.toNat q.toNat)).heap[w.heap.size + 1]? = _
    rw [Below.heap_setCell _ _ _ _ (show w.heap.size + 1 ≠ gs3 by have := HGL3.out; omega)]; exact HB63.out
  have p3 := Kd.S_drew p1
  have p4 : Below (w.heap.size + 2) (w1.alloc (.cells #[.int .i64 h, .slice (some ⟨gs, 0, none⟩) n cv] 27)) (w3.setCell ⟨gs3, i, none⟩ (.slice AK q.toNat q.toNat)).drew := below_drew (HB3.out.setCell (p := ⟨gs3, i, none⟩) HGL3.out _)
  generalize hw5 : (w3.setCell ⟨gs3, i, none⟩ (.slice AK q.toNat q.toNat)).drew = w5 at b5 b6 p3 p4 ⊢
  have y0 : w5.cell? ⟨w1.heap.size, 0, none⟩ = some (.int .i64 h) := (blk_cell b5 0).trans rfl
  have y1 : w5.cell? ⟨w1.heap.size, 1, none⟩ = some (.slice (some ⟨gs3, 0, none⟩) n c3) := (blk_cell b5 1).trans rfl
  have g0 : w5.cell? ⟨w.heap.size + 1, 0, none⟩ = some (.int .i64 0) := (blk_cell b6 0).trans rfl
  have g1 : w5.cell? ⟨w.heap.size + 1, 1, none⟩ = some (.slice none 0 0) := (blk_cell b6 1).trans rfl
  have g2 := blk_frozen b6 0
  have g3 := blk_frozen b6 1
  have B6 := Aside0.mk b6
  have P3 := Aside0.mk p3
  have P4 := Aside0.mk p4
  have HNE5 := Aside0.mk (show w1.heap.size ≠ w.heap.size + 1 by have := HLO.out; omega)
  clear hw5 p1 p2 p3 p4 b5 b6 hHeld yx1 xK k1 k2
  go_wp2_with (fail)
  have b7 := blk_put (blk_put B6.out 0 (.int .i64 h) rfl) 1 (.slice (some ⟨gs3, 0, none⟩) n c3) rfl
  have hm' : moveRows xs i j = (xs.set j (rJ ++ [rd rI q])).set i (rI.take q.toNat) := by
    have a1 := HQ.out
    have a2 : xs.getD i [] = rI := by rw [List.getD_eq_getElem?_getD, List.getElem?_eq_getElem hi, HRI.out]; rfl
    have a3 : xs.getD j [] = rJ := by rw [List.getD_eq_getElem?_getD, List.getElem?_eq_getElem hj, HRJ.out]; rfl
    unfold moveRows
    rw [a2, a3, ← a1, show q.toNat = rI.length - 1 by omega]
  refine bodyPost_ret (results_ct rfl _ _ (w.heap.size + 1) 27 #[.int .i64 h, .slice (some ⟨gs3, 0, none⟩) n c3] (0, 0) _ rfl b7 Try.underlying27 rfl (by kernel_rfl)) rfl ?_
  refine ⟨_, rfl, ?_, ?_⟩
  · rw [hm']
    exact Kd.S_mono (Kd.S_far (p := ⟨w.heap.size + 1, 1, none⟩) (Kd.S_far (p := ⟨w.heap.size + 1, 0, none⟩) (Kd.S_lower (Kd.S_bound P3.out) (by omega : w.heap.size ≤ (w.heap.size + 2))) (fun k hk => by have := hk.2.1; show k ≠ w.heap.size + 1; omega) _) (fun k hk => by have := hk.2.1; show k ≠ w.heap.size + 1; omega) _) (fun _ _ => trivial)
  · exact ((HBLW.out.trans (P4.out.mono (by omega))).setCell (p := ⟨w.heap.size + 1, 0, none⟩) (Nat.le_succ _) _).setCell (p := ⟨w.heap.size + 1, 1, none⟩) (Nat.le_succ _) _
end Go.Proofs.Ytibaiaenfeppcaa.Ymv

-- made by a patched copy of print.sh: this session's own
namespace Go.Proofs.Ytibaiaenfeppcaa.Q
open Go.RowKit Go.Proofs.YtibaiaenfeppcaaW.PrintWords Go.Proofs.YtibaiaenfeppcaaW.PrintLast Go.Proofs.YtibaiaenfeppcaaW.PrintMore
attribute [local go_sem] max2_int min2_int max_two min_two max_three min_three max_four min_four   -- for this text's walks alone
set_option linter.unusedVariables false
set_option linter.unusedSimpArgs false

/-! ### impl_Yard_lots: function 42 -/
def impl_Yard_lots.f (a0_0 : Int) (l0_1 : List (List Int)) : Option (List Int) := if l0_1.length ≤ 1000000 ∧ l0_1.flatten.length ≤ 1000000 then some l0_1.flatten else none
theorem impl_Yard_lots.calls (a0_0 : Int) (A0_1 : Option Addr) (c0_1 : Nat) (l0_1 : List (List Int)) (r : List Int) (w : World) (hr0_1 : Kd.C (Kd.slice 2 (Kd.int .i64)) w A0_1 l0_1.length l0_1) (hc0_1 : l0_1.length ≤ c0_1) (h : impl_Yard_lots.f a0_0 l0_1 = some r) :
    Calls Try.prog 42 #[.agg #[.int .i64 a0_0, .slice A0_1 l0_1.length c0_1]] w fun e w' => ∃ v0_ : Value, e = .returned (v0_) ∧ Kd.R (Kd.int .i64) 2 w' w.heap.size (fun _ => True) v0_ r ∧ Below w.heap.size w w' := by
  unfold impl_Yard_lots.f at h
  split at h
  · rename_i hh
    obtain rfl := Option.some.inj h
    exact Yv.lots_any a0_0 A0_1 c0_1 l0_1 hh.1 hh.2 w hr0_1
  · cases h

end Go.Proofs.Ytibaiaenfeppcaa.Q

-- made by a patched copy of print.sh: this session's own
namespace Go.Proofs.Ytibaiaenfeppcaa.Q
open Go.RowKit Go.Proofs.YtibaiaenfeppcaaW.PrintWords Go.Proofs.YtibaiaenfeppcaaW.PrintLast Go.Proofs.YtibaiaenfeppcaaW.PrintMore
attribute [local go_sem] max2_int min2_int max_two min_two max_three min_three max_four min_four   -- for this text's walks alone
set_option linter.unusedVariables false
set_option linter.unusedSimpArgs false

/-! ### slices_Min_int64_int64: function 46 -/
def slices_Min_int64_int64.f (l0 : List Int) : Option (Int) := if 0 < l0.length then some (Yv.minOf l0) else none
theorem slices_Min_int64_int64.calls (A0 : Option Addr) (c0 : Nat) (l0 : List Int) (r : Int) (w : World) (hr0 : Kd.C (Kd.int .i64) w A0 l0.length l0) (hc0 : l0.length ≤ c0) (h : slices_Min_int64_int64.f l0 = some r) :
    Calls Try.prog 46 #[.slice A0 l0.length c0] w fun e w' => e = .returned (.int .i64 r) ∧ Below w.heap.size w w' := by
  unfold slices_Min_int64_int64.f at h
  split at h
  · obtain rfl := Option.some.inj h
    refine (Yv.min_any A0 c0 l0 ‹_› w hr0).mono ?_
    rintro e w' ⟨rfl, rfl⟩
    exact ⟨rfl, Below.refl _ _⟩
  · cases h

end Go.Proofs.Ytibaiaenfeppcaa.Q

-- made by a patched copy of print.sh: this session's own
namespace Go.Proofs.Ytibaiaenfeppcaa.Q
open Go.RowKit Go.Proofs.YtibaiaenfeppcaaW.PrintWords Go.Proofs.YtibaiaenfeppcaaW.PrintLast Go.Proofs.YtibaiaenfeppcaaW.PrintMore
attribute [local go_sem] max2_int min2_int max_two min_two max_three min_three max_four min_four   -- for this text's walks alone
set_option linter.unusedVariables false
set_option linter.unusedSimpArgs false

/-! ### slices_Index_int64_int64: function 73 -/
def slices_Index_int64_int64.l0 : Nat → List Int → Int → Int → Int → Option (Int)
  | 0, _, _, _, _ => none
  | k + 1, x0, x1, x7, x8 => if x8 < x7 then (if 0 ≤ x8 then (if x8 < (x0.length : Int) then (if x1 = (rd x0 x8) then (some x8) else (slices_Index_int64_int64.l0 k x0 x1 x7 (wrap64 (x8 + 1)))) else (none)) else (none)) else (some (-1))
def slices_Index_int64_int64.f (k : Nat) (l0 : List Int) (a1 : Int) : Option (Int) := slices_Index_int64_int64.l0 k l0 a1 (l0.length : Int) 0
theorem slices_Index_int64_int64.mono_l : ∀ k, (∀ y0 y1 y2 y3, LeO (slices_Index_int64_int64.l0 k y0 y1 y2 y3) (slices_Index_int64_int64.l0 (k + 1) y0 y1 y2 y3))
  | 0 => fun _ _ _ _ r h => by simp [slices_Index_int64_int64.l0] at h
  | k + 1 => by
    have ih0 := slices_Index_int64_int64.mono_l k
    · intro y0 y1 y2 y3
      unfold slices_Index_int64_int64.l0
      repeat' first
      | (with_reducible exact ih0 _ _ _ _)
      | (with_reducible exact LeO.refl _)
      | (with_reducible exact LeO.none _)
      | (with_reducible refine LeO.ite ?_ ?_)
      | (with_reducible refine LeO.bind ?_ (fun _ => ?_))
      | exact ih0 _ _ _ _
      | exact LeO.none _
      | refine LeO.ite ?_ ?_
      | refine LeO.bind ?_ (fun _ => ?_)
theorem slices_Index_int64_int64.mono : ∀ a0 a1 k, LeO (slices_Index_int64_int64.f k a0 a1) (slices_Index_int64_int64.f (k + 1) a0 a1) := by
  intro a0 a1 k
  have ih0 := slices_Index_int64_int64.mono_l k
  unfold slices_Index_int64_int64.f
  repeat' first
      | (with_reducible exact ih0 _ _ _ _)
      | (with_reducible exact LeO.refl _)
      | (with_reducible exact LeO.none _)
      | (with_reducible refine LeO.ite ?_ ?_)
      | (with_reducible refine LeO.bind ?_ (fun _ => ?_))
      | exact ih0 _ _ _ _
      | exact LeO.none _
      | refine LeO.ite ?_ ?_
      | refine LeO.bind ?_ (fun _ => ?_)
set_option maxHeartbeats 8000000 in
set_option maxRecDepth 100000 in
theorem slices_Index_int64_int64.calls (k : Nat) (A0 : Option Addr) (c0 : Nat) (l0 : List Int) (a1 : Int) (r : Int) (w : World) (hr0 : Kd.C (Kd.int .i64) w A0 l0.length l0) (hc0 : l0.length ≤ c0) (h : slices_Index_int64_int64.f k l0 a1 = some r) :
    Calls Try.prog 73 #[.slice A0 l0.length c0, .int .i64 a1] w fun e w' => e = .returned (.int .i64 r) ∧ Drawn0 w w' := by
  have HR0 := Aside0.mk hr0
  have HC0 := Aside0.mk hc0
  clear hr0 hc0
  have H : (slices_Index_int64_int64.l0 k l0 a1 (l0.length : Int) 0) = some r := h
  clear h
  have H' := Aside0.mk H
  clear H
  go_enter Try.func73, Try.ntmps73
  go_wp2
  go_loopg [8] k (fun kq v8 w' => ∃ (x8_1 : Int), v8 = .int .i64 x8_1 ∧ Aside0 (slices_Index_int64_int64.l0 kq l0 a1 (l0.length : Int) x8_1 = some r) ∧ Aside0 (kq ≤ k) ∧ Drawn0 w w')
  case atStart => exact ⟨(0), (by first | rfl | (simp; done) | (simp [*]; done)), H', ⟨Nat.le_refl _⟩, by repeat (first | exact Drawn0.refl _ | apply Drawn0.step)⟩
  case round =>
    clear H'
    try clear p2
    obtain ⟨x8_1, rfl, HA, HK1, ⟨m1, rfl⟩⟩ := hrel
    cases gk with
    | zero => exact absurd HA.out (by simp [slices_Index_int64_int64.l0])
    | succ k1 =>
      have H := HA.out
      clear HA
      simp only [slices_Index_int64_int64.l0] at H
      by_cases c3 : x8_1 < (l0.length : Int)
      · rw [if_pos c3] at H
        have c3b0 : decide (x8_1 < (l0.length : Int)) = true := decide_eq_true c3
        clear c3
        by_cases c4 : 0 ≤ x8_1
        · rw [if_pos c4] at H
          have c4b0 : decide (0 ≤ x8_1) = true := decide_eq_true c4
          clear c4
          by_cases c5 : x8_1 < (l0.length : Int)
          · rw [if_pos c5] at H
            have c5b0 : decide (x8_1 < (l0.length : Int)) = true := decide_eq_true c5
            clear c5
            by_cases c6 : a1 = (rd l0 x8_1)
            · rw [if_pos c6] at H
              have c6b0 : (a1 == (rd l0 x8_1)) = true := beq_iff_eq.mpr c6
              have c6b1 : (a1 != (rd l0 x8_1)) = false := bne_eq_false_iff_eq.mpr c6
              clear c6
              obtain rfl := Option.some.inj H
              have p412 : 0 ≤ (x8_1 : Int) := of_decide_eq_true (by first | (with_reducible assumption) | assumption)
              have q412 : x8_1 < (l0.length : Int) := of_decide_eq_true (by first | (with_reducible assumption) | assumption)
              obtain ⟨ad412, e412, hx412_0⟩ := Kd.at_int HR0.out x8_1 p412 q412
              cases e412
              replace p412 := eq_true p412
              replace q412 := eq_true q412
              go_wp2
              go_ret
              exact ⟨by first | rfl | (simp; done) | (simp [*]; done), by repeat (first | exact Drawn0.refl _ | apply Drawn0.step)⟩
            · rw [if_neg c6] at H
              have c6b0 : (a1 == (rd l0 x8_1)) = false := beq_eq_false_iff_ne.mpr c6
              have c6b1 : (a1 != (rd l0 x8_1)) = true := bne_iff_ne.mpr c6
              have H' := Aside0.mk H
              clear H
              have p412 : 0 ≤ (x8_1 : Int) := of_decide_eq_true (by first | (with_reducible assumption) | assumption)
              have q412 : x8_1 < (l0.length : Int) := of_decide_eq_true (by first | (with_reducible assumption) | assumption)
              obtain ⟨ad412, e412, hx412_0⟩ := Kd.at_int HR0.out x8_1 p412 q412
              cases e412
              replace p412 := eq_true p412
              replace q412 := eq_true q412
              go_wp2
              go_roundg k1
              case measure => have := HK1.out; omega
              case rel => exact ⟨(wrap64 (x8_1 + 1)), (by first | rfl | (simp; done) | (simp [*]; done)), H', ⟨by have := HK1.out; omega⟩, by repeat (first | exact Drawn0.refl _ | apply Drawn0.step)⟩
          · rw [if_neg c5] at H
            exact absurd H (by simp)
        · rw [if_neg c4] at H
          exact absurd H (by simp)
      · rw [if_neg c3] at H
        have c3b0 : decide (x8_1 < (l0.length : Int)) = false := decide_eq_false c3
        clear c3
        obtain rfl := Option.some.inj H
        go_wp2
        go_ret
        exact ⟨by first | rfl | (simp; done) | (simp [*]; done), by repeat (first | exact Drawn0.refl _ | apply Drawn0.step)⟩

end Go.Proofs.Ytibaiaenfeppcaa.Q

-- made by a patched copy of print.sh: this session's own
namespace Go.Proofs.Ytibaiaenfeppcaa.Q
open Go.RowKit Go.Proofs.YtibaiaenfeppcaaW.PrintWords Go.Proofs.YtibaiaenfeppcaaW.PrintLast Go.Proofs.YtibaiaenfeppcaaW.PrintMore
attribute [local go_sem] max2_int min2_int max_two min_two max_three min_three max_four min_four   -- for this text's walks alone
set_option linter.unusedVariables false
set_option linter.unusedSimpArgs false

/-! ### impl_Yard_holder: function 49 -/
def impl_Yard_holder.l0 : Nat → Int → List (List Int) → Int → Int → Option (Int × Bool)
  | 0, _, _, _, _ => none
  | k + 1, x5, x17, x18, x19 => if x19 < x18 then (if 0 ≤ x19 then (if x19 < (x17.length : Int) then ((slices_Index_int64_int64.f k (rd_L1 x17 x19) x5).bind fun t419 => (if t419 ≥ 0 then (some (x19, (t419 == (wrap64 (((rd_L1 x17 x19).length : Int) - 1))))) else (impl_Yard_holder.l0 k x5 x17 x18 (wrap64 (x19 + 1))))) else (none)) else (none)) else (some ((-1), false))
def impl_Yard_holder.f (k : Nat) (a0_0 : Int) (l0_1 : List (List Int)) : Option (Int × Bool) := (impl_Yard_lots.f a0_0 l0_1).bind fun t414 => (if (t414.length : Int) = 0 then (some ((-1), false)) else ((slices_Min_int64_int64.f t414).bind fun t417 => (impl_Yard_holder.l0 k t417 l0_1 (l0_1.length : Int) 0)))
theorem impl_Yard_holder.mono_l : ∀ k, (∀ y0 y1 y2 y3, LeO (impl_Yard_holder.l0 k y0 y1 y2 y3) (impl_Yard_holder.l0 (k + 1) y0 y1 y2 y3))
  | 0 => fun _ _ _ _ r h => by simp [impl_Yard_holder.l0] at h
  | k + 1 => by
    have ih0 := impl_Yard_holder.mono_l k
    · intro y0 y1 y2 y3
      unfold impl_Yard_holder.l0
      repeat' first
      | (with_reducible exact ih0 _ _ _ _)
      | (with_reducible exact slices_Index_int64_int64.mono _ _ _)
      | (with_reducible exact LeO.refl _)
      | (with_reducible exact LeO.none _)
      | (with_reducible refine LeO.ite ?_ ?_)
      | (with_reducible refine LeO.bind ?_ (fun _ => ?_))
      | exact ih0 _ _ _ _
      | exact slices_Index_int64_int64.mono _ _ _
      | exact LeO.none _
      | refine LeO.ite ?_ ?_
      | refine LeO.bind ?_ (fun _ => ?_)
theorem impl_Yard_holder.mono : ∀ a0 a1 k, LeO (impl_Yard_holder.f k a0 a1) (impl_Yard_holder.f (k + 1) a0 a1) := by
  intro a0 a1 k
  have ih0 := impl_Yard_holder.mono_l k
  unfold impl_Yard_holder.f
  repeat' first
      | (with_reducible exact ih0 _ _ _ _)
      | (with_reducible exact slices_Index_int64_int64.mono _ _ _)
      | (with_reducible exact LeO.refl _)
      | (with_reducible exact LeO.none _)
      | (with_reducible refine LeO.ite ?_ ?_)
      | (with_reducible refine LeO.bind ?_ (fun _ => ?_))
      | exact ih0 _ _ _ _
      | exact slices_Index_int64_int64.mono _ _ _
      | exact LeO.none _
      | refine LeO.ite ?_ ?_
      | refine LeO.bind ?_ (fun _ => ?_)
set_option maxHeartbeats 8000000 in
set_option maxRecDepth 100000 in
theorem impl_Yard_holder.calls (k : Nat) (a0_0 : Int) (A0_1 : Option Addr) (c0_1 : Nat) (l0_1 : List (List Int)) (r1 : Int) (r2 : Bool) (w : World) (hr0_1 : Kd.C (Kd.slice 2 (Kd.int .i64)) w A0_1 l0_1.length l0_1) (hc0_1 : l0_1.length ≤ c0_1) (h : impl_Yard_holder.f k a0_0 l0_1 = some (r1, r2)) :
    Calls Try.prog 49 #[.agg #[.int .i64 a0_0, .slice A0_1 l0_1.length c0_1]] w fun e w' => e = .returned (.tuple #[.int .i64 r1, .bool r2]) ∧ Below w.heap.size w w' := by
  have hu27 := Try.underlying27
  have HR0_1 := Aside0.mk hr0_1
  have HC0_1 := Aside0.mk hc0_1
  clear hr0_1 hc0_1
  have HB := Aside0.mk (Below.refl w.heap.size w)
  have H : ((impl_Yard_lots.f a0_0 l0_1).bind fun t414 => (if (t414.length : Int) = 0 then (some ((-1), false)) else ((slices_Min_int64_int64.f t414).bind fun t417 => (impl_Yard_holder.l0 k t417 l0_1 (l0_1.length : Int) 0)))) = some (r1, r2) := h
  clear h
  replace H := Option.bind_eq_some_iff.mp H
  obtain ⟨t414, A20, H⟩ := H
  replace H : (if (t414.length : Int) = 0 then (some ((-1), false)) else ((slices_Min_int64_int64.f t414).bind fun t417 => (impl_Yard_holder.l0 k t417 l0_1 (l0_1.length : Int) 0))) = some (r1, r2) := H
  have A2 := Aside0.mk A20
  clear A20
  by_cases c3 : (t414.length : Int) = 0
  · rw [if_pos c3] at H
    have c3b0 : ((t414.length : Int) == 0) = true := beq_iff_eq.mpr c3
    have c3b1 : ((t414.length : Int) != 0) = false := bne_eq_false_iff_eq.mpr c3
    clear c3
    simp only [Option.some.injEq, Prod.mk.injEq] at H
    obtain ⟨rfl, rfl⟩ := H
    go_enter Try.func49, Try.ntmps49
    go_wp2_with (first | ((with_reducible refine gate_dst (N := 1) rfl ?_); refine box_event ?hg (N := 1) ?hd (cs := #[.int .i64 a0_0, .slice A0_1 l0_1.length c0_1]) (t := 27) ?hr ?_; (case hd => rfl); (case hg => rfl); (case hr => first | (go_simp; done) | (go_simp; rfl)); intro gb413 hg w4 hbox hb; have n0_ := Aside0.mk (below_step (by repeat (first | (with_reducible first | exact HB.out | apply below_alloc | apply pw_below_drewN | apply below_drew1) | exact HB.out)) hb); have n1_ := Aside0.mk (hbox); have n2_ := Aside0.mk ((by rw [hg]; exact (below_size (by repeat (first | (with_reducible first | exact HB.out | apply below_alloc | apply pw_below_drewN | apply below_drew1) | exact HB.out))) : w.heap.size ≤ gb413)); have n3_ := Aside0.mk ((by rw [hg]; exact (below_size (by repeat (first | (with_reducible first | exact HB.out | apply below_alloc | apply pw_below_drewN | apply below_drew1) | exact HB.out))) : w.heap.size ≤ gb413)); clear HB; have HB := n0_; have BK413 := n1_; have GW413 := n2_; have GE413 := n3_; clear n0_ n1_ n2_ n3_; clear hb hbox hg; have hcz5_0 : w4.cell? ⟨gb413, 0, none⟩ = some (.int .i64 a0_0) := (blk_cell BK413.out 0).trans rfl; have hcz5_1 : w4.cell? ⟨gb413, 1, none⟩ = some (.slice A0_1 l0_1.length c0_1) := (blk_cell BK413.out 1).trans rfl; have hfz5_0 := blk_frozen BK413.out 0; have hfz5_1 := blk_frozen BK413.out 1) | ((with_reducible refine gate_callee (f := 42) rfl ?_); refine goesL_ (some 10) rfl rfl Try.func42 (by kernel_rfl) rfl #[.agg #[.int .i64 a0_0, .slice A0_1 l0_1.length c0_1]] rfl (by (try simp only [List.map_toArray, List.map_cons, List.map_nil]); first | done | rfl | (simp only [List.length_drop, List.length_take]; rfl)) ?_; (with_reducible refine (impl_Yard_lots.calls a0_0 _ _ l0_1 t414 _ ?side1 ?side2 A2.out).mono ?_); (case side1 => repeat (first | exact (Kd.C_below HR0_1.out HB.out) | (with_reducible refine Kd.C_alloc ?_ _) | (with_reducible refine Kd.C_drewN ?_ _) | (with_reducible refine Kd.C_drew ?_))); (case side2 => exact HC0_1.out); rintro e w6 ⟨v415, rfl, ho0, hb⟩; refine ⟨_, rfl, ?_⟩; have n0_ := Aside0.mk (Kd.R_lower ho0 (below_size (by repeat (first | (with_reducible first | exact HB.out | apply below_alloc | apply pw_below_drewN | apply below_drew1 | refine below_set ?_ GE413.out) | exact HB.out)))); have n1_ := Aside0.mk (blk_below (g := gb413) (o := .cells #[.int .i64 a0_0, .slice A0_1 l0_1.length c0_1] 27 (0, 0)) (by (with_reducible repeat (first | refine blk_drewN ?_ _ | refine blk_drew ?_ | refine blk_alloc ?_ _)); exact BK413.out) hb); have n2_ := Aside0.mk (below_step (by repeat (first | (with_reducible first | exact HB.out | apply below_alloc | apply pw_below_drewN | apply below_drew1 | refine below_set ?_ GE413.out) | exact HB.out)) hb); clear BK413; clear HB; have HO416 := n0_; have BK413 := n1_; have HB := n2_; clear n0_ n1_ n2_; (try clear hb); (try clear hb2); (try clear hk); (try clear hi); (try clear ho0); obtain ⟨Ao7, co7, eo7⟩ := Kd.R_slice HO416.out; subst eo7))
    go_ret2
    exact ⟨by first | rfl | (simp [errW_none, errW_some] <;> rfl) | (simp [*, errW_none, errW_some] <;> rfl), by repeat (first | (with_reducible first | exact HB.out | apply below_alloc | apply pw_below_drewN | apply below_drew1 | refine below_set ?_ GE413.out) | exact HB.out)⟩
  · rw [if_neg c3] at H
    have c3b0 : ((t414.length : Int) == 0) = false := beq_eq_false_iff_ne.mpr c3
    have c3b1 : ((t414.length : Int) != 0) = true := bne_iff_ne.mpr c3
    have c3b2 : ¬ (t414 = []) := fun h_ => c3 (by rw [h_]; rfl)
    replace H := Option.bind_eq_some_iff.mp H
    obtain ⟨t417, A80, H⟩ := H
    replace H : (impl_Yard_holder.l0 k t417 l0_1 (l0_1.length : Int) 0) = some (r1, r2) := H
    have A8 := Aside0.mk A80
    clear A80
    have H' := Aside0.mk H
    clear H
    go_enter Try.func49, Try.ntmps49
    go_wp2_with (first | ((with_reducible refine gate_dst (N := 1) rfl ?_); refine box_event ?hg (N := 1) ?hd (cs := #[.int .i64 a0_0, .slice A0_1 l0_1.length c0_1]) (t := 27) ?hr ?_; (case hd => rfl); (case hg => rfl); (case hr => first | (go_simp; done) | (go_simp; rfl)); intro gb413 hg w9 hbox hb; have n0_ := Aside0.mk (below_step (by repeat (first | (with_reducible first | exact HB.out | apply below_alloc | apply pw_below_drewN | apply below_drew1) | exact HB.out)) hb); have n1_ := Aside0.mk (hbox); have n2_ := Aside0.mk ((by rw [hg]; exact (below_size (by repeat (first | (with_reducible first | exact HB.out | apply below_alloc | apply pw_below_drewN | apply below_drew1) | exact HB.out))) : w.heap.size ≤ gb413)); have n3_ := Aside0.mk ((by rw [hg]; exact (below_size (by repeat (first | (with_reducible first | exact HB.out | apply below_alloc | apply pw_below_drewN | apply below_drew1) | exact HB.out))) : w.heap.size ≤ gb413)); clear HB; have HB := n0_; have BK413 := n1_; have GW413 := n2_; have GE413 := n3_; clear n0_ n1_ n2_ n3_; clear hb hbox hg; have hcz10_0 : w9.cell? ⟨gb413, 0, none⟩ = some (.int .i64 a0_0) := (blk_cell BK413.out 0).trans rfl; have hcz10_1 : w9.cell? ⟨gb413, 1, none⟩ = some (.slice A0_1 l0_1.length c0_1) := (blk_cell BK413.out 1).trans rfl; have hfz10_0 := blk_frozen BK413.out 0; have hfz10_1 := blk_frozen BK413.out 1) | ((with_reducible refine gate_callee (f := 42) rfl ?_); refine goesL_ (some 10) rfl rfl Try.func42 (by kernel_rfl) rfl #[.agg #[.int .i64 a0_0, .slice A0_1 l0_1.length c0_1]] rfl (by (try simp only [List.map_toArray, List.map_cons, List.map_nil]); first | done | rfl | (simp only [List.length_drop, List.length_take]; rfl)) ?_; (with_reducible refine (impl_Yard_lots.calls a0_0 _ _ l0_1 t414 _ ?side1 ?side2 A2.out).mono ?_); (case side1 => repeat (first | exact (Kd.C_below HR0_1.out HB.out) | (with_reducible refine Kd.C_alloc ?_ _) | (with_reducible refine Kd.C_drewN ?_ _) | (with_reducible refine Kd.C_drew ?_))); (case side2 => exact HC0_1.out); rintro e w11 ⟨v415, rfl, ho0, hb⟩; refine ⟨_, rfl, ?_⟩; have n0_ := Aside0.mk (Kd.R_lower ho0 (below_size (by repeat (first | (with_reducible first | exact HB.out | apply below_alloc | apply pw_below_drewN | apply below_drew1 | refine below_set ?_ GE413.out) | exact HB.out)))); have n1_ := Aside0.mk (blk_below (g := gb413) (o := .cells #[.int .i64 a0_0, .slice A0_1 l0_1.length c0_1] 27 (0, 0)) (by (with_reducible repeat (first | refine blk_drewN ?_ _ | refine blk_drew ?_ | refine blk_alloc ?_ _)); exact BK413.out) hb); have n2_ := Aside0.mk (below_step (by repeat (first | (with_reducible first | exact HB.out | apply below_alloc | apply pw_below_drewN | apply below_drew1 | refine below_set ?_ GE413.out) | exact HB.out)) hb); clear BK413; clear HB; have HO416 := n0_; have BK413 := n1_; have HB := n2_; clear n0_ n1_ n2_; (try clear hb); (try clear hb2); (try clear hk); (try clear hi); (try clear ho0); obtain ⟨Ao12, co12, eo12⟩ := Kd.R_slice HO416.out; subst eo12) | ((with_reducible refine gate_callee (f := 46) rfl ?_); refine goesL_ (some 15) rfl rfl Try.func46 (by kernel_rfl) rfl #[.slice Ao12 t414.length co12] rfl (by (try simp only [List.map_toArray, List.map_cons, List.map_nil]); first | done | rfl | (simp only [List.length_drop, List.length_take]; rfl)) ?_; (with_reducible refine (slices_Min_int64_int64.calls _ _ t414 t417 _ ?side1 ?side2 A8.out).mono ?_); (case side1 => repeat (first | exact (Kd.R_reads' HO416.out).2.2 | (with_reducible refine Kd.C_alloc ?_ _) | (with_reducible refine Kd.C_drewN ?_ _) | (with_reducible refine Kd.C_drew ?_))); (case side2 => exact (Kd.R_reads' HO416.out).2.1); rintro e w13 ⟨rfl, hb⟩; refine ⟨_, rfl, ?_⟩; have n0_ := Aside0.mk (Kd.R_below (by (with_reducible repeat (first | apply Kd.R_alloc | apply Kd.R_drewN | apply Kd.R_drew)); exact HO416.out) hb); have n1_ := Aside0.mk (blk_below (g := gb413) (o := .cells #[.int .i64 a0_0, .slice A0_1 l0_1.length c0_1] 27 (0, 0)) (by (with_reducible repeat (first | refine blk_drewN ?_ _ | refine blk_drew ?_ | refine blk_alloc ?_ _)); exact BK413.out) hb); have n2_ := Aside0.mk (below_step (by repeat (first | (with_reducible first | exact HB.out | apply below_alloc | apply pw_below_drewN | apply below_drew1 | refine below_set ?_ GE413.out) | exact HB.out)) hb); clear HO416; clear BK413; clear HB; have HO416 := n0_; have BK413 := n1_; have HB := n2_; clear n0_ n1_ n2_; (try clear hb); (try clear hb2); (try clear hk); (try clear hi); have hcz14_0 : w13.cell? ⟨gb413, 0, none⟩ = some (.int .i64 a0_0) := (blk_cell BK413.out 0).trans rfl; have hcz14_1 : w13.cell? ⟨gb413, 1, none⟩ = some (.slice A0_1 l0_1.length c0_1) := (blk_cell BK413.out 1).trans rfl; have hfz14_0 := blk_frozen BK413.out 0; have hfz14_1 := blk_frozen BK413.out 1))
    go_loopg [19] k (fun kq v19 w' => ∃ (x19_1 : Int), v19 = .int .i64 x19_1 ∧ Aside0 (impl_Yard_holder.l0 kq t417 l0_1 (l0_1.length : Int) x19_1 = some (r1, r2)) ∧ Aside0 (kq ≤ k) ∧ Aside0 (w'.heap[gb413]? = some (.cells #[.int .i64 a0_0, (.slice A0_1 l0_1.length c0_1)] 27 (0, 0))) ∧ Aside0 (Below w.heap.size w w'))
    case atStart => exact ⟨(0), (by first | rfl | (simp; done) | (simp [*]; done)), H', ⟨Nat.le_refl _⟩, ⟨by (with_reducible repeat (first | refine blk_drewN ?_ _ | refine blk_drew ?_ | refine blk_alloc ?_ _)); exact BK413.out⟩, ⟨by repeat (first | (with_reducible first | exact HB.out | apply below_alloc | apply pw_below_drewN | apply below_drew1 | refine below_set ?_ GE413.out) | exact HB.out)⟩⟩
    case round =>
      clear H'
      try clear p2
      try clear c3
      try clear c3b0
      try clear c3b1
      try clear c3b2
      try clear c4
      try clear hcz10_0
      try clear hcz10_1
      try clear hcz14_0
      try clear hcz14_1
      try clear hcz5_0
      try clear hcz5_1
      try clear hfz10_0
      try clear hfz10_1
      try clear hfz14_0
      try clear hfz14_1
      try clear hfz5_0
      try clear hfz5_1
      obtain ⟨x19_1, rfl, HA, HK1, BK413, HB⟩ := hrel
      cases gk with
      | zero => exact absurd HA.out (by simp [impl_Yard_holder.l0])
      | succ k1 =>
        have H := HA.out
        clear HA
        simp only [impl_Yard_holder.l0] at H
        by_cases c15 : x19_1 < (l0_1.length : Int)
        · rw [if_pos c15] at H
          have c15b0 : decide (x19_1 < (l0_1.length : Int)) = true := decide_eq_true c15
          clear c15
          by_cases c16 : 0 ≤ x19_1
          · rw [if_pos c16] at H
            have c16b0 : decide (0 ≤ x19_1) = true := decide_eq_true c16
            clear c16
            by_cases c17 : x19_1 < (l0_1.length : Int)
            · rw [if_pos c17] at H
              have c17b0 : decide (x19_1 < (l0_1.length : Int)) = true := decide_eq_true c17
              clear c17
              replace H := Option.bind_eq_some_iff.mp H
              obtain ⟨t419, A180, H⟩ := H
              replace H : (if t419 ≥ 0 then (some (x19_1, (t419 == (wrap64 (((rd_L1 l0_1 x19_1).length : Int) - 1))))) else (impl_Yard_holder.l0 k1 t417 l0_1 (l0_1.length : Int) (wrap64 (x19_1 + 1)))) = some (r1, r2) := H
              have A18 := Aside0.mk A180
              clear A180
              by_cases c19 : t419 ≥ 0
              · rw [if_pos c19] at H
                have c19b0 : decide (0 ≤ t419) = true := decide_eq_true c19
                clear c19
                simp only [Option.some.injEq, Prod.mk.injEq] at H
                obtain ⟨rfl, rfl⟩ := H
                have p418 : 0 ≤ (x19_1 : Int) := of_decide_eq_true (by first | (with_reducible assumption) | assumption)
                have q418 : x19_1 < (l0_1.length : Int) := of_decide_eq_true (by first | (with_reducible assumption) | assumption)
                obtain ⟨ad418, A418_0, c418_0, e418, hx418_0, hl418_0, hi418_0⟩ := at_L1 HR0_1.out x19_1 p418 q418
                cases e418
                replace hx418_0 := (HB.out.cell (World.block_lt_of_cell? w _ hx418_0)).trans hx418_0
                have HR418_0 := Aside0.mk hi418_0
                have HC418_0 := Aside0.mk hl418_0
                clear hi418_0 hl418_0
                replace p418 := eq_true p418
                replace q418 := eq_true q418
                go_wp2_with (first | ((with_reducible refine gate_callee (f := 73) rfl ?_); refine goesL_ (some 26) rfl rfl Try.func73 (by kernel_rfl) rfl #[.slice A418_0 (rd_L1 l0_1 x19_1).length c418_0, .int .i64 t417] rfl (by (try simp only [List.map_toArray, List.map_cons, List.map_nil]); first | done | rfl | (simp only [List.length_drop, List.length_take]; rfl)) ?_; (with_reducible refine (slices_Index_int64_int64.calls k1 _ _ (rd_L1 l0_1 x19_1) t417 t419 _ ?side1 ?side2 A18.out).mono ?_); (case side1 => repeat (first | exact (Kd.C_below HR418_0.out HB.out) | (with_reducible refine Kd.C_alloc ?_ _) | (with_reducible refine Kd.C_drewN ?_ _) | (with_reducible refine Kd.C_drew ?_))); (case side2 => exact HC418_0.out); rintro e w' ⟨rfl, ⟨nd, rfl⟩⟩; refine ⟨_, rfl, ?_⟩))
                go_ret2
                exact ⟨by first | rfl | (simp [errW_none, errW_some] <;> rfl) | (simp [*, errW_none, errW_some] <;> rfl), by repeat (first | (with_reducible first | exact HB.out | apply below_alloc | apply pw_below_drewN | apply below_drew1 | refine below_set ?_ GE413.out) | exact HB.out)⟩
              · rw [if_neg c19] at H
                have c19b0 : decide (0 ≤ t419) = false := decide_eq_false c19
                clear c19
                have H' := Aside0.mk H
                clear H
                have p418 : 0 ≤ (x19_1 : Int) := of_decide_eq_true (by first | (with_reducible assumption) | assumption)
                have q418 : x19_1 < (l0_1.length : Int) := of_decide_eq_true (by first | (with_reducible assumption) | assumption)
                obtain ⟨ad418, A418_0, c418_0, e418, hx418_0, hl418_0, hi418_0⟩ := at_L1 HR0_1.out x19_1 p418 q418
                cases e418
                replace hx418_0 := (HB.out.cell (World.block_lt_of_cell? w _ hx418_0)).trans hx418_0
                have HR418_0 := Aside0.mk hi418_0
                have HC418_0 := Aside0.mk hl418_0
                clear hi418_0 hl418_0
                replace p418 := eq_true p418
                replace q418 := eq_true q418
                go_wp2_with (first | ((with_reducible refine gate_callee (f := 73) rfl ?_); refine goesL_ (some 26) rfl rfl Try.func73 (by kernel_rfl) rfl #[.slice A418_0 (rd_L1 l0_1 x19_1).length c418_0, .int .i64 t417] rfl (by (try simp only [List.map_toArray, List.map_cons, List.map_nil]); first | done | rfl | (simp only [List.length_drop, List.length_take]; rfl)) ?_; (with_reducible refine (slices_Index_int64_int64.calls k1 _ _ (rd_L1 l0_1 x19_1) t417 t419 _ ?side1 ?side2 A18.out).mono ?_); (case side1 => repeat (first | exact (Kd.C_below HR418_0.out HB.out) | (with_reducible refine Kd.C_alloc ?_ _) | (with_reducible refine Kd.C_drewN ?_ _) | (with_reducible refine Kd.C_drew ?_))); (case side2 => exact HC418_0.out); rintro e w' ⟨rfl, ⟨nd, rfl⟩⟩; refine ⟨_, rfl, ?_⟩))
                go_roundg k1
                case measure => have := HK1.out; omega
                case rel => exact ⟨(wrap64 (x19_1 + 1)), (by first | rfl | (simp; done) | (simp [*]; done)), H', ⟨by have := HK1.out; omega⟩, ⟨by (with_reducible repeat (first | refine blk_drewN ?_ _ | refine blk_drew ?_ | refine blk_alloc ?_ _)); exact BK413.out⟩, ⟨by repeat (first | (with_reducible first | exact HB.out | apply below_alloc | apply pw_below_drewN | apply below_drew1 | refine below_set ?_ GE413.out) | exact HB.out)⟩⟩
            · rw [if_neg c17] at H
              exact absurd H (by simp)
          · rw [if_neg c16] at H
            exact absurd H (by simp)
        · rw [if_neg c15] at H
          have c15b0 : decide (x19_1 < (l0_1.length : Int)) = false := decide_eq_false c15
          clear c15
          simp only [Option.some.injEq, Prod.mk.injEq] at H
          obtain ⟨rfl, rfl⟩ := H
          go_wp2
          go_ret2
          exact ⟨by first | rfl | (simp [errW_none, errW_some] <;> rfl) | (simp [*, errW_none, errW_some] <;> rfl), by repeat (first | (with_reducible first | exact HB.out | apply below_alloc | apply pw_below_drewN | apply below_drew1 | refine below_set ?_ GE413.out) | exact HB.out)⟩

end Go.Proofs.Ytibaiaenfeppcaa.Q

/- The program's (Yard).taken. -/
namespace Go.Proofs.Ytibaiaenfeppcaa.Ytn
open Go Go.RowKit Go.Proofs.Ytibaiaenfeppcaa.Ymv Go.Proofs.YtibaiaenfeppcaaW.PrintWords Go.Proofs.YtibaiaenfeppcaaW.PrintLast Go.Proofs.YtibaiaenfeppcaaW.PrintMore Go.Proofs.Ytibaiaenfeppcaa.Q Go.Proofs.Ytibaiaenfeppcaa.PuY Go.Proofs.Ytibaiaenfeppcaa.Lw Go.Proofs.Ytibaiaenfeppcaa.Ow Go.Proofs.Ytibaiaenfeppcaa.Yo Go.Proofs.Ytibaiaenfeppcaa.Yn Go.Proofs.Ytibaiaenfeppcaa.Yt
set_option linter.unusedVariables false
set_option linter.unusedSimpArgs false
set_option maxRecDepth 100000 in
set_option maxHeartbeats 1000000 in
theorem no (h : Int) (xs : List (List Int)) (hx4 : xs.length ≤ 4) (h4 : h ≤ 4) (hr4 : ∀ r ∈ xs, r.length ≤ 4) (k : Nat) (r : Int) (hho : impl_Yard_holder.f k h xs = some (r, false)) (A : Option Addr) (c : Nat) (w : World) (hC : Kd.C dR w A xs.length xs) (hcl : xs.length ≤ c) :
    Calls Try.prog 51 #[.agg #[.int .i64 h, .slice A xs.length c]] w fun e w' => e = .returned (.tuple #[.agg #[.int .i64 0, .slice none 0 0], .bool false]) ∧ Below w.heap.size w w' := by
  obtain ⟨n, hn⟩ : ∃ n, n = xs.length := ⟨_, rfl⟩
  have hu := Try.underlying27
  have HN := Aside0.mk hn
  have HC := Aside0.mk hC
  have HR4 := Aside0.mk hr4
  have HCL := Aside0.mk hcl
  have HHO := Aside0.mk hho
  have HCLN := Aside0.mk (cloned_eq h xs hx4 hr4)
  have hn4 : n ≤ 4 := by omega
  rw [← hn]
  clear hn hC hr4 hcl hho hx4
  go_enter Try.func51, Try.ntmps51
  go_wp2_with (fail)
  have hcc := impl_Yard_holder.calls k h A c xs r false ((w.alloc (.cells #[.int .i64 h, .slice A n c] 27)).alloc (.cells #[.int .i64 0, .slice none 0 0] 27)) (Kd.C_below HC.out (below_alloc (below_alloc (Below.refl w.heap.size w) (.cells #[.int .i64 h, .slice A n c] 27)) (.cells #[.int .i64 0, .slice none 0 0] 27))) HCL.out HHO.out
  rw [← HN.out] at hcc
  refine hcc.mono ?_
  clear hcc
  rintro e w0 ⟨rfl, hb⟩
  have HB0 := Aside0.mk (below_step (below_alloc (below_alloc (Below.refl w.heap.size w) (.cells #[.int .i64 h, .slice A n c] 27)) (.cells #[.int .i64 0, .slice none 0 0] 27)) hb)
  have HK0 := Aside0.mk (blk_below (show ((w.alloc (.cells #[.int .i64 h, .slice A n c] 27)).alloc (.cells #[.int .i64 0, .slice none 0 0] 27)).heap[w.heap.size + 1]? = some (.cells #[.int .i64 0, .slice none 0 0] 27 (0, 0)) from blk_new' w _ _) hb)
  have HP0 := Aside0.mk (blk_below (show ((w.alloc (.cells #[.int .i64 h, .slice A n c] 27)).alloc (.cells #[.int .i64 0, .slice none 0 0] 27)).heap[w.heap.size]? = some (.cells #[.int .i64 h, .slice A n c] 27 (0, 0)) from blk_alloc (blk_new w _) _) hb)
  clear hb
  have g0 : w0.cell? ⟨w.heap.size + 1, 0, none⟩ = some (.int .i64 0) := (blk_cell HK0.out 0).trans rfl
  have g1 : w0.cell? ⟨w.heap.size + 1, 1, none⟩ = some (.slice none 0 0) := (blk_cell HK0.out 1).trans rfl
  have g2 := blk_frozen HK0.out 0
  have g3 := blk_frozen HK0.out 1
  go_wp2_with (fail)
  have b7 := blk_put (blk_put HK0.out 0 (.int .i64 0) rfl) 1 (.slice none 0 0) rfl
  refine bodyPost_ret (results_ct rfl _ _ (w.heap.size + 1) 27 #[.int .i64 0, .slice none 0 0] (0, 0) _ rfl b7 Try.underlying27 rfl (by kernel_rfl)) rfl ?_
  exact ⟨rfl, (HB0.out.setCell (p := ⟨w.heap.size + 1, 0, none⟩) (Nat.le_succ _) _).setCell (p := ⟨w.heap.size + 1, 1, none⟩) (Nat.le_succ _) _⟩
set_option maxRecDepth 100000 in
set_option maxHeartbeats 1000000 in
theorem yes (h : Int) (xs : List (List Int)) (hx4 : xs.length ≤ 4) (h4 : h ≤ 4) (hr4 : ∀ r ∈ xs, r.length ≤ 4) (k : Nat) (i : Nat) (hi : i < xs.length) (h1 : 0 < xs[i].length) (hho : impl_Yard_holder.f k h xs = some ((i : Int), true)) (A : Option Addr) (c : Nat) (w : World) (hC : Kd.C dR w A xs.length xs) (hcl : xs.length ≤ c) :
    Calls Try.prog 51 #[.agg #[.int .i64 h, .slice A xs.length c]] w fun e w' => ∃ v, e = .returned (.tuple #[.agg #[.int .i64 h, v], .bool true]) ∧ Kd.S dW 31 w' w.heap.size (fun _ => True) v (xs.set i ((xs.getD i []).take ((xs.getD i []).length - 1))) ∧ Below w.heap.size w w' := by
  obtain ⟨n, hn⟩ : ∃ n, n = xs.length := ⟨_, rfl⟩
  have hu := Try.underlying27
  have HN := Aside0.mk hn
  have HC := Aside0.mk hC
  have HR4 := Aside0.mk hr4
  have HCL := Aside0.mk hcl
  have HHO := Aside0.mk hho
  have HCLN := Aside0.mk (cloned_eq h xs hx4 hr4)
  have hn4 : n ≤ 4 := by omega
  obtain ⟨rI, hrI⟩ : ∃ r, r = xs[i] := ⟨_, rfl⟩
  rw [← hrI] at h1
  have hrI4 : rI.length ≤ 4 := hr4 rI (by rw [hrI]; exact List.getElem_mem hi)
  have HRI := Aside0.mk hrI
  have hcn : n ≤ c := by omega
  have hi' : i < n := by omega
  obtain ⟨q, hq⟩ : ∃ q, wrap64 ((rI.length : Int) - 1) = q := ⟨_, rfl⟩
  have hqv : q = (rI.length : Int) - 1 := by rw [← hq]; unfold wrap64; omega
  have hqw : IntKind.i64.wrap ((rI.length : Int) - 1) = q := by rw [i64_w]; exact hq
  have pq : (0 ≤ q) = True := eq_true (by omega)
  have qq : (q < (rI.length : Int)) = True := eq_true (by omega)
  have HQ := Aside0.mk hqv
  have pi : (0 ≤ (i : Int)) = True := eq_true (by omega)
  have qi : ((i : Int) < (n : Int)) = True := eq_true (by omega)
  rw [← hn]
  clear hn hC hr4 hcl hho hrI hq hqv
  go_enter Try.func51, Try.ntmps51
  go_wp2_with (fail)
  have hcc := impl_Yard_holder.calls k h A c xs (i : Int) true ((w.alloc (.cells #[.int .i64 h, .slice A n c] 27)).alloc (.cells #[.int .i64 0, .slice none 0 0] 27)) (Kd.C_below HC.out (below_alloc (below_alloc (Below.refl w.heap.size w) (.cells #[.int .i64 h, .slice A n c] 27)) (.cells #[.int .i64 0, .slice none 0 0] 27))) HCL.out HHO.out
  rw [← HN.out] at hcc
  refine hcc.mono ?_
  clear hcc
  rintro e w0 ⟨rfl, hb⟩
  have HB0 := Aside0.mk (below_step (below_alloc (below_alloc (Below.refl w.heap.size w) (.cells #[.int .i64 h, .slice A n c] 27)) (.cells #[.int .i64 0, .slice none 0 0] 27)) hb)
  have HK0 := Aside0.mk (blk_below (show ((w.alloc (.cells #[.int .i64 h, .slice A n c] 27)).alloc (.cells #[.int .i64 0, .slice none 0 0] 27)).heap[w.heap.size + 1]? = some (.cells #[.int .i64 0, .slice none 0 0] 27 (0, 0)) from blk_new' w _ _) hb)
  have HP0 := Aside0.mk (blk_below (show ((w.alloc (.cells #[.int .i64 h, .slice A n c] 27)).alloc (.cells #[.int .i64 0, .slice none 0 0] 27)).heap[w.heap.size]? = some (.cells #[.int .i64 h, .slice A n c] 27 (0, 0)) from blk_alloc (blk_new w _) _) hb)
  clear hb
  have x0 : w0.cell? ⟨w.heap.size, 0, none⟩ = some (.int .i64 h) := (blk_cell HP0.out 0).trans rfl
  have x1 : w0.cell? ⟨w.heap.size, 1, none⟩ = some (.slice A n c) := (blk_cell HP0.out 1).trans rfl
  go_wp2_with (fail)
  have hcc := impl_Yard_cloned.calls 1000 h A c xs h xs w0 (Kd.C_below HC.out HB0.out) HCL.out HCLN.out
  rw [← HN.out] at hcc
  refine hcc.mono ?_
  clear hcc
  rintro e w1 ⟨v, rfl, hS0, hb1⟩
  have HBL := Aside0.mk (below_step HB0.out hb1)
  have HB6 := Aside0.mk (blk_below HK0.out hb1)
  have HLO := Aside0.mk (show w.heap.size + 1 < w1.heap.size from blk_lt HB6.out)
  have hS1 : Kd.S dR 31 w1 (w.heap.size + 2) (fun k => k ≠ w1.heap.size) v xs := Kd.S_mono (Kd.S_elderB (Kd.S_lower hS0 (by have := blk_lt HK0.out; omega)) w1.heap.size (Nat.le_refl _)) (fun k hk => hk.2)
  obtain ⟨Av, cv, hv⟩ := Kd.S_slice hS1
  rw [← HN.out] at hv
  subst hv
  have hS3 := Kd.S_alloc hS1 (.cells #[.int .i64 h, .slice Av n cv] 27)
  have hb3 : (w1.alloc (.cells #[.int .i64 h, .slice Av n cv] 27)).heap[w1.heap.size]? = some (.cells #[.int .i64 h, .slice Av n cv] 27 (0, 0)) := blk_new w1 _
  have HB6W := Aside0.mk (blk_alloc HB6.out (.cells #[.int .i64 h, .slice Av n cv] 27))
  have HBLW := Aside0.mk (below_alloc HBL.out (.cells #[.int .i64 h, .slice Av n cv] 27))
  have HB3 := Aside0.mk (Below.refl (w.heap.size + 2) (w1.alloc (.cells #[.int .i64 h, .slice Av n cv] 27)))
  have HB63 := HB6W
  clear hS0 hb1 hS1 x0 x1
  have hn' := HN.out
  have q0 := of_eq_true pq
  have q1 := of_eq_true qq
  have hl3 : xs.length = n := HN.out.symm
  have hlo3 := trivial
  obtain ⟨gs3, rfl⟩ : ∃ gs3, Av = some ⟨gs3, 0, none⟩ := by
    obtain ⟨gs3, cap, he, _⟩ := Kd.S_form hS3 (by omega)
    rw [hl3] at he
    injection he with he _ _
    exact ⟨gs3, he⟩
  obtain ⟨okK, cK, hMK, hclK, hcK, hokK, hbackK⟩ := row_out (d := dW) rfl (sW_of_sR hS3) i hi' (by omega) (fun k hk => by have := blk_lt hb3; omega)
  obtain ⟨vK, rfl, hRK⟩ := hMK
  have xK := hcK _ rfl
  have e4 : (xs)[i]'(by omega) = rI := HRI.out.symm
  rw [e4] at hRK
  obtain ⟨AK, capK, rfl, hcapK, -⟩ := hRK.reads
  have hcut := cutm_run AK rI.length capK q (by omega) (by omega) hcapK
  obtain ⟨f3, hf3⟩ := rows_f hS3
  obtain ⟨uK, k1, k2, -⟩ := hf3 i (by omega)
  obtain rfl : uK = .slice AK rI.length capK := by rw [xK] at k1; injection k1 with k1; exact k1.symm
  have yx1 : (w1.alloc (.cells #[.int .i64 h, .slice (some ⟨gs3, 0, none⟩) n cv] 27)).cell? ⟨w1.heap.size, 1, none⟩ = some (.slice (some ⟨gs3, 0, none⟩) n cv) := (blk_cell hb3 1).trans rfl
  have HRK := Aside0.mk (rowW_cut (m := q.toNat) hRK (by omega))
  have HBK := Aside0.mk hbackK
  have HB3' := Aside0.mk hb3
  have HGN3 := Aside0.mk (show w1.heap.size ≠ gs3 from fun e => by
    obtain ⟨f0, hS0, _⟩ := hS3
    exact hS0 gs3 (by simp [Value.ownBlock]) e.symm)
  have HGL3 := Aside0.mk (show (w.heap.size + 2) ≤ gs3 from Kd.S_base hS3 gs3 (by simp [Value.ownBlock]))
  have HX3 := Aside0.mk (And.intro yx1 xK)
  clear hb3 hlo3 hS3 hcK hokK hbackK hRK e4 hf3 hl3 hclK hn' q0 q1 hcapK
  go_wp2_with (fail)
  refine start_ (n := 13) (S := fun w' => w'.cell? ⟨w1.heap.size, 1, none⟩ = some (.slice (some ⟨gs3, 0, none⟩) n cv) ∧ w'.cell? ⟨gs3, i, none⟩ = some (.slice AK rI.length capK)) (ds := [12]) #[false, false, false, false, false, false, false, false, false, false, false, false, false] (by kernel_rfl) rfl rfl HX3.out (fun hHeld => ?_)
  refine pure_ (i := 0) (N := some 25) (v := ?_) (a' := ?_) #[true, false, false, false, false, false, false, false, false, false, false, false, false] rfl rfl (by kernel_rfl) (fun _ _ _ h => h) (Or.inl ⟨by rfl, ?_⟩) ?_ ?_
  rotate_left
  · intro w'
    go_simp
    with_reducible rfl
  rotate_left
  · simp only [Act.put, List.setIfInBounds_toArray, List.set_cons_zero, List.set_cons_succ, i64_w, i32_w]
    rfl
  refine pure_ (i := 2) (N := some 27) (v := ?_) (a' := ?_) #[true, false, true, false, false, false, false, false, false, false, false, false, false] rfl rfl (by kernel_rfl) (fun _ _ _ h => h) (Or.inl ⟨by rfl, ?_⟩) ?_ ?_
  rotate_left
  · intro w'
    go_simp
    with_reducible rfl
  rotate_left
  · simp only [Act.put, List.setIfInBounds_toArray, List.set_cons_zero, List.set_cons_succ, i64_w, i32_w]
    rfl
  refine pure_ (i := 3) (N := some 28) (v := ?_) (a' := ?_) #[true, false, true, true, false, false, false, false, false, false, false, false, false] rfl rfl (by kernel_rfl) (fun _ _ _ h => h) (Or.inl ⟨by rfl, ?_⟩) ?_ ?_
  rotate_left
  · intro w'
    go_simp
    with_reducible rfl
  rotate_left
  · simp only [Act.put, List.setIfInBounds_toArray, List.set_cons_zero, List.set_cons_succ, i64_w, i32_w]
    rfl
  refine pure_ (i := 5) (N := some 30) (v := ?_) (a' := ?_) #[true, false, true, true, false, true, false, false, false, false, false, false, false] rfl rfl (by kernel_rfl) (fun _ _ _ h => h) (Or.inl ⟨by rfl, ?_⟩) ?_ ?_
  rotate_left
  · intro w'
    go_simp
    with_reducible rfl
  rotate_left
  · simp only [Act.put, List.setIfInBounds_toArray, List.set_cons_zero, List.set_cons_succ, i64_w, i32_w]
    rfl
  refine pure_ (i := 8) (N := some 33) (v := ?_) (a' := ?_) #[true, false, true, true, false, true, false, false, true, false, false, false, false] rfl rfl (by kernel_rfl) (fun _ _ _ h => h) (Or.inl ⟨by rfl, ?_⟩) ?_ ?_
  rotate_left
  · intro w'
    go_simp
    with_reducible rfl
  rotate_left
  · simp only [Act.put, List.setIfInBounds_toArray, List.set_cons_zero, List.set_cons_succ, i64_w, i32_w]
    rfl
  refine pure_ (i := 9) (N := some 34) (v := ?_) (a' := ?_) #[true, false, true, true, false, true, false, false, true, true, false, false, false] rfl rfl (by kernel_rfl) (fun _ _ _ h => h) (Or.inl ⟨by rfl, ?_⟩) ?_ ?_
  rotate_left
  · intro w'
    go_simp
    with_reducible rfl
  rotate_left
  · simp only [Act.put, List.setIfInBounds_toArray, List.set_cons_zero, List.set_cons_succ, i64_w, i32_w]
    rfl
  refine take_ (i := 1) (N := some 26) (v := ?_) (a' := ?_) #[true, true, true, true, false, true, false, false, true, true, false, false, false] rfl rfl (by kernel_rfl) (fun _ _ _ h => h) (Or.inl ⟨by rfl, ?_⟩) hHeld ?_ ?_
  rotate_left
  · rintro w' ⟨s0, s1⟩
    go_simp
    with_reducible rfl
  rotate_left
  · simp only [Act.put, List.setIfInBounds_toArray, List.set_cons_zero, List.set_cons_succ, i64_w, i32_w]
    rfl
  refine take_ (i := 4) (N := some 29) (v := ?_) (a' := ?_) #[true, true, true, true, true, true, false, false, true, true, false, false, false] rfl rfl (by kernel_rfl) (fun _ _ _ h => h) (Or.inl ⟨by rfl, ?_⟩) hHeld ?_ ?_
  rotate_left
  · rintro w' ⟨s0, s1⟩
    go_simp
    with_reducible rfl
  rotate_left
  · simp only [Act.put, List.setIfInBounds_toArray, List.set_cons_zero, List.set_cons_succ, i64_w, i32_w]
    rfl
  refine pure_ (i := 6) (N := some 31) (v := ?_) (a' := ?_) #[true, true, true, true, true, true, true, false, true, true, false, false, false] rfl rfl (by kernel_rfl) (fun _ _ _ h => h) (Or.inl ⟨by rfl, ?_⟩) ?_ ?_
  rotate_left
  · intro w'
    go_simp
    with_reducible rfl
  rotate_left
  · simp only [Act.put, List.setIfInBounds_toArray, List.set_cons_zero, List.set_cons_succ, i64_w, i32_w]
    rfl
  refine take_ (i := 7) (N := some 32) (v := ?_) (a' := ?_) #[true, true, true, true, true, true, true, true, true, true, false, false, false] rfl rfl (by kernel_rfl) (fun _ _ _ h => h) (Or.inl ⟨by rfl, ?_⟩) hHeld ?_ ?_
  rotate_left
  · rintro w' ⟨s0, s1⟩
    go_simp
    with_reducible rfl
  rotate_left
  · simp only [Act.put, List.setIfInBounds_toArray, List.set_cons_zero, List.set_cons_succ, i64_w, i32_w]
    rfl
  refine pure_ (i := 10) (N := some 35) (v := ?_) (a' := ?_) #[true, true, true, true, true, true, true, true, true, true, true, false, false] rfl rfl (by kernel_rfl) (fun _ _ _ h => h) (Or.inl ⟨by rfl, ?_⟩) ?_ ?_
  rotate_left
  · intro w'
    go_simp
    with_reducible rfl
  rotate_left
  · simp only [Act.put, List.setIfInBounds_toArray, List.set_cons_zero, List.set_cons_succ, i64_w, i32_w]
    rfl
  refine pure_ (i := 11) (N := some 36) (v := ?_) (a' := ?_) #[true, true, true, true, true, true, true, true, true, true, true, true, false] rfl rfl (by kernel_rfl) (fun _ _ _ h => h) (Or.inl ⟨by rfl, ?_⟩) ?_ ?_
  rotate_left
  · intro w'
    go_simp
    with_reducible rfl
  rotate_left
  · simp only [Act.put, List.setIfInBounds_toArray, List.set_cons_zero, List.set_cons_succ, i64_w, i32_w]
    rfl
  refine last_ (i := 12) (N := none) #[true, true, true, true, true, true, true, true, true, true, true, true, true] rfl rfl (by kernel_rfl) (by decide) (fun K_ hK => ?_)
  refine skip_ (w1 := ?_) (by rfl) rfl ?_ ?_
  rotate_left
  · go_simp
    rfl
  refine hK.out _ _ ?_
  clear hK K_
  refine done_ (by kernel_rfl) ?_
  obtain ⟨p1, p2⟩ := HBK.out (w1.alloc (.cells #[.int .i64 h, .slice (some ⟨gs3, 0, none⟩) n cv] 27)) (.slice AK q.toNat q.toNat) (rI.take q.toNat) (Nat.le_refl _) (fun _ _ _ => rfl) ⟨_, rfl, by
    have := HRK.out
    rcases this with h | ⟨g1, cap1, cur1, hv, hb', ho, r1⟩
    · exact .inl h
    · exact .inr ⟨g1, cap1, cur1, hv, hb', .inl ho, r1⟩⟩
  have b5 : ((w1.alloc (.cells #[.int .i64 h, .slice (some ⟨gs3, 0, none⟩) n cv] 27)).setCell ⟨gs3, i, none⟩ (.slice AK q.toNat q.toNat)).drew.heap[w1.heap.size]? = some (.cells #[.int .i64 h, .slice (some ⟨gs3, 0, none⟩) n cv] 27 (0, 0)) := by
    show ((w1.alloc (.cells #[.int .i64 h, .slice (some ⟨gs3, 0, none⟩) n cv] 27)).setCell ⟨gs3, i, none⟩ (.slice AK q.toNat q.toNat)).heap[w1.heap.size]? = _
    rw [Below.heap_setCell _ _ _ _ HGN3.out]; exact HB3'.out
  have b6 : ((w1.alloc (.cells #[.int .i64 h, .slice (some ⟨gs3, 0, none⟩) n cv] 27)).setCell ⟨gs3, i, none⟩ (.slice AK q.toNat q.toNat)).drew.heap[w.heap.size + 1]? = some (.cells #[.int .i64 0, .slice none 0 0] 27 (0, 0)) := by
    show ((w1.alloc (.cells #[.int .i64 h, .slice (some ⟨gs3, 0, none⟩) n cv] 27)).setCell ⟨gs3, i, none⟩ (.slice AK q.toNat q.toNat)).heap[w.heap.size + 1]? = _
    rw [Below.heap_setCell _ _ _ _ (show w.heap.size + 1 ≠ gs3 by have := HGL3.out; omega)]; exact HB63.out
  have p3 := Kd.S_drew p1
  have p4 : Below (w.heap.size + 2) (w1.alloc (.cells #[.int .i64 h, .slice (some ⟨gs3, 0, none⟩) n cv] 27)) ((w1.alloc (.cells #[.int .i64 h, .slice (some ⟨gs3, 0, none⟩) n cv] 27)).setCell ⟨gs3, i, none⟩ (.slice AK q.toNat q.toNat)).drew := below_drew (HB3.out.setCell (p := ⟨gs3, i, none⟩) HGL3.out _)
  generalize hw5 : ((w1.alloc (.cells #[.int .i64 h, .slice (some ⟨gs3, 0, none⟩) n cv] 27)).setCell ⟨gs3, i, none⟩ (.slice AK q.toNat q.toNat)).drew = w5 at b5 b6 p3 p4 ⊢
  have y0 : w5.cell? ⟨w1.heap.size, 0, none⟩ = some (.int .i64 h) := (blk_cell b5 0).trans rfl
  have y1 : w5.cell? ⟨w1.heap.size, 1, none⟩ = some (.slice (some ⟨gs3, 0, none⟩) n cv) := (blk_cell b5 1).trans rfl
  have g0 : w5.cell? ⟨w.heap.size + 1, 0, none⟩ = some (.int .i64 0) := (blk_cell b6 0).trans rfl
  have g1 : w5.cell? ⟨w.heap.size + 1, 1, none⟩ = some (.slice none 0 0) := (blk_cell b6 1).trans rfl
  have g2 := blk_frozen b6 0
  have g3 := blk_frozen b6 1
  have B6 := Aside0.mk b6
  have P3 := Aside0.mk p3
  have P4 := Aside0.mk p4
  have HNE5 := Aside0.mk (show w1.heap.size ≠ w.heap.size + 1 by have := HLO.out; omega)
  clear hw5 p1 p2 p3 p4 b5 b6 hHeld yx1 xK k1 k2
  go_wp2_with (fail)
  have b7 := blk_put (blk_put B6.out 0 (.int .i64 h) rfl) 1 (.slice (some ⟨gs3, 0, none⟩) n cv) rfl
  have hm' : xs.set i ((xs.getD i []).take ((xs.getD i []).length - 1)) = xs.set i (rI.take q.toNat) := by
    have a1 := HQ.out
    have a2 : xs.getD i [] = rI := by rw [List.getD_eq_getElem?_getD, List.getElem?_eq_getElem hi, HRI.out]; rfl
    rw [a2, show q.toNat = rI.length - 1 by omega]
  refine bodyPost_ret (results_ct rfl _ _ (w.heap.size + 1) 27 #[.int .i64 h, .slice (some ⟨gs3, 0, none⟩) n cv] (0, 0) _ rfl b7 Try.underlying27 rfl (by kernel_rfl)) rfl ?_
  refine ⟨_, rfl, ?_, ?_⟩
  · rw [hm']
    exact Kd.S_mono (Kd.S_far (p := ⟨w.heap.size + 1, 1, none⟩) (Kd.S_far (p := ⟨w.heap.size + 1, 0, none⟩) (Kd.S_lower (Kd.S_bound P3.out) (by omega : w.heap.size ≤ (w.heap.size + 2))) (fun k hk => by have := hk.2.1; show k ≠ w.heap.size + 1; omega) _) (fun k hk => by have := hk.2.1; show k ≠ w.heap.size + 1; omega) _) (fun _ _ => trivial)
  · exact ((HBLW.out.trans (P4.out.mono (by omega))).setCell (p := ⟨w.heap.size + 1, 0, none⟩) (Nat.le_succ _) _).setCell (p := ⟨w.heap.size + 1, 1, none⟩) (Nat.le_succ _) _
end Go.Proofs.Ytibaiaenfeppcaa.Ytn

-- made by a patched copy of print.sh: this session's own
namespace Go.Proofs.Ytibaiaenfeppcaa.Q
open Go.RowKit Go.Proofs.YtibaiaenfeppcaaW.PrintWords Go.Proofs.YtibaiaenfeppcaaW.PrintLast Go.Proofs.YtibaiaenfeppcaaW.PrintMore
attribute [local go_sem] max2_int min2_int max_two min_two max_three min_three max_four min_four   -- for this text's walks alone
set_option linter.unusedVariables false
set_option linter.unusedSimpArgs false

/-! ### spec_TopsOf: function 15 -/
def spec_TopsOf.l0 : Nat → List Int → Int → Int → List (List Int) → Option (List Int × Bool)
  | 0, _, _, _, _ => none
  | k + 1, x4, x5, x288000, x288001 => if x5 < (x288001.length : Int) then (if 0 ≤ x5 then (if ((rd_L1 x288001 x5).length : Int) > 0 then (if 0 ≤ (wrap64 (((rd_L1 x288001 x5).length : Int) - 1)) then (if (wrap64 (((rd_L1 x288001 x5).length : Int) - 1)) < ((rd_L1 x288001 x5).length : Int) then (if x4.length < 17592186044416 then (spec_TopsOf.l0 k (x4 ++ [rd (rd_L1 x288001 x5) (wrap64 (((rd_L1 x288001 x5).length : Int) - 1))]) (wrap64 (x5 + 1)) x288000 x288001) else (none)) else (none)) else (none)) else (if x4.length < 17592186044416 then (spec_TopsOf.l0 k (x4 ++ [(-1)]) (wrap64 (x5 + 1)) x288000 x288001) else (none))) else (none)) else (some (x4, true))
def spec_TopsOf.f (k : Nat) (a0_0 : Int) (l0_1 : List (List Int)) : Option (List Int × Bool) := (spec_l09Yard.f k a0_0 l0_1).bind fun bt288 => (if bt288.1 = true then (spec_TopsOf.l0 k (([] : List Int)) 0 bt288.2 l0_1) else (some (([] : List Int), false)))
theorem spec_TopsOf.mono_l : ∀ k, (∀ y0 y1 y2 y3, LeO (spec_TopsOf.l0 k y0 y1 y2 y3) (spec_TopsOf.l0 (k + 1) y0 y1 y2 y3))
  | 0 => fun _ _ _ _ r h => by simp [spec_TopsOf.l0] at h
  | k + 1 => by
    have ih0 := spec_TopsOf.mono_l k
    · intro y0 y1 y2 y3
      unfold spec_TopsOf.l0
      repeat' first
      | (with_reducible exact ih0 _ _ _ _)
      | (with_reducible exact spec_l09Yard.mono _ _ _)
      | (with_reducible exact LeO.refl _)
      | (with_reducible exact LeO.none _)
      | (with_reducible refine LeO.ite ?_ ?_)
      | (with_reducible refine LeO.bind ?_ (fun _ => ?_))
      | exact ih0 _ _ _ _
      | exact spec_l09Yard.mono _ _ _
      | exact LeO.none _
      | refine LeO.ite ?_ ?_
      | refine LeO.bind ?_ (fun _ => ?_)
theorem spec_TopsOf.mono : ∀ a0 a1 k, LeO (spec_TopsOf.f k a0 a1) (spec_TopsOf.f (k + 1) a0 a1) := by
  intro a0 a1 k
  have ih0 := spec_TopsOf.mono_l k
  unfold spec_TopsOf.f
  repeat' first
      | (with_reducible exact ih0 _ _ _ _)
      | (with_reducible exact spec_l09Yard.mono _ _ _)
      | (with_reducible exact LeO.refl _)
      | (with_reducible exact LeO.none _)
      | (with_reducible refine LeO.ite ?_ ?_)
      | (with_reducible refine LeO.bind ?_ (fun _ => ?_))
      | exact ih0 _ _ _ _
      | exact spec_l09Yard.mono _ _ _
      | exact LeO.none _
      | refine LeO.ite ?_ ?_
      | refine LeO.bind ?_ (fun _ => ?_)
set_option maxHeartbeats 8000000 in
set_option maxRecDepth 100000 in
theorem spec_TopsOf.calls (k : Nat) (a0_0 : Int) (A0_1 : Option Addr) (c0_1 : Nat) (l0_1 : List (List Int)) (r1 : List Int) (r2 : Bool) (w : World) (hr0_1 : Kd.C (Kd.slice 2 (Kd.int .i64)) w A0_1 l0_1.length l0_1) (hc0_1 : l0_1.length ≤ c0_1) (h : spec_TopsOf.f k a0_0 l0_1 = some (r1, r2)) :
    Calls Try.prog 15 #[.agg #[.int .i64 a0_0, .slice A0_1 l0_1.length c0_1]] w fun e w' => ∃ v0_ : Value, e = .returned (.tuple #[v0_, .bool r2]) ∧ Kd.R (Kd.int .i64) 2 w' w.heap.size (fun _ => True) v0_ r1 ∧ Below w.heap.size w w' := by
  have hu27 := Try.underlying27
  have HR0_1 := Aside0.mk hr0_1
  have HC0_1 := Aside0.mk hc0_1
  clear hr0_1 hc0_1
  have HB := Aside0.mk (Below.refl w.heap.size w)
  have H : ((spec_l09Yard.f k a0_0 l0_1).bind fun bt288 => (if bt288.1 = true then (spec_TopsOf.l0 k (([] : List Int)) 0 bt288.2 l0_1) else (some (([] : List Int), false)))) = some (r1, r2) := h
  clear h
  replace H := Option.bind_eq_some_iff.mp H
  obtain ⟨⟨t288, t289⟩, A20, H⟩ := H
  replace H : (if t288 = true then (spec_TopsOf.l0 k (([] : List Int)) 0 t289 l0_1) else (some (([] : List Int), false))) = some (r1, r2) := H
  have A2 := Aside0.mk A20
  clear A20
  by_cases c3 : t288 = true
  · subst c3
    have H1 : (spec_TopsOf.l0 k (([] : List Int)) 0 t289 l0_1) = some (r1, r2) := by rw [if_pos rfl] at H; exact H
    clear H
    have H := H1
    clear H1
    obtain ⟨y290, hy290⟩ : ∃ y_ : List Int, y_ = (([] : List Int)) := ⟨_, rfl⟩
    replace H : (spec_TopsOf.l0 k y290 0 t289 l0_1) = some (r1, r2) := by first | (rw [hy290]; with_reducible exact H) | (have H2_ := (Option.bind_some _ _).symm.trans H; rw [hy290]; with_reducible exact H2_) | (have H2_ := (Option.bind_some _ _).symm.trans H; with_reducible exact H2_) | with_reducible exact H | (rw [hy290]; exact H) | exact H
    have Ny290 := Aside0.mk hy290
    clear hy290
    have H' := Aside0.mk H
    clear H
    go_enter Try.func15, Try.ntmps15
    go_wp2_with (first | ((with_reducible refine gate_dst (N := 1) rfl ?_); refine box_event ?hg (N := 1) ?hd (cs := #[.int .i64 a0_0, .slice A0_1 l0_1.length c0_1]) (t := 27) ?hr ?_; (case hd => rfl); (case hg => rfl); (case hr => first | (go_simp; done) | (go_simp; rfl)); intro gb287 hg w4 hbox hb; have n0_ := Aside0.mk (below_step (by repeat (first | (with_reducible first | exact HB.out | apply below_alloc | apply pw_below_drewN | apply below_drew1) | exact HB.out)) hb); have n1_ := Aside0.mk ((by rw [hg]; exact (below_size (by repeat (first | (with_reducible first | exact HB.out | apply below_alloc | apply pw_below_drewN | apply below_drew1) | exact HB.out))) : w.heap.size ≤ gb287)); have n2_ := Aside0.mk ((by rw [hg]; exact (below_size (by repeat (first | (with_reducible first | exact HB.out | apply below_alloc | apply pw_below_drewN | apply below_drew1) | exact HB.out))) : w.heap.size ≤ gb287)); have n3_ := Aside0.mk ((⟨A0_1, c0_1, hbox, (by rw [hg]; exact (below_size (by repeat (first | (with_reducible first | exact HB.out | apply below_alloc | apply pw_below_drewN | apply below_drew1) | exact HB.out)))), HR0_1.out⟩ : IsS27 w w4 gb287 a0_0 l0_1)); clear HB; have HB := n0_; have GW287 := n1_; have GE287 := n2_; have HI287 := n3_; clear n0_ n1_ n2_ n3_; clear hb hbox hg) | ((with_reducible refine gate_callee (f := 38) rfl ?_); refine goesL_ (some 8) rfl rfl Try.func38 (by kernel_rfl) rfl #[.pointer (some ⟨gb287, 0, none⟩)] rfl (by (try simp only [List.map_toArray, List.map_cons, List.map_nil]); first | done | rfl | (simp only [List.length_drop, List.length_take]; rfl)) ?_; (with_reducible refine (spec_l09Yard.calls k gb287 a0_0 l0_1 true t289 w _ ?side1 ?side2 A2.out).mono ?_); (case side1 => repeat (first | (with_reducible first | exact HI287.out | apply IsS27.alloc | apply IsS27.drewN | apply IsS27.drew | apply IsS27.set_0) | exact HI287.out)); (case side2 => repeat (first | (with_reducible first | exact HB.out | apply below_alloc | apply pw_below_drewN | apply below_drew1 | refine below_set ?_ (IsS27.ge HI287.out)) | exact HB.out)); rintro e w5 ⟨rfl, hi, hb, hk⟩; refine ⟨_, rfl, ?_⟩; have n0_ := Aside0.mk (hb); have n1_ := Aside0.mk (hi); clear HB; clear HI287; have HB := n0_; have HI287 := n1_; clear n0_ n1_; (try clear hb); (try clear hb2); (try clear hk); (try clear hi)) | ((with_reducible refine gate_dst (N := 10) rfl ?_); refine Kd.R_lit (Kd.int .i64) _ 2 ?hg (N := 10) ?hd (xs := ([] : List Int)) (inner := []) (ok := fun _ => True) (okp := fun _ => True) ?hr ?hp (fun _ hk => hk) trivial (Below.refl _ _) (Nat.le_refl _) (by simp) ?_; (case hd => rfl); (case hg => rfl); (case hr => first | (go_simp; done) | (go_simp; rfl)); (case hp => exact (Reps.none _ _)); intro v291 w6 ho7 hb hg_ hnew_; clear hg_ hnew_; (first | rw [← Ny290.out] at ho7 | (simp only [Int.reduceToNat] at ho7; rw [← Ny290.out] at ho7)); have n0_ := Aside0.mk (Kd.R_lower ho7 (below_size (by repeat (first | (with_reducible first | exact HB.out | apply below_alloc | apply pw_below_drewN | apply below_drew1 | refine below_set ?_ (IsS27.ge HI287.out)) | exact HB.out)))); have n1_ := Aside0.mk (IsS27.below (by repeat (first | (with_reducible first | exact HI287.out | apply IsS27.alloc | apply IsS27.drewN | apply IsS27.drew | apply IsS27.set_0) | exact HI287.out)) hb); have n2_ := Aside0.mk (below_step (by repeat (first | (with_reducible first | exact HB.out | apply below_alloc | apply pw_below_drewN | apply below_drew1 | refine below_set ?_ (IsS27.ge HI287.out)) | exact HB.out)) hb); clear HI287; clear HB; have HO292 := n0_; have HI287 := n1_; have HB := n2_; clear n0_ n1_ n2_; clear hb ho7))
    go_loopg [4, 5] k (fun kq v4 v5 w' => ∃ (x4_1 : List Int) (x5_1 : Int), v5 = .int .i64 x5_1 ∧ Aside0 (spec_TopsOf.l0 kq x4_1 x5_1 t289 l0_1 = some (r1, r2)) ∧ Aside0 (kq ≤ k) ∧ Aside0 (Kd.R (Kd.int .i64) 2 w' w.heap.size (fun _ => True) v4 x4_1) ∧ Aside0 (IsS27 w w' gb287 t289 l0_1) ∧ Aside0 (Below w.heap.size w w'))
    case atStart => exact ⟨(y290), (0), (by first | rfl | (simp; done) | (simp [*]; done)), H', ⟨Nat.le_refl _⟩, ⟨by (with_reducible repeat (first | apply Kd.R_alloc | apply Kd.R_drewN | apply Kd.R_drew)); exact HO292.out⟩, ⟨by repeat (first | (with_reducible first | exact HI287.out | apply IsS27.alloc | apply IsS27.drewN | apply IsS27.drew | apply IsS27.set_0) | exact HI287.out)⟩, ⟨by repeat (first | (with_reducible first | exact HB.out | apply below_alloc | apply pw_below_drewN | apply below_drew1 | refine below_set ?_ (IsS27.ge HI287.out)) | exact HB.out)⟩⟩
    case round =>
      clear H'
      try clear c1
      try clear p2
      try clear c3
      obtain ⟨x4_1, x5_1, rfl, HA, HK1, HO_4, HI287, HB⟩ := hrel
      cases gk with
      | zero => exact absurd HA.out (by simp [spec_TopsOf.l0])
      | succ k1 =>
        have H := HA.out
        clear HA
        simp only [spec_TopsOf.l0] at H
        by_cases c8 : x5_1 < (l0_1.length : Int)
        · rw [if_pos c8] at H
          have c8b0 : decide (x5_1 < (l0_1.length : Int)) = true := decide_eq_true c8
          clear c8
          by_cases c9 : 0 ≤ x5_1
          · rw [if_pos c9] at H
            have c9b0 : decide (0 ≤ x5_1) = true := decide_eq_true c9
            clear c9
            by_cases c10 : ((rd_L1 l0_1 x5_1).length : Int) > 0
            · rw [if_pos c10] at H
              have c10b0 : decide (0 < ((rd_L1 l0_1 x5_1).length : Int)) = true := decide_eq_true c10
              have c10b1 : decide (0 < (rd_L1 l0_1 x5_1).length) = true := decide_eq_true (by omega)
              clear c10
              obtain ⟨ji11, hji11⟩ : ∃ j_ : Int, (wrap64 (((rd_L1 l0_1 x5_1).length : Int) - 1)) = j_ := ⟨_, rfl⟩
              replace H : (if 0 ≤ (ji11) then (if (ji11) < ((rd_L1 l0_1 x5_1).length : Int) then (if x4_1.length < 17592186044416 then (spec_TopsOf.l0 k1 (x4_1 ++ [rd (rd_L1 l0_1 x5_1) (ji11)]) (wrap64 (x5_1 + 1)) t289 l0_1) else (none)) else (none)) else (none)) = some (r1, r2) := by first | (rw [hji11] at H; exact H) | (simp only [hji11] at H ⊢; exact H)
              have hji11w : (IntKind.i64.wrap (((rd_L1 l0_1 x5_1).length : Int) - 1)) = ji11 := (i64_w _).trans hji11
              by_cases c12 : 0 ≤ (ji11)
              · rw [if_pos c12] at H
                have c12b0 : decide (0 ≤ (ji11)) = true := decide_eq_true c12
                clear c12
                by_cases c13 : (ji11) < ((rd_L1 l0_1 x5_1).length : Int)
                · rw [if_pos c13] at H
                  have c13b0 : decide ((ji11) < ((rd_L1 l0_1 x5_1).length : Int)) = true := decide_eq_true c13
                  clear c13
                  by_cases c14 : x4_1.length < 17592186044416
                  · rw [if_pos c14] at H
                    have LMc14 := Aside0.mk c14
                    clear c14
                    obtain ⟨y296, hy296⟩ : ∃ y_ : List Int, y_ = (x4_1 ++ [rd (rd_L1 l0_1 x5_1) (ji11)]) := ⟨_, rfl⟩
                    replace H : (spec_TopsOf.l0 k1 y296 (wrap64 (x5_1 + 1)) t289 l0_1) = some (r1, r2) := by first | (rw [hy296]; with_reducible exact H) | (have H2_ := (Option.bind_some _ _).symm.trans H; rw [hy296]; with_reducible exact H2_) | (have H2_ := (Option.bind_some _ _).symm.trans H; with_reducible exact H2_) | with_reducible exact H | (rw [hy296]; exact H) | exact H
                    have Ny296 := Aside0.mk hy296
                    clear hy296
                    have H' := Aside0.mk H
                    clear H
                    obtain ⟨ASz15_1, cSz15_1, HGz15, hgz15, HSz15_1⟩ := HI287.out
                    have hcz15_0 := cellS27_0 HGz15
                    have hcz15_1 := cellS27_1 HGz15
                    have hfz15_0 := blk_frozen HGz15 0
                    clear HGz15 hgz15
                    have p293 : 0 ≤ (x5_1 : Int) := of_decide_eq_true (by first | (with_reducible assumption) | assumption)
                    have q293 : x5_1 < (l0_1.length : Int) := of_decide_eq_true (by first | (with_reducible assumption) | assumption)
                    obtain ⟨ad293, A293_0, c293_0, e293, hx293_0, hl293_0, hi293_0⟩ := at_L1 HSz15_1 x5_1 p293 q293
                    cases e293
                    replace hx293_0 := pw_cell_below HB.out hx293_0
                    have HR293_0 := Aside0.mk hi293_0
                    have HC293_0 := Aside0.mk hl293_0
                    clear hi293_0 hl293_0
                    replace p293 := eq_true p293
                    replace q293 := eq_true q293
                    have p294 : 0 ≤ (x5_1 : Int) := of_decide_eq_true (by first | (with_reducible assumption) | assumption)
                    have q294 : x5_1 < (l0_1.length : Int) := of_decide_eq_true (by first | (with_reducible assumption) | assumption)
                    obtain ⟨ad294, A294_0, c294_0, e294, hx294_0, hl294_0, hi294_0⟩ := at_L1 HSz15_1 x5_1 p294 q294
                    obtain rfl : ad293 = ad294 := (by injection e294)
                    replace hx294_0 := pw_cell_below HB.out hx294_0
                    first | (have hq_ := hx293_0.symm.trans hx294_0; injection hq_ with hq_; injection hq_ with hqa_ hqb_ hqc_; subst hqa_ hqc_; clear hqb_) | skip
                    have HR294_0 := Aside0.mk hi294_0
                    have HC294_0 := Aside0.mk hl294_0
                    clear hi294_0 hl294_0
                    replace p294 := eq_true p294
                    replace q294 := eq_true q294
                    have p295 : 0 ≤ ((ji11) : Int) := of_decide_eq_true (by first | (with_reducible assumption) | assumption)
                    have q295 : (ji11) < ((rd_L1 l0_1 x5_1).length : Int) := of_decide_eq_true (by first | (with_reducible assumption) | assumption)
                    obtain ⟨ad295, e295, hx295_0⟩ := Kd.at_int HR294_0.out (ji11) p295 q295
                    cases e295
                    replace hx295_0 := (HB.out.cell (World.block_lt_of_cell? w _ hx295_0)).trans hx295_0
                    replace p295 := eq_true p295
                    replace q295 := eq_true q295
                    go_wp2_with (first | ((with_reducible refine gate_builtin (b := .append) (xs := #[.tmp 35, .tmp 37]) rfl ?_); at_builtin; refine Kd.R_append (Kd.int .i64) (w0 := w) w.heap.size rfl (.tmp 35) (.tmp 37) 31 2 (.int .i64 0) 8 rfl Try.underlying31 info2 rfl (by decide) (by omega) u4 x4_1 (rd (rd_L1 l0_1 x5_1) (ji11)) [.int .i64 (rd (rd_L1 l0_1 x5_1) (ji11))] (fun _ => True) (fun _ => False) rfl rfl ?aP (fun _ hk => hk.elim) ?aF ?aO ?aB ?aS ?aL ?_; (case aP => exact rfl); (case aB => exact (by repeat (first | (with_reducible first | exact HB.out | apply below_alloc | apply pw_below_drewN | apply below_drew1 | refine below_set ?_ (IsS27.ge HI287.out)) | exact HB.out))); (case aF => exact (fun _ _ => trivial)); (case aO => exact (by (with_reducible repeat (first | apply Kd.R_alloc | apply Kd.R_drewN | apply Kd.R_drew)); exact HO_4.out)); (case aS => exact (below_size (by repeat (first | (with_reducible first | exact HB.out | apply below_alloc | apply pw_below_drewN | apply below_drew1 | refine below_set ?_ (IsS27.ge HI287.out)) | exact HB.out)))); (case aL => have := LMc14.out; omega); intro v297 w16 ho hb hg hat; rw [← Ny296.out] at ho; have n0_ := Aside0.mk (IsS27.grown (by repeat (first | (with_reducible first | exact HI287.out | apply IsS27.alloc | apply IsS27.drewN | apply IsS27.drew | apply IsS27.set_0) | exact HI287.out)) hg (IsS27.own_ne HI287.out HO_4.out (by decide))); have n1_ := Aside0.mk (hb); have n2_ := Aside0.mk (ho); clear HI287; clear HB; clear HO_4; have HI287 := n0_; have HB := n1_; have HO298 := n2_; clear n0_ n1_ n2_; clear ho hb hg hat))
                    go_roundg k1
                    case measure => have := HK1.out; omega
                    case rel => exact ⟨(y296), (wrap64 (x5_1 + 1)), (by first | rfl | (simp; done) | (simp [*]; done)), H', ⟨by have := HK1.out; omega⟩, ⟨by (with_reducible repeat (first | apply Kd.R_alloc | apply Kd.R_drewN | apply Kd.R_drew)); exact HO298.out⟩, ⟨by repeat (first | (with_reducible first | exact HI287.out | apply IsS27.alloc | apply IsS27.drewN | apply IsS27.drew | apply IsS27.set_0) | exact HI287.out)⟩, ⟨by repeat (first | (with_reducible first | exact HB.out | apply below_alloc | apply pw_below_drewN | apply below_drew1 | refine below_set ?_ (IsS27.ge HI287.out)) | exact HB.out)⟩⟩
                  · rw [if_neg c14] at H
                    exact absurd H (by simp)
                · rw [if_neg c13] at H
                  exact absurd H (by simp)
              · rw [if_neg c12] at H
                exact absurd H (by simp)
            · rw [if_neg c10] at H
              have c10b0 : decide (0 < ((rd_L1 l0_1 x5_1).length : Int)) = false := decide_eq_false c10
              have c10b1 : decide (0 < (rd_L1 l0_1 x5_1).length) = false := decide_eq_false (by omega)
              clear c10
              by_cases c17 : x4_1.length < 17592186044416
              · rw [if_pos c17] at H
                have LMc17 := Aside0.mk c17
                clear c17
                obtain ⟨y299, hy299⟩ : ∃ y_ : List Int, y_ = (x4_1 ++ [(-1)]) := ⟨_, rfl⟩
                replace H : (spec_TopsOf.l0 k1 y299 (wrap64 (x5_1 + 1)) t289 l0_1) = some (r1, r2) := by first | (rw [hy299]; with_reducible exact H) | (have H2_ := (Option.bind_some _ _).symm.trans H; rw [hy299]; with_reducible exact H2_) | (have H2_ := (Option.bind_some _ _).symm.trans H; with_reducible exact H2_) | with_reducible exact H | (rw [hy299]; exact H) | exact H
                have Ny299 := Aside0.mk hy299
                clear hy299
                have H' := Aside0.mk H
                clear H
                obtain ⟨ASz18_1, cSz18_1, HGz18, hgz18, HSz18_1⟩ := HI287.out
                have hcz18_0 := cellS27_0 HGz18
                have hcz18_1 := cellS27_1 HGz18
                have hfz18_0 := blk_frozen HGz18 0
                clear HGz18 hgz18
                have p293 : 0 ≤ (x5_1 : Int) := of_decide_eq_true (by first | (with_reducible assumption) | assumption)
                have q293 : x5_1 < (l0_1.length : Int) := of_decide_eq_true (by first | (with_reducible assumption) | assumption)
                obtain ⟨ad293, A293_0, c293_0, e293, hx293_0, hl293_0, hi293_0⟩ := at_L1 HSz18_1 x5_1 p293 q293
                cases e293
                replace hx293_0 := pw_cell_below HB.out hx293_0
                have HR293_0 := Aside0.mk hi293_0
                have HC293_0 := Aside0.mk hl293_0
                clear hi293_0 hl293_0
                replace p293 := eq_true p293
                replace q293 := eq_true q293
                go_wp2_with (first | ((with_reducible refine gate_builtin (b := .append) (xs := #[.tmp 35, .tmp 37]) rfl ?_); at_builtin; refine Kd.R_append (Kd.int .i64) (w0 := w) w.heap.size rfl (.tmp 35) (.tmp 37) 31 2 (.int .i64 0) 8 rfl Try.underlying31 info2 rfl (by decide) (by omega) u4 x4_1 (-1) [.int .i64 (-1)] (fun _ => True) (fun _ => False) rfl rfl ?aP (fun _ hk => hk.elim) ?aF ?aO ?aB ?aS ?aL ?_; (case aP => exact rfl); (case aB => exact (by repeat (first | (with_reducible first | exact HB.out | apply below_alloc | apply pw_below_drewN | apply below_drew1 | refine below_set ?_ (IsS27.ge HI287.out)) | exact HB.out))); (case aF => exact (fun _ _ => trivial)); (case aO => exact (by (with_reducible repeat (first | apply Kd.R_alloc | apply Kd.R_drewN | apply Kd.R_drew)); exact HO_4.out)); (case aS => exact (below_size (by repeat (first | (with_reducible first | exact HB.out | apply below_alloc | apply pw_below_drewN | apply below_drew1 | refine below_set ?_ (IsS27.ge HI287.out)) | exact HB.out)))); (case aL => have := LMc17.out; omega); intro v300 w19 ho hb hg hat; rw [← Ny299.out] at ho; have n0_ := Aside0.mk (IsS27.grown (by repeat (first | (with_reducible first | exact HI287.out | apply IsS27.alloc | apply IsS27.drewN | apply IsS27.drew | apply IsS27.set_0) | exact HI287.out)) hg (IsS27.own_ne HI287.out HO_4.out (by decide))); have n1_ := Aside0.mk (hb); have n2_ := Aside0.mk (ho); clear HI287; clear HB; clear HO_4; have HI287 := n0_; have HB := n1_; have HO301 := n2_; clear n0_ n1_ n2_; clear ho hb hg hat))
                go_roundg k1
                case measure => have := HK1.out; omega
                case rel => exact ⟨(y299), (wrap64 (x5_1 + 1)), (by first | rfl | (simp; done) | (simp [*]; done)), H', ⟨by have := HK1.out; omega⟩, ⟨by (with_reducible repeat (first | apply Kd.R_alloc | apply Kd.R_drewN | apply Kd.R_drew)); exact HO301.out⟩, ⟨by repeat (first | (with_reducible first | exact HI287.out | apply IsS27.alloc | apply IsS27.drewN | apply IsS27.drew | apply IsS27.set_0) | exact HI287.out)⟩, ⟨by repeat (first | (with_reducible first | exact HB.out | apply below_alloc | apply pw_below_drewN | apply below_drew1 | refine below_set ?_ (IsS27.ge HI287.out)) | exact HB.out)⟩⟩
              · rw [if_neg c17] at H
                exact absurd H (by simp)
          · rw [if_neg c9] at H
            exact absurd H (by simp)
        · rw [if_neg c8] at H
          have c8b0 : decide (x5_1 < (l0_1.length : Int)) = false := decide_eq_false c8
          clear c8
          simp only [Option.some.injEq, Prod.mk.injEq] at H
          obtain ⟨rfl, rfl⟩ := H
          obtain ⟨ASz20_1, cSz20_1, HGz20, hgz20, HSz20_1⟩ := HI287.out
          have hcz20_0 := cellS27_0 HGz20
          have hcz20_1 := cellS27_1 HGz20
          have hfz20_0 := blk_frozen HGz20 0
          clear HGz20 hgz20
          go_wp2
          go_ret2
          exact ⟨_, by first | rfl | (simp [errW_none, errW_some] <;> rfl) | (simp [*, errW_none, errW_some] <;> rfl), by (with_reducible repeat (first | apply Kd.R_alloc | apply Kd.R_drewN | apply Kd.R_drew)); exact HO_4.out, by repeat (first | (with_reducible first | exact HB.out | apply below_alloc | apply pw_below_drewN | apply below_drew1 | refine below_set ?_ (IsS27.ge HI287.out)) | exact HB.out)⟩
  · replace c3 := Bool.eq_false_iff.mpr c3
    subst c3
    have H1 : (some (([] : List Int), false)) = some (r1, r2) := by rw [if_neg (show ¬ (false = true) by decide)] at H; exact H
    clear H
    have H := H1
    clear H1
    simp only [Option.some.injEq, Prod.mk.injEq] at H
    obtain ⟨rfl, rfl⟩ := H
    go_enter Try.func15, Try.ntmps15
    go_wp2_with (first | ((with_reducible refine gate_dst (N := 1) rfl ?_); refine box_event ?hg (N := 1) ?hd (cs := #[.int .i64 a0_0, .slice A0_1 l0_1.length c0_1]) (t := 27) ?hr ?_; (case hd => rfl); (case hg => rfl); (case hr => first | (go_simp; done) | (go_simp; rfl)); intro gb287 hg w21 hbox hb; have n0_ := Aside0.mk (below_step (by repeat (first | (with_reducible first | exact HB.out | apply below_alloc | apply pw_below_drewN | apply below_drew1) | exact HB.out)) hb); have n1_ := Aside0.mk ((by rw [hg]; exact (below_size (by repeat (first | (with_reducible first | exact HB.out | apply below_alloc | apply pw_below_drewN | apply below_drew1) | exact HB.out))) : w.heap.size ≤ gb287)); have n2_ := Aside0.mk ((by rw [hg]; exact (below_size (by repeat (first | (with_reducible first | exact HB.out | apply below_alloc | apply pw_below_drewN | apply below_drew1) | exact HB.out))) : w.heap.size ≤ gb287)); have n3_ := Aside0.mk ((⟨A0_1, c0_1, hbox, (by rw [hg]; exact (below_size (by repeat (first | (with_reducible first | exact HB.out | apply below_alloc | apply pw_below_drewN | apply below_drew1) | exact HB.out)))), HR0_1.out⟩ : IsS27 w w21 gb287 a0_0 l0_1)); clear HB; have HB := n0_; have GW287 := n1_; have GE287 := n2_; have HI287 := n3_; clear n0_ n1_ n2_ n3_; clear hb hbox hg) | ((with_reducible refine gate_callee (f := 38) rfl ?_); refine goesL_ (some 8) rfl rfl Try.func38 (by kernel_rfl) rfl #[.pointer (some ⟨gb287, 0, none⟩)] rfl (by (try simp only [List.map_toArray, List.map_cons, List.map_nil]); first | done | rfl | (simp only [List.length_drop, List.length_take]; rfl)) ?_; (with_reducible refine (spec_l09Yard.calls k gb287 a0_0 l0_1 false t289 w _ ?side1 ?side2 A2.out).mono ?_); (case side1 => repeat (first | (with_reducible first | exact HI287.out | apply IsS27.alloc | apply IsS27.drewN | apply IsS27.drew | apply IsS27.set_0) | exact HI287.out)); (case side2 => repeat (first | (with_reducible first | exact HB.out | apply below_alloc | apply pw_below_drewN | apply below_drew1 | refine below_set ?_ (IsS27.ge HI287.out)) | exact HB.out)); rintro e w22 ⟨rfl, hi, hb, hk⟩; refine ⟨_, rfl, ?_⟩; have n0_ := Aside0.mk (hb); have n1_ := Aside0.mk (hi); clear HB; clear HI287; have HB := n0_; have HI287 := n1_; clear n0_ n1_; (try clear hb); (try clear hb2); (try clear hk); (try clear hi)))
    go_ret2
    exact ⟨_, by first | rfl | (simp [errW_none, errW_some] <;> rfl) | (simp [*, errW_none, errW_some] <;> rfl), by first | exact Kd.R_nil _ _ _ _ _ | exact Kd.N_nil _ _ _ _ _ | exact Kd.V_nil _ _ _ _ _ | exact Kd.Q_nil _ _ _ _ _ | exact Kd.S_nil _ _ _ _ _, by repeat (first | (with_reducible first | exact HB.out | apply below_alloc | apply pw_below_drewN | apply below_drew1 | refine below_set ?_ (IsS27.ge HI287.out)) | exact HB.out)⟩

end Go.Proofs.Ytibaiaenfeppcaa.Q

-- mended

-- made by a patched copy of print.sh: this session's own
namespace Go.Proofs.Ytibaiaenfeppcaa.Q
open Go.RowKit Go.Proofs.YtibaiaenfeppcaaW.PrintWords Go.Proofs.YtibaiaenfeppcaaW.PrintLast Go.Proofs.YtibaiaenfeppcaaW.PrintMore
attribute [local go_sem] max2_int min2_int max_two min_two max_three min_three max_four min_four   -- for this text's walks alone
set_option linter.unusedVariables false
set_option linter.unusedSimpArgs false

/-! ### impl_ValidYard: function 13 -/
def impl_ValidYard.f (a0_0 : Int) (l0_1 : List (List Int)) : Option (Bool) := some (Yv.valid a0_0 l0_1)
theorem impl_ValidYard.calls (a0_0 : Int) (A0_1 : Option Addr) (c0_1 : Nat) (l0_1 : List (List Int)) (r : Bool) (w : World) (hr0_1 : Kd.C (Kd.slice 2 (Kd.int .i64)) w A0_1 l0_1.length l0_1) (hc0_1 : l0_1.length ≤ c0_1) (h : impl_ValidYard.f a0_0 l0_1 = some r) :
    Calls Try.prog 13 #[.agg #[.int .i64 a0_0, .slice A0_1 l0_1.length c0_1]] w fun e w' => e = .returned (.bool r) ∧ Below w.heap.size w w' := by
  obtain rfl := Option.some.inj h
  exact Yv.validYard_calls a0_0 A0_1 c0_1 l0_1 w hr0_1

end Go.Proofs.Ytibaiaenfeppcaa.Q

-- made by a patched copy of print.sh: this session's own
namespace Go.Proofs.Ytibaiaenfeppcaa.Q
open Go.RowKit Go.Proofs.YtibaiaenfeppcaaW.PrintWords Go.Proofs.YtibaiaenfeppcaaW.PrintLast Go.Proofs.YtibaiaenfeppcaaW.PrintMore
attribute [local go_sem] max2_int min2_int max_two min_two max_three min_three max_four min_four   -- for this text's walks alone
set_option linter.unusedVariables false
set_option linter.unusedSimpArgs false

/-! ### impl_TopsOf: function 16 -/
def impl_TopsOf.l0 : Nat → List Int → List (List Int) → Int → Int → Option (List Int × Bool)
  | 0, _, _, _, _ => none
  | k + 1, x4, x12, x13, x14 => if x14 < x13 then (if 0 ≤ x14 then (if x14 < (x12.length : Int) then (if ((rd_L1 x12 x14).length : Int) = 0 then (if x4.length < 17592186044416 then (impl_TopsOf.l0 k (x4 ++ [(-1)]) x12 x13 (wrap64 (x14 + 1))) else (none)) else (if 0 ≤ (wrap64 (((rd_L1 x12 x14).length : Int) - 1)) then (if (wrap64 (((rd_L1 x12 x14).length : Int) - 1)) < ((rd_L1 x12 x14).length : Int) then (if x4.length < 17592186044416 then (impl_TopsOf.l0 k (x4 ++ [rd (rd_L1 x12 x14) (wrap64 (((rd_L1 x12 x14).length : Int) - 1))]) x12 x13 (wrap64 (x14 + 1))) else (none)) else (none)) else (none))) else (none)) else (none)) else (some (x4, true))
def impl_TopsOf.f (k : Nat) (a0_0 : Int) (l0_1 : List (List Int)) : Option (List Int × Bool) := (impl_ValidYard.f a0_0 l0_1).bind fun t303 => (if t303 = true then (impl_TopsOf.l0 k (([] : List Int)) l0_1 (l0_1.length : Int) 0) else (some (([] : List Int), false)))
theorem impl_TopsOf.mono_l : ∀ k, (∀ y0 y1 y2 y3, LeO (impl_TopsOf.l0 k y0 y1 y2 y3) (impl_TopsOf.l0 (k + 1) y0 y1 y2 y3))
  | 0 => fun _ _ _ _ r h => by simp [impl_TopsOf.l0] at h
  | k + 1 => by
    have ih0 := impl_TopsOf.mono_l k
    · intro y0 y1 y2 y3
      unfold impl_TopsOf.l0
      repeat' first
      | (with_reducible exact ih0 _ _ _ _)
      | (with_reducible exact LeO.refl _)
      | (with_reducible exact LeO.none _)
      | (with_reducible refine LeO.ite ?_ ?_)
      | (with_reducible refine LeO.bind ?_ (fun _ => ?_))
      | exact ih0 _ _ _ _
      | exact LeO.none _
      | refine LeO.ite ?_ ?_
      | refine LeO.bind ?_ (fun _ => ?_)
theorem impl_TopsOf.mono : ∀ a0 a1 k, LeO (impl_TopsOf.f k a0 a1) (impl_TopsOf.f (k + 1) a0 a1) := by
  intro a0 a1 k
  have ih0 := impl_TopsOf.mono_l k
  unfold impl_TopsOf.f
  repeat' first
      | (with_reducible exact ih0 _ _ _ _)
      | (with_reducible exact LeO.refl _)
      | (with_reducible exact LeO.none _)
      | (with_reducible refine LeO.ite ?_ ?_)
      | (with_reducible refine LeO.bind ?_ (fun _ => ?_))
      | exact ih0 _ _ _ _
      | exact LeO.none _
      | refine LeO.ite ?_ ?_
      | refine LeO.bind ?_ (fun _ => ?_)
set_option maxHeartbeats 8000000 in
set_option maxRecDepth 100000 in
theorem impl_TopsOf.calls (k : Nat) (a0_0 : Int) (A0_1 : Option Addr) (c0_1 : Nat) (l0_1 : List (List Int)) (r1 : List Int) (r2 : Bool) (w : World) (hr0_1 : Kd.C (Kd.slice 2 (Kd.int .i64)) w A0_1 l0_1.length l0_1) (hc0_1 : l0_1.length ≤ c0_1) (h : impl_TopsOf.f k a0_0 l0_1 = some (r1, r2)) :
    Calls Try.prog 16 #[.agg #[.int .i64 a0_0, .slice A0_1 l0_1.length c0_1]] w fun e w' => ∃ v0_ : Value, e = .returned (.tuple #[v0_, .bool r2]) ∧ Kd.R (Kd.int .i64) 2 w' w.heap.size (fun _ => True) v0_ r1 ∧ Below w.heap.size w w' := by
  have hu27 := Try.underlying27
  have HR0_1 := Aside0.mk hr0_1
  have HC0_1 := Aside0.mk hc0_1
  clear hr0_1 hc0_1
  have HB := Aside0.mk (Below.refl w.heap.size w)
  have H : ((impl_ValidYard.f a0_0 l0_1).bind fun t303 => (if t303 = true then (impl_TopsOf.l0 k (([] : List Int)) l0_1 (l0_1.length : Int) 0) else (some (([] : List Int), false)))) = some (r1, r2) := h
  clear h
  replace H := Option.bind_eq_some_iff.mp H
  obtain ⟨t303, A20, H⟩ := H
  replace H : (if t303 = true then (impl_TopsOf.l0 k (([] : List Int)) l0_1 (l0_1.length : Int) 0) else (some (([] : List Int), false))) = some (r1, r2) := H
  have A2 := Aside0.mk A20
  clear A20
  by_cases c3 : t303 = true
  · subst c3
    have H1 : (impl_TopsOf.l0 k (([] : List Int)) l0_1 (l0_1.length : Int) 0) = some (r1, r2) := by rw [if_pos rfl] at H; exact H
    clear H
    have H := H1
    clear H1
    obtain ⟨y304, hy304⟩ : ∃ y_ : List Int, y_ = (([] : List Int)) := ⟨_, rfl⟩
    replace H : (impl_TopsOf.l0 k y304 l0_1 (l0_1.length : Int) 0) = some (r1, r2) := by first | (rw [hy304]; with_reducible exact H) | (have H2_ := (Option.bind_some _ _).symm.trans H; rw [hy304]; with_reducible exact H2_) | (have H2_ := (Option.bind_some _ _).symm.trans H; with_reducible exact H2_) | with_reducible exact H | (rw [hy304]; exact H) | exact H
    have Ny304 := Aside0.mk hy304
    clear hy304
    have H' := Aside0.mk H
    clear H
    go_enter Try.func16, Try.ntmps16
    go_wp2_with (first | ((with_reducible refine gate_dst (N := 1) rfl ?_); refine box_event ?hg (N := 1) ?hd (cs := #[.int .i64 a0_0, .slice A0_1 l0_1.length c0_1]) (t := 27) ?hr ?_; (case hd => rfl); (case hg => rfl); (case hr => first | (go_simp; done) | (go_simp; rfl)); intro gb302 hg w4 hbox hb; have n0_ := Aside0.mk (below_step (by repeat (first | (with_reducible first | exact HB.out | apply below_alloc | apply pw_below_drewN | apply below_drew1) | exact HB.out)) hb); have n1_ := Aside0.mk (hbox); have n2_ := Aside0.mk ((by rw [hg]; exact (below_size (by repeat (first | (with_reducible first | exact HB.out | apply below_alloc | apply pw_below_drewN | apply below_drew1) | exact HB.out))) : w.heap.size ≤ gb302)); have n3_ := Aside0.mk ((by rw [hg]; exact (below_size (by repeat (first | (with_reducible first | exact HB.out | apply below_alloc | apply pw_below_drewN | apply below_drew1) | exact HB.out))) : w.heap.size ≤ gb302)); clear HB; have HB := n0_; have BK302 := n1_; have GW302 := n2_; have GE302 := n3_; clear n0_ n1_ n2_ n3_; clear hb hbox hg; have hcz5_0 : w4.cell? ⟨gb302, 0, none⟩ = some (.int .i64 a0_0) := (blk_cell BK302.out 0).trans rfl; have hcz5_1 : w4.cell? ⟨gb302, 1, none⟩ = some (.slice A0_1 l0_1.length c0_1) := (blk_cell BK302.out 1).trans rfl; have hfz5_0 := blk_frozen BK302.out 0; have hfz5_1 := blk_frozen BK302.out 1) | ((with_reducible refine gate_callee (f := 13) rfl ?_); refine goesL_ (some 8) rfl rfl Try.func13 (by kernel_rfl) rfl #[.agg #[.int .i64 a0_0, .slice A0_1 l0_1.length c0_1]] rfl (by (try simp only [List.map_toArray, List.map_cons, List.map_nil]); first | done | rfl | (simp only [List.length_drop, List.length_take]; rfl)) ?_; (with_reducible refine (impl_ValidYard.calls a0_0 _ _ l0_1 true _ ?side1 ?side2 A2.out).mono ?_); (case side1 => repeat (first | exact (Kd.C_below HR0_1.out HB.out) | (with_reducible refine Kd.C_alloc ?_ _) | (with_reducible refine Kd.C_drewN ?_ _) | (with_reducible refine Kd.C_drew ?_))); (case side2 => exact HC0_1.out); rintro e w6 ⟨rfl, hb⟩; refine ⟨_, rfl, ?_⟩; have n0_ := Aside0.mk (blk_below (g := gb302) (o := .cells #[.int .i64 a0_0, .slice A0_1 l0_1.length c0_1] 27 (0, 0)) (by (with_reducible repeat (first | refine blk_drewN ?_ _ | refine blk_drew ?_ | refine blk_alloc ?_ _)); exact BK302.out) hb); have n1_ := Aside0.mk (below_step (by repeat (first | (with_reducible first | exact HB.out | apply below_alloc | apply pw_below_drewN | apply below_drew1 | refine below_set ?_ GE302.out) | exact HB.out)) hb); clear BK302; clear HB; have BK302 := n0_; have HB := n1_; clear n0_ n1_; (try clear hb); (try clear hb2); (try clear hk); (try clear hi)) | ((with_reducible refine gate_dst (N := 10) rfl ?_); refine Kd.R_lit (Kd.int .i64) _ 2 ?hg (N := 10) ?hd (xs := ([] : List Int)) (inner := []) (ok := fun _ => True) (okp := fun _ => True) ?hr ?hp (fun _ hk => hk) trivial (Below.refl _ _) (Nat.le_refl _) (by simp) ?_; (case hd => rfl); (case hg => rfl); (case hr => first | (go_simp; done) | (go_simp; rfl)); (case hp => exact (Reps.none _ _)); intro v305 w7 ho8 hb hg_ hnew_; clear hg_ hnew_; (first | rw [← Ny304.out] at ho8 | (simp only [Int.reduceToNat] at ho8; rw [← Ny304.out] at ho8)); have n0_ := Aside0.mk (Kd.R_lower ho8 (below_size (by repeat (first | (with_reducible first | exact HB.out | apply below_alloc | apply pw_below_drewN | apply below_drew1 | refine below_set ?_ GE302.out) | exact HB.out)))); have n1_ := Aside0.mk (blk_below (g := gb302) (o := .cells #[.int .i64 a0_0, .slice A0_1 l0_1.length c0_1] 27 (0, 0)) (by (with_reducible repeat (first | refine blk_drewN ?_ _ | refine blk_drew ?_ | refine blk_alloc ?_ _)); exact BK302.out) hb); have n2_ := Aside0.mk (below_step (by repeat (first | (with_reducible first | exact HB.out | apply below_alloc | apply pw_below_drewN | apply below_drew1 | refine below_set ?_ GE302.out) | exact HB.out)) hb); clear BK302; clear HB; have HO306 := n0_; have BK302 := n1_; have HB := n2_; clear n0_ n1_ n2_; clear hb ho8; have hcz9_0 : w7.cell? ⟨gb302, 0, none⟩ = some (.int .i64 a0_0) := (blk_cell BK302.out 0).trans rfl; have hcz9_1 : w7.cell? ⟨gb302, 1, none⟩ = some (.slice A0_1 l0_1.length c0_1) := (blk_cell BK302.out 1).trans rfl; have hfz9_0 := blk_frozen BK302.out 0; have hfz9_1 := blk_frozen BK302.out 1))
    go_loopg [4, 14] k (fun kq v4 v14 w' => ∃ (x4_1 : List Int) (x14_1 : Int), v14 = .int .i64 x14_1 ∧ Aside0 (impl_TopsOf.l0 kq x4_1 l0_1 (l0_1.length : Int) x14_1 = some (r1, r2)) ∧ Aside0 (kq ≤ k) ∧ Aside0 (Kd.R (Kd.int .i64) 2 w' w.heap.size (fun _ => True) v4 x4_1) ∧ Aside0 (w'.heap[gb302]? = some (.cells #[.int .i64 a0_0, (.slice A0_1 l0_1.length c0_1)] 27 (0, 0))) ∧ Aside0 (Below w.heap.size w w'))
    case atStart => exact ⟨(y304), (0), (by first | rfl | (simp; done) | (simp [*]; done)), H', ⟨Nat.le_refl _⟩, ⟨by (with_reducible repeat (first | apply Kd.R_alloc | apply Kd.R_drewN | apply Kd.R_drew)); exact HO306.out⟩, ⟨by (with_reducible repeat (first | refine blk_drewN ?_ _ | refine blk_drew ?_ | refine blk_alloc ?_ _)); exact BK302.out⟩, ⟨by repeat (first | (with_reducible first | exact HB.out | apply below_alloc | apply pw_below_drewN | apply below_drew1 | refine below_set ?_ GE302.out) | exact HB.out)⟩⟩
    case round =>
      clear H'
      try clear c1
      try clear p2
      try clear c3
      try clear hcz5_0
      try clear hcz5_1
      try clear hcz9_0
      try clear hcz9_1
      try clear hfz5_0
      try clear hfz5_1
      try clear hfz9_0
      try clear hfz9_1
      obtain ⟨x4_1, x14_1, rfl, HA, HK1, HO_4, BK302, HB⟩ := hrel
      cases gk with
      | zero => exact absurd HA.out (by simp [impl_TopsOf.l0])
      | succ k1 =>
        have H := HA.out
        clear HA
        simp only [impl_TopsOf.l0] at H
        by_cases c10 : x14_1 < (l0_1.length : Int)
        · rw [if_pos c10] at H
          have c10b0 : decide (x14_1 < (l0_1.length : Int)) = true := decide_eq_true c10
          clear c10
          by_cases c11 : 0 ≤ x14_1
          · rw [if_pos c11] at H
            have c11b0 : decide (0 ≤ x14_1) = true := decide_eq_true c11
            clear c11
            by_cases c12 : x14_1 < (l0_1.length : Int)
            · rw [if_pos c12] at H
              have c12b0 : decide (x14_1 < (l0_1.length : Int)) = true := decide_eq_true c12
              clear c12
              by_cases c13 : ((rd_L1 l0_1 x14_1).length : Int) = 0
              · rw [if_pos c13] at H
                have c13b0 : (((rd_L1 l0_1 x14_1).length : Int) == 0) = true := beq_iff_eq.mpr c13
                have c13b1 : (((rd_L1 l0_1 x14_1).length : Int) != 0) = false := bne_eq_false_iff_eq.mpr c13
                clear c13
                by_cases c14 : x4_1.length < 17592186044416
                · rw [if_pos c14] at H
                  have LMc14 := Aside0.mk c14
                  clear c14
                  obtain ⟨y308, hy308⟩ : ∃ y_ : List Int, y_ = (x4_1 ++ [(-1)]) := ⟨_, rfl⟩
                  replace H : (impl_TopsOf.l0 k1 y308 l0_1 (l0_1.length : Int) (wrap64 (x14_1 + 1))) = some (r1, r2) := by first | (rw [hy308]; with_reducible exact H) | (have H2_ := (Option.bind_some _ _).symm.trans H; rw [hy308]; with_reducible exact H2_) | (have H2_ := (Option.bind_some _ _).symm.trans H; with_reducible exact H2_) | with_reducible exact H | (rw [hy308]; exact H) | exact H
                  have Ny308 := Aside0.mk hy308
                  clear hy308
                  have H' := Aside0.mk H
                  clear H
                  have p307 : 0 ≤ (x14_1 : Int) := of_decide_eq_true (by first | (with_reducible assumption) | assumption)
                  have q307 : x14_1 < (l0_1.length : Int) := of_decide_eq_true (by first | (with_reducible assumption) | assumption)
                  obtain ⟨ad307, A307_0, c307_0, e307, hx307_0, hl307_0, hi307_0⟩ := at_L1 HR0_1.out x14_1 p307 q307
                  cases e307
                  replace hx307_0 := (HB.out.cell (World.block_lt_of_cell? w _ hx307_0)).trans hx307_0
                  have HR307_0 := Aside0.mk hi307_0
                  have HC307_0 := Aside0.mk hl307_0
                  clear hi307_0 hl307_0
                  replace p307 := eq_true p307
                  replace q307 := eq_true q307
                  go_wp2_with (first | ((with_reducible refine gate_builtin (b := .append) (xs := #[.tmp 21, .tmp 22]) rfl ?_); at_builtin; refine Kd.R_append (Kd.int .i64) (w0 := w) w.heap.size rfl (.tmp 21) (.tmp 22) 31 2 (.int .i64 0) 8 rfl Try.underlying31 info2 rfl (by decide) (by omega) u4 x4_1 (-1) [.int .i64 (-1)] (fun _ => True) (fun _ => False) rfl rfl ?aP (fun _ hk => hk.elim) ?aF ?aO ?aB ?aS ?aL ?_; (case aP => exact rfl); (case aB => exact (by repeat (first | (with_reducible first | exact HB.out | apply below_alloc | apply pw_below_drewN | apply below_drew1 | refine below_set ?_ GE302.out) | exact HB.out))); (case aF => exact (fun _ _ => trivial)); (case aO => exact (by (with_reducible repeat (first | apply Kd.R_alloc | apply Kd.R_drewN | apply Kd.R_drew)); exact HO_4.out)); (case aS => exact (below_size (by repeat (first | (with_reducible first | exact HB.out | apply below_alloc | apply pw_below_drewN | apply below_drew1 | refine below_set ?_ GE302.out) | exact HB.out)))); (case aL => have := LMc14.out; omega); intro v309 w15 ho hb hg hat; rw [← Ny308.out] at ho; have n0_ := Aside0.mk (blk_grown (g := gb302) (o := .cells #[.int .i64 a0_0, .slice (some ad307) l0_1.length c0_1] 27 (0, 0)) (by (with_reducible repeat (first | refine blk_drewN ?_ _ | refine blk_drew ?_ | refine blk_alloc ?_ _)); exact BK302.out) hg (Kd.R_ne HO_4.out BK302.out (by decide))); have n1_ := Aside0.mk (hb); have n2_ := Aside0.mk (ho); clear BK302; clear HB; clear HO_4; have BK302 := n0_; have HB := n1_; have HO310 := n2_; clear n0_ n1_ n2_; clear ho hb hg hat))
                  go_roundg k1
                  case measure => have := HK1.out; omega
                  case rel => exact ⟨(y308), (wrap64 (x14_1 + 1)), (by first | rfl | (simp; done) | (simp [*]; done)), H', ⟨by have := HK1.out; omega⟩, ⟨by (with_reducible repeat (first | apply Kd.R_alloc | apply Kd.R_drewN | apply Kd.R_drew)); exact HO310.out⟩, ⟨by (with_reducible repeat (first | refine blk_drewN ?_ _ | refine blk_drew ?_ | refine blk_alloc ?_ _)); exact BK302.out⟩, ⟨by repeat (first | (with_reducible first | exact HB.out | apply below_alloc | apply pw_below_drewN | apply below_drew1 | refine below_set ?_ GE302.out) | exact HB.out)⟩⟩
                · rw [if_neg c14] at H
                  exact absurd H (by simp)
              · rw [if_neg c13] at H
                have c13b0 : (((rd_L1 l0_1 x14_1).length : Int) == 0) = false := beq_eq_false_iff_ne.mpr c13
                have c13b1 : (((rd_L1 l0_1 x14_1).length : Int) != 0) = true := bne_iff_ne.mpr c13
                have c13b2 : ¬ ((rd_L1 l0_1 x14_1) = []) := fun h_ => c13 (by rw [h_]; rfl)
                obtain ⟨ji16, hji16⟩ : ∃ j_ : Int, (wrap64 (((rd_L1 l0_1 x14_1).length : Int) - 1)) = j_ := ⟨_, rfl⟩
                replace H : (if 0 ≤ (ji16) then (if (ji16) < ((rd_L1 l0_1 x14_1).length : Int) then (if x4_1.length < 17592186044416 then (impl_TopsOf.l0 k1 (x4_1 ++ [rd (rd_L1 l0_1 x14_1) (ji16)]) l0_1 (l0_1.length : Int) (wrap64 (x14_1 + 1))) else (none)) else (none)) else (none)) = some (r1, r2) := by first | (rw [hji16] at H; exact H) | (simp only [hji16] at H ⊢; exact H)
                have hji16w : (IntKind.i64.wrap (((rd_L1 l0_1 x14_1).length : Int) - 1)) = ji16 := (i64_w _).trans hji16
                by_cases c17 : 0 ≤ (ji16)
                · rw [if_pos c17] at H
                  have c17b0 : decide (0 ≤ (ji16)) = true := decide_eq_true c17
                  clear c17
                  by_cases c18 : (ji16) < ((rd_L1 l0_1 x14_1).length : Int)
                  · rw [if_pos c18] at H
                    have c18b0 : decide ((ji16) < ((rd_L1 l0_1 x14_1).length : Int)) = true := decide_eq_true c18
                    clear c18
                    by_cases c19 : x4_1.length < 17592186044416
                    · rw [if_pos c19] at H
                      have LMc19 := Aside0.mk c19
                      clear c19
                      obtain ⟨y312, hy312⟩ : ∃ y_ : List Int, y_ = (x4_1 ++ [rd (rd_L1 l0_1 x14_1) (ji16)]) := ⟨_, rfl⟩
                      replace H : (impl_TopsOf.l0 k1 y312 l0_1 (l0_1.length : Int) (wrap64 (x14_1 + 1))) = some (r1, r2) := by first | (rw [hy312]; with_reducible exact H) | (have H2_ := (Option.bind_some _ _).symm.trans H; rw [hy312]; with_reducible exact H2_) | (have H2_ := (Option.bind_some _ _).symm.trans H; with_reducible exact H2_) | with_reducible exact H | (rw [hy312]; exact H) | exact H
                      have Ny312 := Aside0.mk hy312
                      clear hy312
                      have H' := Aside0.mk H
                      clear H
                      have p307 : 0 ≤ (x14_1 : Int) := of_decide_eq_true (by first | (with_reducible assumption) | assumption)
                      have q307 : x14_1 < (l0_1.length : Int) := of_decide_eq_true (by first | (with_reducible assumption) | assumption)
                      obtain ⟨ad307, A307_0, c307_0, e307, hx307_0, hl307_0, hi307_0⟩ := at_L1 HR0_1.out x14_1 p307 q307
                      cases e307
                      replace hx307_0 := (HB.out.cell (World.block_lt_of_cell? w _ hx307_0)).trans hx307_0
                      have HR307_0 := Aside0.mk hi307_0
                      have HC307_0 := Aside0.mk hl307_0
                      clear hi307_0 hl307_0
                      replace p307 := eq_true p307
                      replace q307 := eq_true q307
                      have p311 : 0 ≤ ((ji16) : Int) := of_decide_eq_true (by first | (with_reducible assumption) | assumption)
                      have q311 : (ji16) < ((rd_L1 l0_1 x14_1).length : Int) := of_decide_eq_true (by first | (with_reducible assumption) | assumption)
                      obtain ⟨ad311, e311, hx311_0⟩ := Kd.at_int HR307_0.out (ji16) p311 q311
                      cases e311
                      replace hx311_0 := (HB.out.cell (World.block_lt_of_cell? w _ hx311_0)).trans hx311_0
                      replace p311 := eq_true p311
                      replace q311 := eq_true q311
                      go_wp2_with (first | ((with_reducible refine gate_builtin (b := .append) (xs := #[.tmp 24, .tmp 31]) rfl ?_); at_builtin; refine Kd.R_append (Kd.int .i64) (w0 := w) w.heap.size rfl (.tmp 24) (.tmp 31) 31 2 (.int .i64 0) 8 rfl Try.underlying31 info2 rfl (by decide) (by omega) u4 x4_1 (rd (rd_L1 l0_1 x14_1) (ji16)) [.int .i64 (rd (rd_L1 l0_1 x14_1) (ji16))] (fun _ => True) (fun _ => False) rfl rfl ?aP (fun _ hk => hk.elim) ?aF ?aO ?aB ?aS ?aL ?_; (case aP => exact rfl); (case aB => exact (by repeat (first | (with_reducible first | exact HB.out | apply below_alloc | apply pw_below_drewN | apply below_drew1 | refine below_set ?_ GE302.out) | exact HB.out))); (case aF => exact (fun _ _ => trivial)); (case aO => exact (by (with_reducible repeat (first | apply Kd.R_alloc | apply Kd.R_drewN | apply Kd.R_drew)); exact HO_4.out)); (case aS => exact (below_size (by repeat (first | (with_reducible first | exact HB.out | apply below_alloc | apply pw_below_drewN | apply below_drew1 | refine below_set ?_ GE302.out) | exact HB.out)))); (case aL => have := LMc19.out; omega); intro v313 w20 ho hb hg hat; rw [← Ny312.out] at ho; have n0_ := Aside0.mk (blk_grown (g := gb302) (o := .cells #[.int .i64 a0_0, .slice (some ad307) l0_1.length c0_1] 27 (0, 0)) (by (with_reducible repeat (first | refine blk_drewN ?_ _ | refine blk_drew ?_ | refine blk_alloc ?_ _)); exact BK302.out) hg (Kd.R_ne HO_4.out BK302.out (by decide))); have n1_ := Aside0.mk (hb); have n2_ := Aside0.mk (ho); clear BK302; clear HB; clear HO_4; have BK302 := n0_; have HB := n1_; have HO314 := n2_; clear n0_ n1_ n2_; clear ho hb hg hat))
                      go_roundg k1
                      case measure => have := HK1.out; omega
                      case rel => exact ⟨(y312), (wrap64 (x14_1 + 1)), (by first | rfl | (simp; done) | (simp [*]; done)), H', ⟨by have := HK1.out; omega⟩, ⟨by (with_reducible repeat (first | apply Kd.R_alloc | apply Kd.R_drewN | apply Kd.R_drew)); exact HO314.out⟩, ⟨by (with_reducible repeat (first | refine blk_drewN ?_ _ | refine blk_drew ?_ | refine blk_alloc ?_ _)); exact BK302.out⟩, ⟨by repeat (first | (with_reducible first | exact HB.out | apply below_alloc | apply pw_below_drewN | apply below_drew1 | refine below_set ?_ GE302.out) | exact HB.out)⟩⟩
                    · rw [if_neg c19] at H
                      exact absurd H (by simp)
                  · rw [if_neg c18] at H
                    exact absurd H (by simp)
                · rw [if_neg c17] at H
                  exact absurd H (by simp)
            · rw [if_neg c12] at H
              exact absurd H (by simp)
          · rw [if_neg c11] at H
            exact absurd H (by simp)
        · rw [if_neg c10] at H
          have c10b0 : decide (x14_1 < (l0_1.length : Int)) = false := decide_eq_false c10
          clear c10
          simp only [Option.some.injEq, Prod.mk.injEq] at H
          obtain ⟨rfl, rfl⟩ := H
          go_wp2
          go_ret2
          exact ⟨_, by first | rfl | (simp [errW_none, errW_some] <;> rfl) | (simp [*, errW_none, errW_some] <;> rfl), by (with_reducible repeat (first | apply Kd.R_alloc | apply Kd.R_drewN | apply Kd.R_drew)); exact HO_4.out, by repeat (first | (with_reducible first | exact HB.out | apply below_alloc | apply pw_below_drewN | apply below_drew1 | refine below_set ?_ GE302.out) | exact HB.out)⟩
  · replace c3 := Bool.eq_false_iff.mpr c3
    subst c3
    have H1 : (some (([] : List Int), false)) = some (r1, r2) := by rw [if_neg (show ¬ (false = true) by decide)] at H; exact H
    clear H
    have H := H1
    clear H1
    simp only [Option.some.injEq, Prod.mk.injEq] at H
    obtain ⟨rfl, rfl⟩ := H
    go_enter Try.func16, Try.ntmps16
    go_wp2_with (first | ((with_reducible refine gate_dst (N := 1) rfl ?_); refine box_event ?hg (N := 1) ?hd (cs := #[.int .i64 a0_0, .slice A0_1 l0_1.length c0_1]) (t := 27) ?hr ?_; (case hd => rfl); (case hg => rfl); (case hr => first | (go_simp; done) | (go_simp; rfl)); intro gb302 hg w21 hbox hb; have n0_ := Aside0.mk (below_step (by repeat (first | (with_reducible first | exact HB.out | apply below_alloc | apply pw_below_drewN | apply below_drew1) | exact HB.out)) hb); have n1_ := Aside0.mk (hbox); have n2_ := Aside0.mk ((by rw [hg]; exact (below_size (by repeat (first | (with_reducible first | exact HB.out | apply below_alloc | apply pw_below_drewN | apply below_drew1) | exact HB.out))) : w.heap.size ≤ gb302)); have n3_ := Aside0.mk ((by rw [hg]; exact (below_size (by repeat (first | (with_reducible first | exact HB.out | apply below_alloc | apply pw_below_drewN | apply below_drew1) | exact HB.out))) : w.heap.size ≤ gb302)); clear HB; have HB := n0_; have BK302 := n1_; have GW302 := n2_; have GE302 := n3_; clear n0_ n1_ n2_ n3_; clear hb hbox hg; have hcz22_0 : w21.cell? ⟨gb302, 0, none⟩ = some (.int .i64 a0_0) := (blk_cell BK302.out 0).trans rfl; have hcz22_1 : w21.cell? ⟨gb302, 1, none⟩ = some (.slice A0_1 l0_1.length c0_1) := (blk_cell BK302.out 1).trans rfl; have hfz22_0 := blk_frozen BK302.out 0; have hfz22_1 := blk_frozen BK302.out 1) | ((with_reducible refine gate_callee (f := 13) rfl ?_); refine goesL_ (some 8) rfl rfl Try.func13 (by kernel_rfl) rfl #[.agg #[.int .i64 a0_0, .slice A0_1 l0_1.length c0_1]] rfl (by (try simp only [List.map_toArray, List.map_cons, List.map_nil]); first | done | rfl | (simp only [List.length_drop, List.length_take]; rfl)) ?_; (with_reducible refine (impl_ValidYard.calls a0_0 _ _ l0_1 false _ ?side1 ?side2 A2.out).mono ?_); (case side1 => repeat (first | exact (Kd.C_below HR0_1.out HB.out) | (with_reducible refine Kd.C_alloc ?_ _) | (with_reducible refine Kd.C_drewN ?_ _) | (with_reducible refine Kd.C_drew ?_))); (case side2 => exact HC0_1.out); rintro e w23 ⟨rfl, hb⟩; refine ⟨_, rfl, ?_⟩; have n0_ := Aside0.mk (blk_below (g := gb302) (o := .cells #[.int .i64 a0_0, .slice A0_1 l0_1.length c0_1] 27 (0, 0)) (by (with_reducible repeat (first | refine blk_drewN ?_ _ | refine blk_drew ?_ | refine blk_alloc ?_ _)); exact BK302.out) hb); have n1_ := Aside0.mk (below_step (by repeat (first | (with_reducible first | exact HB.out | apply below_alloc | apply pw_below_drewN | apply below_drew1 | refine below_set ?_ GE302.out) | exact HB.out)) hb); clear BK302; clear HB; have BK302 := n0_; have HB := n1_; clear n0_ n1_; (try clear hb); (try clear hb2); (try clear hk); (try clear hi)))
    go_ret2
    exact ⟨_, by first | rfl | (simp [errW_none, errW_some] <;> rfl) | (simp [*, errW_none, errW_some] <;> rfl), by first | exact Kd.R_nil _ _ _ _ _ | exact Kd.N_nil _ _ _ _ _ | exact Kd.V_nil _ _ _ _ _ | exact Kd.Q_nil _ _ _ _ _ | exact Kd.S_nil _ _ _ _ _, by repeat (first | (with_reducible first | exact HB.out | apply below_alloc | apply pw_below_drewN | apply below_drew1 | refine below_set ?_ GE302.out) | exact HB.out)⟩

end Go.Proofs.Ytibaiaenfeppcaa.Q

-- made by a patched copy of print.sh: this session's own
namespace Go.Proofs.Ytibaiaenfeppcaa.Q
open Go.RowKit Go.Proofs.YtibaiaenfeppcaaW.PrintWords Go.Proofs.YtibaiaenfeppcaaW.PrintLast Go.Proofs.YtibaiaenfeppcaaW.PrintMore
attribute [local go_sem] max2_int min2_int max_two min_two max_three min_three max_four min_four   -- for this text's walks alone
set_option linter.unusedVariables false
set_option linter.unusedSimpArgs false

/-! ### spec_l00Put: function 74 -/
mutual
def spec_l00Put.l0 : Nat → List Int → Int → List Int → Bool → Int → Option (List Int)
  | 0, _, _, _, _, _ => none
  | k + 1, x0, x1, x5, x6, x7 => if x7 < (x0.length : Int) then (if x6 = true then (spec_l00Put.j1 k x0 x1 x5 x6 x7 false) else (if 0 ≤ x7 then (spec_l00Put.j1 k x0 x1 x5 x6 x7 (decide ((rd x0 x7) ≥ x1))) else (none))) else (if x6 = true then (some x5) else (if x5.length < 17592186044416 then (some (x5 ++ [x1])) else (none)))
def spec_l00Put.j1 : Nat → List Int → Int → List Int → Bool → Int → Bool → Option (List Int)
  | 0, _, _, _, _, _, _ => none
  | k + 1, x0, x1, x5, x6, x7, x24 => if x24 = true then (if 0 ≤ x7 then (if x7 < (x0.length : Int) then (if (rd x0 x7) > x1 then (if x5.length < 17592186044416 then ((some (x5 ++ [x1] : List Int)).bind fun y506 => (if y506.length < 17592186044416 then (spec_l00Put.l0 k x0 x1 (y506 ++ [rd x0 x7]) true (wrap64 (x7 + 1))) else (none))) else (none)) else (if x5.length < 17592186044416 then (spec_l00Put.l0 k x0 x1 (x5 ++ [rd x0 x7]) true (wrap64 (x7 + 1))) else (none))) else (none)) else (none)) else (if 0 ≤ x7 then (if x7 < (x0.length : Int) then (if x5.length < 17592186044416 then (spec_l00Put.l0 k x0 x1 (x5 ++ [rd x0 x7]) x6 (wrap64 (x7 + 1))) else (none)) else (none)) else (none))
end
def spec_l00Put.f (k : Nat) (l0 : List Int) (a1 : Int) : Option (List Int) := spec_l00Put.l0 k l0 a1 (([] : List Int)) false 0
theorem spec_l00Put.mono_l : ∀ k, (∀ y0 y1 y2 y3 y4, LeO (spec_l00Put.l0 k y0 y1 y2 y3 y4) (spec_l00Put.l0 (k + 1) y0 y1 y2 y3 y4)) ∧ (∀ y0 y1 y2 y3 y4 y5, LeO (spec_l00Put.j1 k y0 y1 y2 y3 y4 y5) (spec_l00Put.j1 (k + 1) y0 y1 y2 y3 y4 y5))
  | 0 => ⟨fun _ _ _ _ _ r h => by simp [spec_l00Put.l0] at h, fun _ _ _ _ _ _ r h => by simp [spec_l00Put.j1] at h⟩
  | k + 1 => by
    obtain ⟨ih0, ih1⟩ := spec_l00Put.mono_l k
    refine ⟨?_, ?_⟩
    · intro y0 y1 y2 y3 y4
      unfold spec_l00Put.l0
      repeat' first
      | (with_reducible exact ih0 _ _ _ _ _)
      | (with_reducible exact ih1 _ _ _ _ _ _)
      | (with_reducible exact LeO.refl _)
      | (with_reducible exact LeO.none _)
      | (with_reducible refine LeO.ite ?_ ?_)
      | (with_reducible refine LeO.bind ?_ (fun _ => ?_))
      | exact ih0 _ _ _ _ _
      | exact ih1 _ _ _ _ _ _
      | exact LeO.none _
      | refine LeO.ite ?_ ?_
      | refine LeO.bind ?_ (fun _ => ?_)
    · intro y0 y1 y2 y3 y4 y5
      unfold spec_l00Put.j1
      repeat' first
      | (with_reducible exact ih0 _ _ _ _ _)
      | (with_reducible exact ih1 _ _ _ _ _ _)
      | (with_reducible exact LeO.refl _)
      | (with_reducible exact LeO.none _)
      | (with_reducible refine LeO.ite ?_ ?_)
      | (with_reducible refine LeO.bind ?_ (fun _ => ?_))
      | exact ih0 _ _ _ _ _
      | exact ih1 _ _ _ _ _ _
      | exact LeO.none _
      | refine LeO.ite ?_ ?_
      | refine LeO.bind ?_ (fun _ => ?_)
theorem spec_l00Put.mono : ∀ a0 a1 k, LeO (spec_l00Put.f k a0 a1) (spec_l00Put.f (k + 1) a0 a1) := by
  intro a0 a1 k
  obtain ⟨ih0, ih1⟩ := spec_l00Put.mono_l k
  unfold spec_l00Put.f
  repeat' first
      | (with_reducible exact ih0 _ _ _ _ _)
      | (with_reducible exact ih1 _ _ _ _ _ _)
      | (with_reducible exact LeO.refl _)
      | (with_reducible exact LeO.none _)
      | (with_reducible refine LeO.ite ?_ ?_)
      | (with_reducible refine LeO.bind ?_ (fun _ => ?_))
      | exact ih0 _ _ _ _ _
      | exact ih1 _ _ _ _ _ _
      | exact LeO.none _
      | refine LeO.ite ?_ ?_
      | refine LeO.bind ?_ (fun _ => ?_)
set_option maxHeartbeats 8000000 in
set_option maxRecDepth 100000 in
theorem spec_l00Put.calls (k : Nat) (A0 : Option Addr) (c0 : Nat) (l0 : List Int) (a1 : Int) (r : List Int) (w : World) (hr0 : Kd.C (Kd.int .i64) w A0 l0.length l0) (hc0 : l0.length ≤ c0) (h : spec_l00Put.f k l0 a1 = some r) :
    Calls Try.prog 74 #[.slice A0 l0.length c0, .int .i64 a1] w fun e w' => ∃ v0_ : Value, e = .returned (v0_) ∧ Kd.R (Kd.int .i64) 2 w' w.heap.size (fun _ => True) v0_ r ∧ Below w.heap.size w w' := by
  have HR0 := Aside0.mk hr0
  have HC0 := Aside0.mk hc0
  clear hr0 hc0
  have HB := Aside0.mk (Below.refl w.heap.size w)
  have H : (spec_l00Put.l0 k l0 a1 (([] : List Int)) false 0) = some r := h
  clear h
  obtain ⟨y498, hy498⟩ : ∃ y_ : List Int, y_ = (([] : List Int)) := ⟨_, rfl⟩
  replace H : (spec_l00Put.l0 k l0 a1 y498 false 0) = some r := by first | (rw [hy498]; with_reducible exact H) | (have H2_ := (Option.bind_some _ _).symm.trans H; rw [hy498]; with_reducible exact H2_) | (have H2_ := (Option.bind_some _ _).symm.trans H; with_reducible exact H2_) | with_reducible exact H | (rw [hy498]; exact H) | exact H
  have Ny498 := Aside0.mk hy498
  clear hy498
  have H' := Aside0.mk H
  clear H
  go_enter Try.func74, Try.ntmps74
  go_wp2_with (first | ((with_reducible refine gate_dst (N := 8) rfl ?_); refine Kd.R_lit (Kd.int .i64) _ 2 ?hg (N := 8) ?hd (xs := ([] : List Int)) (inner := []) (ok := fun _ => True) (okp := fun _ => True) ?hr ?hp (fun _ hk => hk) trivial (Below.refl _ _) (Nat.le_refl _) (by simp) ?_; (case hd => rfl); (case hg => rfl); (case hr => first | (go_simp; done) | (go_simp; rfl)); (case hp => exact (Reps.none _ _)); intro v499 w3 ho4 hb hg_ hnew_; clear hg_ hnew_; (first | rw [← Ny498.out] at ho4 | (simp only [Int.reduceToNat] at ho4; rw [← Ny498.out] at ho4)); have n0_ := Aside0.mk (Kd.R_lower ho4 (below_size (by repeat (first | (with_reducible first | exact HB.out | apply below_alloc | apply pw_below_drewN | apply below_drew1) | exact HB.out)))); have n1_ := Aside0.mk (below_step (by repeat (first | (with_reducible first | exact HB.out | apply below_alloc | apply pw_below_drewN | apply below_drew1) | exact HB.out)) hb); clear HB; have HO500 := n0_; have HB := n1_; clear n0_ n1_; clear hb ho4))
  go_loopg [5, 6, 7] k (fun kq v5 v6 v7 w' => ∃ (x5_1 : List Int) (x6_1 : Bool) (x7_1 : Int), v6 = .bool x6_1 ∧ v7 = .int .i64 x7_1 ∧ Aside0 (spec_l00Put.l0 kq l0 a1 x5_1 x6_1 x7_1 = some r) ∧ Aside0 (kq ≤ k) ∧ Aside0 (Kd.R (Kd.int .i64) 2 w' w.heap.size (fun _ => True) v5 x5_1) ∧ Aside0 (Below w.heap.size w w'))
  case atStart => exact ⟨(y498), (false), (0), (by first | rfl | (simp; done) | (simp [*]; done)), (by first | rfl | (simp; done) | (simp [*]; done)), H', ⟨Nat.le_refl _⟩, ⟨by (with_reducible repeat (first | apply Kd.R_alloc | apply Kd.R_drewN | apply Kd.R_drew)); exact HO500.out⟩, ⟨by repeat (first | (with_reducible first | exact HB.out | apply below_alloc | apply pw_below_drewN | apply below_drew1) | exact HB.out)⟩⟩
  case round =>
    clear H'
    try clear p2
    obtain ⟨x5_1, x6_1, x7_1, rfl, rfl, HA, HK1, HO_5, HB⟩ := hrel
    cases gk with
    | zero => exact absurd HA.out (by simp [spec_l00Put.l0])
    | succ k1 =>
      have H := HA.out
      clear HA
      simp only [spec_l00Put.l0] at H
      by_cases c5 : x7_1 < (l0.length : Int)
      · rw [if_pos c5] at H
        have c5b0 : decide (x7_1 < (l0.length : Int)) = true := decide_eq_true c5
        clear c5
        have HC6 := Aside0.mk H
        clear H
        go_upto_region 6 with (fail)
        go_cut [24] (fun v24 wc => ∃ (kq : Nat) (x24_5 : Bool), v24 = .bool x24_5 ∧ Aside0 (spec_l00Put.j1 kq l0 a1 x5_1 x6_1 x7_1 x24_5 = some r) ∧ Aside0 (kq ≤ k1) ∧ Aside0 (Kd.R (Kd.int .i64) 2 wc w.heap.size (fun _ => True) u5 x5_1) ∧ Aside0 (Below w.heap.size w wc))
        case first =>
          have H := HC6.out
          clear HC6
          by_cases c7 : x6_1 = true
          · subst c7
            have H1 : (spec_l00Put.j1 k1 l0 a1 x5_1 true x7_1 false) = some r := by rw [if_pos rfl] at H; exact H
            clear H
            have H := H1
            clear H1
            have H' := Aside0.mk H
            clear H
            go_wp2
            go_meet
            case rel => exact ⟨_, (false), (by first | rfl | (simp; done) | (simp [*]; done)), H', ⟨by have := HK1.out; first | omega | exact Nat.le_refl _⟩, ⟨by (with_reducible repeat (first | apply Kd.R_alloc | apply Kd.R_drewN | apply Kd.R_drew)); exact HO_5.out⟩, ⟨by repeat (first | (with_reducible first | exact HB.out | apply below_alloc | apply pw_below_drewN | apply below_drew1) | exact HB.out)⟩⟩
          · replace c7 := Bool.eq_false_iff.mpr c7
            subst c7
            have H1 : (if 0 ≤ x7_1 then (spec_l00Put.j1 k1 l0 a1 x5_1 false x7_1 (decide ((rd l0 x7_1) ≥ a1))) else (none)) = some r := by rw [if_neg (show ¬ (false = true) by decide)] at H; exact H
            clear H
            have H := H1
            clear H1
            by_cases c8 : 0 ≤ x7_1
            · rw [if_pos c8] at H
              have c8b0 : decide (0 ≤ x7_1) = true := decide_eq_true c8
              clear c8
              (first | rw [c8b0] | (simp only [i64_w, i32_w]; rw [c8b0]) | skip)
              have H' := Aside0.mk H
              clear H
              have p504 : 0 ≤ (x7_1 : Int) := of_decide_eq_true (by first | (with_reducible assumption) | assumption)
              have q504 : x7_1 < (l0.length : Int) := of_decide_eq_true (by first | (with_reducible assumption) | assumption)
              obtain ⟨ad504, e504, hx504_0⟩ := Kd.at_int HR0.out x7_1 p504 q504
              cases e504
              replace hx504_0 := (HB.out.cell (World.block_lt_of_cell? w _ hx504_0)).trans hx504_0
              replace p504 := eq_true p504
              replace q504 := eq_true q504
              go_wp2
              go_meet
              case rel => exact ⟨_, (decide ((rd l0 x7_1) ≥ a1)), (by first | rfl | (simp; done) | (simp [*]; done)), H', ⟨by have := HK1.out; first | omega | exact Nat.le_refl _⟩, ⟨by (with_reducible repeat (first | apply Kd.R_alloc | apply Kd.R_drewN | apply Kd.R_drew)); exact HO_5.out⟩, ⟨by repeat (first | (with_reducible first | exact HB.out | apply below_alloc | apply pw_below_drewN | apply below_drew1) | exact HB.out)⟩⟩
            · rw [if_neg c8] at H
              exact absurd H (by simp)
        case rest =>
          clear HC6
          try clear p2
          try clear c5
          try clear c5b0
          try clear p5
          try clear q5
          try clear hx5
          try clear c7
          try clear c8
          try clear c8b0
          try clear hx504_0
          try clear p2
          try clear p504
          try clear q504
          obtain ⟨kq, x24_5, rfl, HA, HJ5, HO_5, HB⟩ := hcut
          cases kq with
          | zero => exact absurd HA.out (by simp [spec_l00Put.j1])
          | succ kj5 =>
            have H := HA.out
            clear HA
            simp only [spec_l00Put.j1] at H
            by_cases c9 : x24_5 = true
            · subst c9
              have H1 : (if 0 ≤ x7_1 then (if x7_1 < (l0.length : Int) then (if (rd l0 x7_1) > a1 then (if x5_1.length < 17592186044416 then ((some (x5_1 ++ [a1] : List Int)).bind fun y506 => (if y506.length < 17592186044416 then (spec_l00Put.l0 kj5 l0 a1 (y506 ++ [rd l0 x7_1]) true (wrap64 (x7_1 + 1))) else (none))) else (none)) else (if x5_1.length < 17592186044416 then (spec_l00Put.l0 kj5 l0 a1 (x5_1 ++ [rd l0 x7_1]) true (wrap64 (x7_1 + 1))) else (none))) else (none)) else (none)) = some r := by rw [if_pos rfl] at H; exact H
              clear H
              have H := H1
              clear H1
              by_cases c10 : 0 ≤ x7_1
              · rw [if_pos c10] at H
                have c10b0 : decide (0 ≤ x7_1) = true := decide_eq_true c10
                clear c10
                by_cases c11 : x7_1 < (l0.length : Int)
                · rw [if_pos c11] at H
                  have c11b0 : decide (x7_1 < (l0.length : Int)) = true := decide_eq_true c11
                  clear c11
                  by_cases c12 : (rd l0 x7_1) > a1
                  · rw [if_pos c12] at H
                    have c12b0 : decide (a1 < (rd l0 x7_1)) = true := decide_eq_true c12
                    clear c12
                    by_cases c13 : x5_1.length < 17592186044416
                    · rw [if_pos c13] at H
                      have LMc13 := Aside0.mk c13
                      clear c13
                      obtain ⟨y506, hy506⟩ : ∃ y_ : List Int, y_ = (x5_1 ++ [a1]) := ⟨_, rfl⟩
                      replace H : (if y506.length < 17592186044416 then (spec_l00Put.l0 kj5 l0 a1 (y506 ++ [rd l0 x7_1]) true (wrap64 (x7_1 + 1))) else (none)) = some r := by first | (rw [hy506]; with_reducible exact H) | (have H2_ := (Option.bind_some _ _).symm.trans H; rw [hy506]; with_reducible exact H2_) | (have H2_ := (Option.bind_some _ _).symm.trans H; with_reducible exact H2_) | with_reducible exact H | (rw [hy506]; exact H) | exact H
                      have Ny506 := Aside0.mk hy506
                      clear hy506
                      by_cases c14 : y506.length < 17592186044416
                      · rw [if_pos c14] at H
                        have LMc14 := Aside0.mk c14
                        clear c14
                        obtain ⟨y510, hy510⟩ : ∃ y_ : List Int, y_ = (y506 ++ [rd l0 x7_1]) := ⟨_, rfl⟩
                        replace H : (spec_l00Put.l0 kj5 l0 a1 y510 true (wrap64 (x7_1 + 1))) = some r := by first | (rw [hy510]; with_reducible exact H) | (have H2_ := (Option.bind_some _ _).symm.trans H; rw [hy510]; with_reducible exact H2_) | (have H2_ := (Option.bind_some _ _).symm.trans H; with_reducible exact H2_) | with_reducible exact H | (rw [hy510]; exact H) | exact H
                        have Ny510 := Aside0.mk hy510
                        clear hy510
                        have H' := Aside0.mk H
                        clear H
                        have p505 : 0 ≤ (x7_1 : Int) := of_decide_eq_true (by first | (with_reducible assumption) | assumption)
                        have q505 : x7_1 < (l0.length : Int) := of_decide_eq_true (by first | (with_reducible assumption) | assumption)
                        obtain ⟨ad505, e505, hx505_0⟩ := Kd.at_int HR0.out x7_1 p505 q505
                        cases e505
                        replace hx505_0 := (HB.out.cell (World.block_lt_of_cell? w _ hx505_0)).trans hx505_0
                        replace p505 := eq_true p505
                        replace q505 := eq_true q505
                        go_wp2_with (first | ((with_reducible refine gate_builtin (b := .append) (xs := #[.tmp 31, .tmp 33]) rfl ?_); at_builtin; refine Kd.R_append (Kd.int .i64) (w0 := w) w.heap.size rfl (.tmp 31) (.tmp 33) 31 2 (.int .i64 0) 8 rfl Try.underlying31 info2 rfl (by decide) (by omega) u5 x5_1 a1 [.int .i64 a1] (fun _ => True) (fun _ => False) rfl rfl ?aP (fun _ hk => hk.elim) ?aF ?aO ?aB ?aS ?aL ?_; (case aP => exact rfl); (case aB => exact (by repeat (first | (with_reducible first | exact HB.out | apply below_alloc | apply pw_below_drewN | apply below_drew1) | exact HB.out))); (case aF => exact (fun _ _ => trivial)); (case aO => exact (by (with_reducible repeat (first | apply Kd.R_alloc | apply Kd.R_drewN | apply Kd.R_drew)); exact HO_5.out)); (case aS => exact (below_size (by repeat (first | (with_reducible first | exact HB.out | apply below_alloc | apply pw_below_drewN | apply below_drew1) | exact HB.out)))); (case aL => have := LMc13.out; omega); intro v507 w15 ho hb hg hat; rw [← Ny506.out] at ho; have n0_ := Aside0.mk (hb); have n1_ := Aside0.mk (ho); clear HB; clear HO_5; have HB := n0_; have HO508 := n1_; clear n0_ n1_; clear ho hb hg hat; have p509 : 0 ≤ (x7_1 : Int) := of_decide_eq_true (by first | (with_reducible assumption) | assumption); have q509 : x7_1 < (l0.length : Int) := of_decide_eq_true (by first | (with_reducible assumption) | assumption); obtain ⟨ad509, e509, hx509_0⟩ := Kd.at_int HR0.out x7_1 p509 q509; obtain rfl : ad505 = ad509 := (by injection e509); replace hx509_0 := (HB.out.cell (World.block_lt_of_cell? w _ hx509_0)).trans hx509_0; replace p509 := eq_true p509; replace q509 := eq_true q509) | ((with_reducible refine gate_builtin (b := .append) (xs := #[.tmp 35, .tmp 40]) rfl ?_); at_builtin; refine Kd.R_append (Kd.int .i64) (w0 := w) w.heap.size rfl (.tmp 35) (.tmp 40) 31 2 (.int .i64 0) 8 rfl Try.underlying31 info2 rfl (by decide) (by omega) v507 y506 (rd l0 x7_1) [.int .i64 (rd l0 x7_1)] (fun _ => True) (fun _ => False) rfl rfl ?aP (fun _ hk => hk.elim) ?aF ?aO ?aB ?aS ?aL ?_; (case aP => exact rfl); (case aB => exact (by repeat (first | (with_reducible first | exact HB.out | apply below_alloc | apply pw_below_drewN | apply below_drew1) | exact HB.out))); (case aF => exact (fun _ _ => trivial)); (case aO => exact (by (with_reducible repeat (first | apply Kd.R_alloc | apply Kd.R_drewN | apply Kd.R_drew)); exact HO508.out)); (case aS => exact (below_size (by repeat (first | (with_reducible first | exact HB.out | apply below_alloc | apply pw_below_drewN | apply below_drew1) | exact HB.out)))); (case aL => have := LMc14.out; omega); intro v511 w16 ho hb hg hat; rw [← Ny510.out] at ho; have n0_ := Aside0.mk (hb); have n1_ := Aside0.mk (ho); clear HB; clear HO508; have HB := n0_; have HO512 := n1_; clear n0_ n1_; clear ho hb hg hat))
                        go_roundg kj5
                        case measure => have := HK1.out; have := HJ5.out; omega
                        case rel => exact ⟨(y510), (true), (wrap64 (x7_1 + 1)), (by first | rfl | (simp; done) | (simp [*]; done)), (by first | rfl | (simp; done) | (simp [*]; done)), H', ⟨by have := HK1.out; have := HJ5.out; omega⟩, ⟨by (with_reducible repeat (first | apply Kd.R_alloc | apply Kd.R_drewN | apply Kd.R_drew)); exact HO512.out⟩, ⟨by repeat (first | (with_reducible first | exact HB.out | apply below_alloc | apply pw_below_drewN | apply below_drew1) | exact HB.out)⟩⟩
                      · rw [if_neg c14] at H
                        exact absurd H (by simp)
                    · rw [if_neg c13] at H
                      exact absurd H (by simp)
                  · rw [if_neg c12] at H
                    have c12b0 : decide (a1 < (rd l0 x7_1)) = false := decide_eq_false c12
                    clear c12
                    by_cases c17 : x5_1.length < 17592186044416
                    · rw [if_pos c17] at H
                      have LMc17 := Aside0.mk c17
                      clear c17
                      obtain ⟨y514, hy514⟩ : ∃ y_ : List Int, y_ = (x5_1 ++ [rd l0 x7_1]) := ⟨_, rfl⟩
                      replace H : (spec_l00Put.l0 kj5 l0 a1 y514 true (wrap64 (x7_1 + 1))) = some r := by first | (rw [hy514]; with_reducible exact H) | (have H2_ := (Option.bind_some _ _).symm.trans H; rw [hy514]; with_reducible exact H2_) | (have H2_ := (Option.bind_some _ _).symm.trans H; with_reducible exact H2_) | with_reducible exact H | (rw [hy514]; exact H) | exact H
                      have Ny514 := Aside0.mk hy514
                      clear hy514
                      have H' := Aside0.mk H
                      clear H
                      have p505 : 0 ≤ (x7_1 : Int) := of_decide_eq_true (by first | (with_reducible assumption) | assumption)
                      have q505 : x7_1 < (l0.length : Int) := of_decide_eq_true (by first | (with_reducible assumption) | assumption)
                      obtain ⟨ad505, e505, hx505_0⟩ := Kd.at_int HR0.out x7_1 p505 q505
                      cases e505
                      replace hx505_0 := (HB.out.cell (World.block_lt_of_cell? w _ hx505_0)).trans hx505_0
                      replace p505 := eq_true p505
                      replace q505 := eq_true q505
                      have p513 : 0 ≤ (x7_1 : Int) := of_decide_eq_true (by first | (with_reducible assumption) | assumption)
                      have q513 : x7_1 < (l0.length : Int) := of_decide_eq_true (by first | (with_reducible assumption) | assumption)
                      obtain ⟨ad513, e513, hx513_0⟩ := Kd.at_int HR0.out x7_1 p513 q513
                      obtain rfl : ad505 = ad513 := (by injection e513)
                      replace hx513_0 := (HB.out.cell (World.block_lt_of_cell? w _ hx513_0)).trans hx513_0
                      replace p513 := eq_true p513
                      replace q513 := eq_true q513
                      go_wp2_with (first | ((with_reducible refine gate_builtin (b := .append) (xs := #[.tmp 35, .tmp 40]) rfl ?_); at_builtin; refine Kd.R_append (Kd.int .i64) (w0 := w) w.heap.size rfl (.tmp 35) (.tmp 40) 31 2 (.int .i64 0) 8 rfl Try.underlying31 info2 rfl (by decide) (by omega) u5 x5_1 (rd l0 x7_1) [.int .i64 (rd l0 x7_1)] (fun _ => True) (fun _ => False) rfl rfl ?aP (fun _ hk => hk.elim) ?aF ?aO ?aB ?aS ?aL ?_; (case aP => exact rfl); (case aB => exact (by repeat (first | (with_reducible first | exact HB.out | apply below_alloc | apply pw_below_drewN | apply below_drew1) | exact HB.out))); (case aF => exact (fun _ _ => trivial)); (case aO => exact (by (with_reducible repeat (first | apply Kd.R_alloc | apply Kd.R_drewN | apply Kd.R_drew)); exact HO_5.out)); (case aS => exact (below_size (by repeat (first | (with_reducible first | exact HB.out | apply below_alloc | apply pw_below_drewN | apply below_drew1) | exact HB.out)))); (case aL => have := LMc17.out; omega); intro v515 w18 ho hb hg hat; rw [← Ny514.out] at ho; have n0_ := Aside0.mk (hb); have n1_ := Aside0.mk (ho); clear HB; clear HO_5; have HB := n0_; have HO516 := n1_; clear n0_ n1_; clear ho hb hg hat))
                      go_roundg kj5
                      case measure => have := HK1.out; have := HJ5.out; omega
                      case rel => exact ⟨(y514), (true), (wrap64 (x7_1 + 1)), (by first | rfl | (simp; done) | (simp [*]; done)), (by first | rfl | (simp; done) | (simp [*]; done)), H', ⟨by have := HK1.out; have := HJ5.out; omega⟩, ⟨by (with_reducible repeat (first | apply Kd.R_alloc | apply Kd.R_drewN | apply Kd.R_drew)); exact HO516.out⟩, ⟨by repeat (first | (with_reducible first | exact HB.out | apply below_alloc | apply pw_below_drewN | apply below_drew1) | exact HB.out)⟩⟩
                    · rw [if_neg c17] at H
                      exact absurd H (by simp)
                · rw [if_neg c11] at H
                  exact absurd H (by simp)
              · rw [if_neg c10] at H
                exact absurd H (by simp)
            · replace c9 := Bool.eq_false_iff.mpr c9
              subst c9
              have H1 : (if 0 ≤ x7_1 then (if x7_1 < (l0.length : Int) then (if x5_1.length < 17592186044416 then (spec_l00Put.l0 kj5 l0 a1 (x5_1 ++ [rd l0 x7_1]) x6_1 (wrap64 (x7_1 + 1))) else (none)) else (none)) else (none)) = some r := by rw [if_neg (show ¬ (false = true) by decide)] at H; exact H
              clear H
              have H := H1
              clear H1
              by_cases c19 : 0 ≤ x7_1
              · rw [if_pos c19] at H
                have c19b0 : decide (0 ≤ x7_1) = true := decide_eq_true c19
                clear c19
                by_cases c20 : x7_1 < (l0.length : Int)
                · rw [if_pos c20] at H
                  have c20b0 : decide (x7_1 < (l0.length : Int)) = true := decide_eq_true c20
                  clear c20
                  by_cases c21 : x5_1.length < 17592186044416
                  · rw [if_pos c21] at H
                    have LMc21 := Aside0.mk c21
                    clear c21
                    obtain ⟨y518, hy518⟩ : ∃ y_ : List Int, y_ = (x5_1 ++ [rd l0 x7_1]) := ⟨_, rfl⟩
                    replace H : (spec_l00Put.l0 kj5 l0 a1 y518 x6_1 (wrap64 (x7_1 + 1))) = some r := by first | (rw [hy518]; with_reducible exact H) | (have H2_ := (Option.bind_some _ _).symm.trans H; rw [hy518]; with_reducible exact H2_) | (have H2_ := (Option.bind_some _ _).symm.trans H; with_reducible exact H2_) | with_reducible exact H | (rw [hy518]; exact H) | exact H
                    have Ny518 := Aside0.mk hy518
                    clear hy518
                    have H' := Aside0.mk H
                    clear H
                    have p517 : 0 ≤ (x7_1 : Int) := of_decide_eq_true (by first | (with_reducible assumption) | assumption)
                    have q517 : x7_1 < (l0.length : Int) := of_decide_eq_true (by first | (with_reducible assumption) | assumption)
                    obtain ⟨ad517, e517, hx517_0⟩ := Kd.at_int HR0.out x7_1 p517 q517
                    cases e517
                    replace hx517_0 := (HB.out.cell (World.block_lt_of_cell? w _ hx517_0)).trans hx517_0
                    replace p517 := eq_true p517
                    replace q517 := eq_true q517
                    go_wp2_with (first | ((with_reducible refine gate_builtin (b := .append) (xs := #[.tmp 35, .tmp 40]) rfl ?_); at_builtin; refine Kd.R_append (Kd.int .i64) (w0 := w) w.heap.size rfl (.tmp 35) (.tmp 40) 31 2 (.int .i64 0) 8 rfl Try.underlying31 info2 rfl (by decide) (by omega) u5 x5_1 (rd l0 x7_1) [.int .i64 (rd l0 x7_1)] (fun _ => True) (fun _ => False) rfl rfl ?aP (fun _ hk => hk.elim) ?aF ?aO ?aB ?aS ?aL ?_; (case aP => exact rfl); (case aB => exact (by repeat (first | (with_reducible first | exact HB.out | apply below_alloc | apply pw_below_drewN | apply below_drew1) | exact HB.out))); (case aF => exact (fun _ _ => trivial)); (case aO => exact (by (with_reducible repeat (first | apply Kd.R_alloc | apply Kd.R_drewN | apply Kd.R_drew)); exact HO_5.out)); (case aS => exact (below_size (by repeat (first | (with_reducible first | exact HB.out | apply below_alloc | apply pw_below_drewN | apply below_drew1) | exact HB.out)))); (case aL => have := LMc21.out; omega); intro v519 w22 ho hb hg hat; rw [← Ny518.out] at ho; have n0_ := Aside0.mk (hb); have n1_ := Aside0.mk (ho); clear HB; clear HO_5; have HB := n0_; have HO520 := n1_; clear n0_ n1_; clear ho hb hg hat))
                    go_roundg kj5
                    case measure => have := HK1.out; have := HJ5.out; omega
                    case rel => exact ⟨(y518), (x6_1), (wrap64 (x7_1 + 1)), (by first | rfl | (simp; done) | (simp [*]; done)), (by first | rfl | (simp; done) | (simp [*]; done)), H', ⟨by have := HK1.out; have := HJ5.out; omega⟩, ⟨by (with_reducible repeat (first | apply Kd.R_alloc | apply Kd.R_drewN | apply Kd.R_drew)); exact HO520.out⟩, ⟨by repeat (first | (with_reducible first | exact HB.out | apply below_alloc | apply pw_below_drewN | apply below_drew1) | exact HB.out)⟩⟩
                  · rw [if_neg c21] at H
                    exact absurd H (by simp)
                · rw [if_neg c20] at H
                  exact absurd H (by simp)
              · rw [if_neg c19] at H
                exact absurd H (by simp)
      · rw [if_neg c5] at H
        have c5b0 : decide (x7_1 < (l0.length : Int)) = false := decide_eq_false c5
        clear c5
        by_cases c23 : x6_1 = true
        · subst c23
          have H1 : (some x5_1) = some r := by rw [if_pos rfl] at H; exact H
          clear H
          have H := H1
          clear H1
          obtain rfl := Option.some.inj H
          go_wp2
          go_ret
          exact ⟨_, by first | rfl | (simp [errW_none, errW_some] <;> rfl) | (simp [*, errW_none, errW_some] <;> rfl), by (with_reducible repeat (first | apply Kd.R_alloc | apply Kd.R_drewN | apply Kd.R_drew)); exact HO_5.out, by repeat (first | (with_reducible first | exact HB.out | apply below_alloc | apply pw_below_drewN | apply below_drew1) | exact HB.out)⟩
        · replace c23 := Bool.eq_false_iff.mpr c23
          subst c23
          have H1 : (if x5_1.length < 17592186044416 then (some (x5_1 ++ [a1])) else (none)) = some r := by rw [if_neg (show ¬ (false = true) by decide)] at H; exact H
          clear H
          have H := H1
          clear H1
          by_cases c24 : x5_1.length < 17592186044416
          · rw [if_pos c24] at H
            have LMc24 := Aside0.mk c24
            clear c24
            obtain ⟨y501, hy501⟩ : ∃ y_ : List Int, y_ = (x5_1 ++ [a1]) := ⟨_, rfl⟩
            replace H : (some y501) = some r := by first | (rw [hy501]; with_reducible exact H) | (have H2_ := (Option.bind_some _ _).symm.trans H; rw [hy501]; with_reducible exact H2_) | (have H2_ := (Option.bind_some _ _).symm.trans H; with_reducible exact H2_) | with_reducible exact H | (rw [hy501]; exact H) | exact H
            have Ny501 := Aside0.mk hy501
            clear hy501
            obtain rfl := Option.some.inj H
            go_wp2_with (first | ((with_reducible refine gate_builtin (b := .append) (xs := #[.tmp 44, .tmp 46]) rfl ?_); at_builtin; refine Kd.R_append (Kd.int .i64) (w0 := w) w.heap.size rfl (.tmp 44) (.tmp 46) 31 2 (.int .i64 0) 8 rfl Try.underlying31 info2 rfl (by decide) (by omega) u5 x5_1 a1 [.int .i64 a1] (fun _ => True) (fun _ => False) rfl rfl ?aP (fun _ hk => hk.elim) ?aF ?aO ?aB ?aS ?aL ?_; (case aP => exact rfl); (case aB => exact (by repeat (first | (with_reducible first | exact HB.out | apply below_alloc | apply pw_below_drewN | apply below_drew1) | exact HB.out))); (case aF => exact (fun _ _ => trivial)); (case aO => exact (by (with_reducible repeat (first | apply Kd.R_alloc | apply Kd.R_drewN | apply Kd.R_drew)); exact HO_5.out)); (case aS => exact (below_size (by repeat (first | (with_reducible first | exact HB.out | apply below_alloc | apply pw_below_drewN | apply below_drew1) | exact HB.out)))); (case aL => have := LMc24.out; omega); intro v502 w25 ho hb hg hat; rw [← Ny501.out] at ho; have n0_ := Aside0.mk (hb); have n1_ := Aside0.mk (ho); clear HB; clear HO_5; have HB := n0_; have HO503 := n1_; clear n0_ n1_; clear ho hb hg hat))
            go_ret
            exact ⟨_, by first | rfl | (simp [errW_none, errW_some] <;> rfl) | (simp [*, errW_none, errW_some] <;> rfl), by (with_reducible repeat (first | apply Kd.R_alloc | apply Kd.R_drewN | apply Kd.R_drew)); exact HO503.out, by repeat (first | (with_reducible first | exact HB.out | apply below_alloc | apply pw_below_drewN | apply below_drew1) | exact HB.out)⟩
          · rw [if_neg c24] at H
            exact absurd H (by simp)

end Go.Proofs.Ytibaiaenfeppcaa.Q

-- made by a patched copy of print.sh: this session's own
namespace Go.Proofs.Ytibaiaenfeppcaa.Q
open Go.RowKit Go.Proofs.YtibaiaenfeppcaaW.PrintWords Go.Proofs.YtibaiaenfeppcaaW.PrintLast Go.Proofs.YtibaiaenfeppcaaW.PrintMore
attribute [local go_sem] max2_int min2_int max_two min_two max_three min_three max_four min_four   -- for this text's walks alone
set_option linter.unusedVariables false
set_option linter.unusedSimpArgs false

/-! ### spec_l00Min: function 75 -/
def spec_l00Min.f (a0 : Int) (a1 : Int) : Option (Int) := if a0 < a1 then (some a0) else (some a1)
set_option maxHeartbeats 8000000 in
set_option maxRecDepth 100000 in
theorem spec_l00Min.calls (a0 : Int) (a1 : Int) (r : Int) (w : World) (h : spec_l00Min.f a0 a1 = some r) :
    Calls Try.prog 75 #[.int .i64 a0, .int .i64 a1] w fun e w' => e = .returned (.int .i64 r) ∧ Drawn0 w w' := by
  have H : (if a0 < a1 then (some a0) else (some a1)) = some r := h
  clear h
  by_cases c3 : a0 < a1
  · rw [if_pos c3] at H
    have c3b0 : decide (a0 < a1) = true := decide_eq_true c3
    clear c3
    obtain rfl := Option.some.inj H
    go_enter Try.func75, Try.ntmps75
    go_wp2
    go_ret
    exact ⟨by first | rfl | (simp; done) | (simp [*]; done), by repeat (first | exact Drawn0.refl _ | apply Drawn0.step)⟩
  · rw [if_neg c3] at H
    have c3b0 : decide (a0 < a1) = false := decide_eq_false c3
    clear c3
    obtain rfl := Option.some.inj H
    go_enter Try.func75, Try.ntmps75
    go_wp2
    go_ret
    exact ⟨by first | rfl | (simp; done) | (simp [*]; done), by repeat (first | exact Drawn0.refl _ | apply Drawn0.step)⟩

end Go.Proofs.Ytibaiaenfeppcaa.Q

-- made by a patched copy of print.sh: this session's own
namespace Go.Proofs.Ytibaiaenfeppcaa.Q
open Go.RowKit Go.Proofs.YtibaiaenfeppcaaW.PrintWords Go.Proofs.YtibaiaenfeppcaaW.PrintLast Go.Proofs.YtibaiaenfeppcaaW.PrintMore
attribute [local go_sem] max2_int min2_int max_two min_two max_three min_three max_four min_four   -- for this text's walks alone
set_option linter.unusedVariables false
set_option linter.unusedSimpArgs false

/-! ### spec_l09Blockers: function 53 -/
mutual
def spec_l09Blockers.l0 : Nat → List Int → Int → Int → List (List Int) → Option (List Int × Int)
  | 0, _, _, _, _ => none
  | k + 1, x3, x4, x1000, x1001 => if x4 < (x1001.length : Int) then (spec_l09Blockers.l1 k x3 x4 100 0 x1000 x1001) else (some (x3, x1000))
def spec_l09Blockers.l1 : Nat → List Int → Int → Int → Int → Int → List (List Int) → Option (List Int × Int)
  | 0, _, _, _, _, _, _ => none
  | k + 1, x3, x4, x5, x6, x1000, x1001 => if 0 ≤ x4 then (if x4 < (x1001.length : Int) then (if x6 < ((rd_L1 x1001 x4).length : Int) then (if 0 ≤ x6 then (if (rd (rd_L1 x1001 x4) x6) > x5 then ((spec_l00Put.f k x3 (rd (rd_L1 x1001 x4) x6)).bind fun t527 => ((spec_l00Min.f x5 (rd (rd_L1 x1001 x4) x6)).bind fun t530 => (spec_l09Blockers.l1 k t527 x4 t530 (wrap64 (x6 + 1)) x1000 x1001))) else ((spec_l00Min.f x5 (rd (rd_L1 x1001 x4) x6)).bind fun t531 => (spec_l09Blockers.l1 k x3 x4 t531 (wrap64 (x6 + 1)) x1000 x1001))) else (none)) else (spec_l09Blockers.l0 k x3 (wrap64 (x4 + 1)) x1000 x1001)) else (none)) else (none)
end
def spec_l09Blockers.f (k : Nat) (s0_0 : Int) (s0_1 : List (List Int)) : Option (List Int × Int) := spec_l09Blockers.l0 k (([] : List Int)) 0 s0_0 s0_1
theorem spec_l09Blockers.mono_l : ∀ k, (∀ y0 y1 y2 y3, LeO (spec_l09Blockers.l0 k y0 y1 y2 y3) (spec_l09Blockers.l0 (k + 1) y0 y1 y2 y3)) ∧ (∀ y0 y1 y2 y3 y4 y5, LeO (spec_l09Blockers.l1 k y0 y1 y2 y3 y4 y5) (spec_l09Blockers.l1 (k + 1) y0 y1 y2 y3 y4 y5))
  | 0 => ⟨fun _ _ _ _ r h => by simp [spec_l09Blockers.l0] at h, fun _ _ _ _ _ _ r h => by simp [spec_l09Blockers.l1] at h⟩
  | k + 1 => by
    obtain ⟨ih0, ih1⟩ := spec_l09Blockers.mono_l k
    refine ⟨?_, ?_⟩
    · intro y0 y1 y2 y3
      unfold spec_l09Blockers.l0
      repeat' first
      | (with_reducible exact ih0 _ _ _ _)
      | (with_reducible exact ih1 _ _ _ _ _ _)
      | (with_reducible exact spec_l00Put.mono _ _ _)
      | (with_reducible exact LeO.refl _)
      | (with_reducible exact LeO.none _)
      | (with_reducible refine LeO.ite ?_ ?_)
      | (with_reducible refine LeO.bind ?_ (fun _ => ?_))
      | exact ih0 _ _ _ _
      | exact ih1 _ _ _ _ _ _
      | exact spec_l00Put.mono _ _ _
      | exact LeO.none _
      | refine LeO.ite ?_ ?_
      | refine LeO.bind ?_ (fun _ => ?_)
    · intro y0 y1 y2 y3 y4 y5
      unfold spec_l09Blockers.l1
      repeat' first
      | (with_reducible exact ih0 _ _ _ _)
      | (with_reducible exact ih1 _ _ _ _ _ _)
      | (with_reducible exact spec_l00Put.mono _ _ _)
      | (with_reducible exact LeO.refl _)
      | (with_reducible exact LeO.none _)
      | (with_reducible refine LeO.ite ?_ ?_)
      | (with_reducible refine LeO.bind ?_ (fun _ => ?_))
      | exact ih0 _ _ _ _
      | exact ih1 _ _ _ _ _ _
      | exact spec_l00Put.mono _ _ _
      | exact LeO.none _
      | refine LeO.ite ?_ ?_
      | refine LeO.bind ?_ (fun _ => ?_)
theorem spec_l09Blockers.mono : ∀ a0 a1 k, LeO (spec_l09Blockers.f k a0 a1) (spec_l09Blockers.f (k + 1) a0 a1) := by
  intro a0 a1 k
  obtain ⟨ih0, ih1⟩ := spec_l09Blockers.mono_l k
  unfold spec_l09Blockers.f
  repeat' first
      | (with_reducible exact ih0 _ _ _ _)
      | (with_reducible exact ih1 _ _ _ _ _ _)
      | (with_reducible exact spec_l00Put.mono _ _ _)
      | (with_reducible exact LeO.refl _)
      | (with_reducible exact LeO.none _)
      | (with_reducible refine LeO.ite ?_ ?_)
      | (with_reducible refine LeO.bind ?_ (fun _ => ?_))
      | exact ih0 _ _ _ _
      | exact ih1 _ _ _ _ _ _
      | exact spec_l00Put.mono _ _ _
      | exact LeO.none _
      | refine LeO.ite ?_ ?_
      | refine LeO.bind ?_ (fun _ => ?_)
set_option maxHeartbeats 8000000 in
set_option maxRecDepth 100000 in
theorem spec_l09Blockers.calls (k : Nat) (g : Nat) (s0_0 : Int) (s0_1 : List (List Int)) (r1 : List Int) (r2 : Int) (w0 w : World) (hI : IsS27 w0 w g s0_0 s0_1) (hB : Below w0.heap.size w0 w) (h : spec_l09Blockers.f k s0_0 s0_1 = some (r1, r2)) :
    Calls Try.prog 53 #[.pointer (some ⟨g, 0, none⟩)] w fun e w' => ∃ v0_ : Value, e = .returned (v0_) ∧ Kd.R (Kd.int .i64) 2 w' w.heap.size (fun _ => True) v0_ r1 ∧ IsS27 w0 w' g r2 s0_1 ∧ Below w0.heap.size w0 w' ∧ KeepBut w w' g none := by
  have HI0 := Aside0.mk hI
  have HK := Aside0.mk (KeepBut.refl w g none)
  have HL := Aside0.mk hB.size
  clear hI
  have HW0 := Aside0.mk hB.size
  have HB := Aside0.mk hB
  clear hB
  have H : (spec_l09Blockers.l0 k (([] : List Int)) 0 s0_0 s0_1) = some (r1, r2) := h
  clear h
  obtain ⟨y521, hy521⟩ : ∃ y_ : List Int, y_ = (([] : List Int)) := ⟨_, rfl⟩
  replace H : (spec_l09Blockers.l0 k y521 0 s0_0 s0_1) = some (r1, r2) := by first | (rw [hy521]; with_reducible exact H) | (have H2_ := (Option.bind_some _ _).symm.trans H; rw [hy521]; with_reducible exact H2_) | (have H2_ := (Option.bind_some _ _).symm.trans H; with_reducible exact H2_) | with_reducible exact H | (rw [hy521]; exact H) | exact H
  have Ny521 := Aside0.mk hy521
  clear hy521
  have H' := Aside0.mk H
  clear H
  go_enter Try.func53, Try.ntmps53
  go_wp2_with (first | ((with_reducible refine gate_dst (N := 8) rfl ?_); refine Kd.R_lit (Kd.int .i64) _ 2 ?hg (N := 8) ?hd (xs := ([] : List Int)) (inner := []) (ok := fun _ => True) (okp := fun _ => True) ?hr ?hp (fun _ hk => hk) trivial (Below.refl _ _) (Nat.le_refl _) (by simp) ?_; (case hd => rfl); (case hg => rfl); (case hr => first | (go_simp; done) | (go_simp; rfl)); (case hp => exact (Reps.none _ _)); intro v522 w2 ho3 hb hg_ hnew_; clear hg_ hnew_; (first | rw [← Ny521.out] at ho3 | (simp only [Int.reduceToNat] at ho3; rw [← Ny521.out] at ho3)); have n0_ := Aside0.mk (Kd.R_lower ho3 (keep_size (w := w) (g := g) (row := none) (by repeat (first | (with_reducible first | exact HK.out | apply KeepBut.set_ | apply keep_drewN | apply keep_drew | apply keep_alloc) | exact HK.out)))); have n1_ := Aside0.mk (IsS27.below (by repeat (first | (with_reducible first | exact HI0.out | apply IsS27.alloc | apply IsS27.drewN | apply IsS27.drew | apply IsS27.set_0) | exact HI0.out)) hb); have n2_ := Aside0.mk (KeepBut.trans (by repeat (first | (with_reducible first | exact HK.out | apply KeepBut.set_ | apply keep_drewN | apply keep_drew | apply keep_alloc) | exact HK.out)) (KeepBut.of_below hb g none) (.inl rfl)); have n3_ := Aside0.mk (below_step (by repeat (first | (with_reducible first | exact HB.out | apply below_alloc | apply pw_below_drewN | apply below_drew1 | refine below_set ?_ (IsS27.ge HI0.out)) | exact HB.out)) hb); clear HI0; clear HK; clear HB; have HO523 := n0_; have HI0 := n1_; have HK := n2_; have HB := n3_; clear n0_ n1_ n2_ n3_; clear hb ho3))
  go_loopg [3, 4] k (fun kq v3 v4 w' => ∃ (x3_1 : List Int) (x4_1 : Int), v4 = .int .i64 x4_1 ∧ Aside0 (spec_l09Blockers.l0 kq x3_1 x4_1 s0_0 s0_1 = some (r1, r2)) ∧ Aside0 (kq ≤ k) ∧ Aside0 (Kd.R (Kd.int .i64) 2 w' w.heap.size (fun _ => True) v3 x3_1) ∧ Aside0 (IsS27 w0 w' g s0_0 s0_1) ∧ Aside0 (KeepBut w w' g none) ∧ Aside0 (Below w0.heap.size w0 w'))
  case atStart => exact ⟨(y521), (0), (by first | rfl | (simp; done) | (simp [*]; done)), H', ⟨Nat.le_refl _⟩, ⟨by (with_reducible repeat (first | apply Kd.R_alloc | apply Kd.R_drewN | apply Kd.R_drew)); exact HO523.out⟩, ⟨by repeat (first | (with_reducible first | exact HI0.out | apply IsS27.alloc | apply IsS27.drewN | apply IsS27.drew | apply IsS27.set_0) | exact HI0.out)⟩, ⟨by repeat (first | (with_reducible first | exact HK.out | apply KeepBut.set_ | apply keep_drewN | apply keep_drew | apply keep_alloc) | exact HK.out)⟩, ⟨by repeat (first | (with_reducible first | exact HB.out | apply below_alloc | apply pw_below_drewN | apply below_drew1 | refine below_set ?_ (IsS27.ge HI0.out)) | exact HB.out)⟩⟩
  case round =>
    clear H'
    try clear p2
    obtain ⟨x3_1, x4_1, rfl, HA, HK1, HO_3, HI0, HK, HB⟩ := hrel
    cases gk with
    | zero => exact absurd HA.out (by simp [spec_l09Blockers.l0])
    | succ k1 =>
      have H := HA.out
      clear HA
      simp only [spec_l09Blockers.l0] at H
      by_cases c4 : x4_1 < (s0_1.length : Int)
      · rw [if_pos c4] at H
        have c4b0 : decide (x4_1 < (s0_1.length : Int)) = true := decide_eq_true c4
        clear c4
        have H' := Aside0.mk H
        clear H
        obtain ⟨ASz5_1, cSz5_1, HGz5, hgz5, HSz5_1⟩ := HI0.out
        have hcz5_0 := cellS27_0 HGz5
        have hcz5_1 := cellS27_1 HGz5
        have hfz5_0 := blk_frozen HGz5 0
        clear HGz5 hgz5
        go_wp2
        go_loopg [3, 5, 6] k1 (fun kq v3 v5 v6 w' => ∃ (x3_2 : List Int) (x5_2 : Int) (x6_2 : Int), v5 = .int .i64 x5_2 ∧ v6 = .int .i64 x6_2 ∧ Aside0 (spec_l09Blockers.l1 kq x3_2 x4_1 x5_2 x6_2 s0_0 s0_1 = some (r1, r2)) ∧ Aside0 (kq ≤ k1) ∧ Aside0 (Kd.R (Kd.int .i64) 2 w' w.heap.size (fun _ => True) v3 x3_2) ∧ Aside0 (IsS27 w0 w' g s0_0 s0_1) ∧ Aside0 (KeepBut w w' g none) ∧ Aside0 (Below w0.heap.size w0 w'))
        case atStart => exact ⟨(x3_1), (100), (0), (by first | rfl | (simp; done) | (simp [*]; done)), (by first | rfl | (simp; done) | (simp [*]; done)), H', ⟨Nat.le_refl _⟩, ⟨by (with_reducible repeat (first | apply Kd.R_alloc | apply Kd.R_drewN | apply Kd.R_drew)); exact HO_3.out⟩, ⟨by repeat (first | (with_reducible first | exact HI0.out | apply IsS27.alloc | apply IsS27.drewN | apply IsS27.drew | apply IsS27.set_0) | exact HI0.out)⟩, ⟨by repeat (first | (with_reducible first | exact HK.out | apply KeepBut.set_ | apply keep_drewN | apply keep_drew | apply keep_alloc) | exact HK.out)⟩, ⟨by repeat (first | (with_reducible first | exact HB.out | apply below_alloc | apply pw_below_drewN | apply below_drew1 | refine below_set ?_ (IsS27.ge HI0.out)) | exact HB.out)⟩⟩
        case round =>
          clear H'
          try clear p2
          try clear c4
          try clear c4b0
          try clear c5
          try clear hcz5_0
          try clear hcz5_1
          try clear hfz5_0
          try clear p2
          obtain ⟨x3_2, x5_2, x6_2, rfl, rfl, HA, HK2, HO_3, HI0, HK, HB⟩ := hrel
          cases gk with
          | zero => exact absurd HA.out (by simp [spec_l09Blockers.l1])
          | succ k2 =>
            have H := HA.out
            clear HA
            simp only [spec_l09Blockers.l1] at H
            by_cases c6 : 0 ≤ x4_1
            · rw [if_pos c6] at H
              have c6b0 : decide (0 ≤ x4_1) = true := decide_eq_true c6
              clear c6
              by_cases c7 : x4_1 < (s0_1.length : Int)
              · rw [if_pos c7] at H
                have c7b0 : decide (x4_1 < (s0_1.length : Int)) = true := decide_eq_true c7
                clear c7
                by_cases c8 : x6_2 < ((rd_L1 s0_1 x4_1).length : Int)
                · rw [if_pos c8] at H
                  have c8b0 : decide (x6_2 < ((rd_L1 s0_1 x4_1).length : Int)) = true := decide_eq_true c8
                  clear c8
                  by_cases c9 : 0 ≤ x6_2
                  · rw [if_pos c9] at H
                    have c9b0 : decide (0 ≤ x6_2) = true := decide_eq_true c9
                    clear c9
                    by_cases c10 : (rd (rd_L1 s0_1 x4_1) x6_2) > x5_2
                    · rw [if_pos c10] at H
                      have c10b0 : decide (x5_2 < (rd (rd_L1 s0_1 x4_1) x6_2)) = true := decide_eq_true c10
                      clear c10
                      replace H := Option.bind_eq_some_iff.mp H
                      obtain ⟨t527, A110, H⟩ := H
                      replace H : ((spec_l00Min.f x5_2 (rd (rd_L1 s0_1 x4_1) x6_2)).bind fun t530 => (spec_l09Blockers.l1 k2 t527 x4_1 t530 (wrap64 (x6_2 + 1)) s0_0 s0_1)) = some (r1, r2) := H
                      have A11 := Aside0.mk A110
                      clear A110
                      replace H := Option.bind_eq_some_iff.mp H
                      obtain ⟨t530, A120, H⟩ := H
                      replace H : (spec_l09Blockers.l1 k2 t527 x4_1 t530 (wrap64 (x6_2 + 1)) s0_0 s0_1) = some (r1, r2) := H
                      have A12 := Aside0.mk A120
                      clear A120
                      have H' := Aside0.mk H
                      clear H
                      obtain ⟨ASz13_1, cSz13_1, HGz13, hgz13, HSz13_1⟩ := HI0.out
                      have hcz13_0 := cellS27_0 HGz13
                      have hcz13_1 := cellS27_1 HGz13
                      have hfz13_0 := blk_frozen HGz13 0
                      clear HGz13 hgz13
                      have p524 : 0 ≤ (x4_1 : Int) := of_decide_eq_true (by first | (with_reducible assumption) | assumption)
                      have q524 : x4_1 < (s0_1.length : Int) := of_decide_eq_true (by first | (with_reducible assumption) | assumption)
                      obtain ⟨ad524, A524_0, c524_0, e524, hx524_0, hl524_0, hi524_0⟩ := at_L1 HSz13_1 x4_1 p524 q524
                      cases e524
                      replace hx524_0 := pw_cell_below HB.out hx524_0
                      have HR524_0 := Aside0.mk (Kd.C_below hi524_0 HB.out)
                      have HC524_0 := Aside0.mk hl524_0
                      clear hi524_0 hl524_0
                      replace p524 := eq_true p524
                      replace q524 := eq_true q524
                      have p525 : 0 ≤ (x4_1 : Int) := of_decide_eq_true (by first | (with_reducible assumption) | assumption)
                      have q525 : x4_1 < (s0_1.length : Int) := of_decide_eq_true (by first | (with_reducible assumption) | assumption)
                      obtain ⟨ad525, A525_0, c525_0, e525, hx525_0, hl525_0, hi525_0⟩ := at_L1 HSz13_1 x4_1 p525 q525
                      obtain rfl : ad524 = ad525 := (by injection e525)
                      replace hx525_0 := pw_cell_below HB.out hx525_0
                      first | (have hq_ := hx524_0.symm.trans hx525_0; injection hq_ with hq_; injection hq_ with hqa_ hqb_ hqc_; subst hqa_ hqc_; clear hqb_) | skip
                      have HR525_0 := Aside0.mk (Kd.C_below hi525_0 HB.out)
                      have HC525_0 := Aside0.mk hl525_0
                      clear hi525_0 hl525_0
                      replace p525 := eq_true p525
                      replace q525 := eq_true q525
                      have p526 : 0 ≤ (x6_2 : Int) := of_decide_eq_true (by first | (with_reducible assumption) | assumption)
                      have q526 : x6_2 < ((rd_L1 s0_1 x4_1).length : Int) := of_decide_eq_true (by first | (with_reducible assumption) | assumption)
                      obtain ⟨ad526, e526, hx526_0⟩ := Kd.at_int HR525_0.out x6_2 p526 q526
                      cases e526
                      replace p526 := eq_true p526
                      replace q526 := eq_true q526
                      obtain ⟨Ao14, co14, eo14⟩ := Kd.R_slice HO_3.out
                      subst eo14
                      go_wp2_with (first | ((with_reducible refine gate_callee (f := 74) rfl ?_); refine goesL_ (some 45) rfl rfl Try.func74 (by kernel_rfl) rfl #[.slice Ao14 x3_2.length co14, .int .i64 (rd (rd_L1 s0_1 x4_1) x6_2)] rfl (by (try simp only [List.map_toArray, List.map_cons, List.map_nil]); first | done | rfl | (simp only [List.length_drop, List.length_take]; rfl)) ?_; (with_reducible refine (spec_l00Put.calls k2 _ _ x3_2 (rd (rd_L1 s0_1 x4_1) x6_2) t527 _ ?side1 ?side2 A11.out).mono ?_); (case side1 => repeat (first | exact (Kd.R_reads' HO_3.out).2.2 | (with_reducible refine Kd.C_alloc ?_ _) | (with_reducible refine Kd.C_drewN ?_ _) | (with_reducible refine Kd.C_drew ?_))); (case side2 => exact (Kd.R_reads' HO_3.out).2.1); rintro e w15 ⟨v528, rfl, ho0, hb⟩; refine ⟨_, rfl, ?_⟩; have n0_ := Aside0.mk (Kd.R_elder' (by (with_reducible repeat (first | apply Kd.R_alloc | apply Kd.R_drewN | apply Kd.R_drew)); exact HO_3.out) (Kd.R_base ho0) hb); have n1_ := Aside0.mk (Kd.R_lower (Kd.R_new' ho0 (Kd.R_lt (by (with_reducible repeat (first | apply Kd.R_alloc | apply Kd.R_drewN | apply Kd.R_drew)); exact HO_3.out))) (keep_size (w := w) (g := g) (row := none) (by repeat (first | (with_reducible first | exact HK.out | apply KeepBut.set_ | apply keep_drewN | apply keep_drew | apply keep_alloc) | exact HK.out)))); have n2_ := Aside0.mk (IsS27.below (by repeat (first | (with_reducible first | exact HI0.out | apply IsS27.alloc | apply IsS27.drewN | apply IsS27.drew | apply IsS27.set_0) | exact HI0.out)) hb); have n3_ := Aside0.mk (Kd.C_below (by repeat (first | (with_reducible exact HR524_0.out) | (with_reducible refine Kd.C_alloc ?_ _) | (with_reducible refine Kd.C_drewN ?_ _) | (with_reducible refine Kd.C_drew ?_) | exact HR524_0.out)) hb); have n4_ := Aside0.mk (Kd.C_below (by repeat (first | (with_reducible exact HR525_0.out) | (with_reducible refine Kd.C_alloc ?_ _) | (with_reducible refine Kd.C_drewN ?_ _) | (with_reducible refine Kd.C_drew ?_) | exact HR525_0.out)) hb); have n5_ := Aside0.mk (KeepBut.trans (by repeat (first | (with_reducible first | exact HK.out | apply KeepBut.set_ | apply keep_drewN | apply keep_drew | apply keep_alloc) | exact HK.out)) (KeepBut.of_below hb g none) (.inl rfl)); have n6_ := Aside0.mk (below_step (by repeat (first | (with_reducible first | exact HB.out | apply below_alloc | apply pw_below_drewN | apply below_drew1 | refine below_set ?_ (IsS27.ge HI0.out)) | exact HB.out)) hb); clear HO_3; clear HI0; clear HR524_0; clear HR525_0; clear HK; clear HB; have HO_3 := n0_; have HO529 := n1_; have HI0 := n2_; have HR524_0 := n3_; have HR525_0 := n4_; have HK := n5_; have HB := n6_; clear n0_ n1_ n2_ n3_ n4_ n5_ n6_; (try clear hb); (try clear hb2); (try clear hk); (try clear hi); (try clear ho0)) | ((with_reducible refine gate_callee (f := 75) rfl ?_); refine goesL_ (some 48) rfl rfl Try.func75 (by kernel_rfl) rfl #[.int .i64 x5_2, .int .i64 (rd (rd_L1 s0_1 x4_1) x6_2)] rfl (by (try simp only [List.map_toArray, List.map_cons, List.map_nil]); first | done | rfl | (simp only [List.length_drop, List.length_take]; rfl)) ?_; (with_reducible refine (spec_l00Min.calls x5_2 (rd (rd_L1 s0_1 x4_1) x6_2) t530 _ A12.out).mono ?_); rintro e w' ⟨rfl, ⟨nd, rfl⟩⟩; refine ⟨_, rfl, ?_⟩))
                      go_roundg k2
                      case measure => have := HK1.out; have := HK2.out; omega
                      case rel => exact ⟨(t527), (t530), (wrap64 (x6_2 + 1)), (by first | rfl | (simp; done) | (simp [*]; done)), (by first | rfl | (simp; done) | (simp [*]; done)), H', ⟨by have := HK1.out; have := HK2.out; omega⟩, ⟨by (with_reducible repeat (first | apply Kd.R_alloc | apply Kd.R_drewN | apply Kd.R_drew)); exact Kd.R_mono HO529.out (fun _ hk => trivial)⟩, ⟨by repeat (first | (with_reducible first | exact HI0.out | apply IsS27.alloc | apply IsS27.drewN | apply IsS27.drew | apply IsS27.set_0) | exact HI0.out)⟩, ⟨by repeat (first | (with_reducible first | exact HK.out | apply KeepBut.set_ | apply keep_drewN | apply keep_drew | apply keep_alloc) | exact HK.out)⟩, ⟨by repeat (first | (with_reducible first | exact HB.out | apply below_alloc | apply pw_below_drewN | apply below_drew1 | refine below_set ?_ (IsS27.ge HI0.out)) | exact HB.out)⟩⟩
                    · rw [if_neg c10] at H
                      have c10b0 : decide (x5_2 < (rd (rd_L1 s0_1 x4_1) x6_2)) = false := decide_eq_false c10
                      clear c10
                      replace H := Option.bind_eq_some_iff.mp H
                      obtain ⟨t531, A160, H⟩ := H
                      replace H : (spec_l09Blockers.l1 k2 x3_2 x4_1 t531 (wrap64 (x6_2 + 1)) s0_0 s0_1) = some (r1, r2) := H
                      have A16 := Aside0.mk A160
                      clear A160
                      have H' := Aside0.mk H
                      clear H
                      obtain ⟨ASz17_1, cSz17_1, HGz17, hgz17, HSz17_1⟩ := HI0.out
                      have hcz17_0 := cellS27_0 HGz17
                      have hcz17_1 := cellS27_1 HGz17
                      have hfz17_0 := blk_frozen HGz17 0
                      clear HGz17 hgz17
                      have p524 : 0 ≤ (x4_1 : Int) := of_decide_eq_true (by first | (with_reducible assumption) | assumption)
                      have q524 : x4_1 < (s0_1.length : Int) := of_decide_eq_true (by first | (with_reducible assumption) | assumption)
                      obtain ⟨ad524, A524_0, c524_0, e524, hx524_0, hl524_0, hi524_0⟩ := at_L1 HSz17_1 x4_1 p524 q524
                      cases e524
                      replace hx524_0 := pw_cell_below HB.out hx524_0
                      have HR524_0 := Aside0.mk (Kd.C_below hi524_0 HB.out)
                      have HC524_0 := Aside0.mk hl524_0
                      clear hi524_0 hl524_0
                      replace p524 := eq_true p524
                      replace q524 := eq_true q524
                      have p525 : 0 ≤ (x4_1 : Int) := of_decide_eq_true (by first | (with_reducible assumption) | assumption)
                      have q525 : x4_1 < (s0_1.length : Int) := of_decide_eq_true (by first | (with_reducible assumption) | assumption)
                      obtain ⟨ad525, A525_0, c525_0, e525, hx525_0, hl525_0, hi525_0⟩ := at_L1 HSz17_1 x4_1 p525 q525
                      obtain rfl : ad524 = ad525 := (by injection e525)
                      replace hx525_0 := pw_cell_below HB.out hx525_0
                      first | (have hq_ := hx524_0.symm.trans hx525_0; injection hq_ with hq_; injection hq_ with hqa_ hqb_ hqc_; subst hqa_ hqc_; clear hqb_) | skip
                      have HR525_0 := Aside0.mk (Kd.C_below hi525_0 HB.out)
                      have HC525_0 := Aside0.mk hl525_0
                      clear hi525_0 hl525_0
                      replace p525 := eq_true p525
                      replace q525 := eq_true q525
                      have p526 : 0 ≤ (x6_2 : Int) := of_decide_eq_true (by first | (with_reducible assumption) | assumption)
                      have q526 : x6_2 < ((rd_L1 s0_1 x4_1).length : Int) := of_decide_eq_true (by first | (with_reducible assumption) | assumption)
                      obtain ⟨ad526, e526, hx526_0⟩ := Kd.at_int HR525_0.out x6_2 p526 q526
                      cases e526
                      replace p526 := eq_true p526
                      replace q526 := eq_true q526
                      go_wp2_with (first | ((with_reducible refine gate_callee (f := 75) rfl ?_); refine goesL_ (some 48) rfl rfl Try.func75 (by kernel_rfl) rfl #[.int .i64 x5_2, .int .i64 (rd (rd_L1 s0_1 x4_1) x6_2)] rfl (by (try simp only [List.map_toArray, List.map_cons, List.map_nil]); first | done | rfl | (simp only [List.length_drop, List.length_take]; rfl)) ?_; (with_reducible refine (spec_l00Min.calls x5_2 (rd (rd_L1 s0_1 x4_1) x6_2) t531 _ A16.out).mono ?_); rintro e w' ⟨rfl, ⟨nd, rfl⟩⟩; refine ⟨_, rfl, ?_⟩))
                      go_roundg k2
                      case measure => have := HK1.out; have := HK2.out; omega
                      case rel => exact ⟨(x3_2), (t531), (wrap64 (x6_2 + 1)), (by first | rfl | (simp; done) | (simp [*]; done)), (by first | rfl | (simp; done) | (simp [*]; done)), H', ⟨by have := HK1.out; have := HK2.out; omega⟩, ⟨by (with_reducible repeat (first | apply Kd.R_alloc | apply Kd.R_drewN | apply Kd.R_drew)); exact HO_3.out⟩, ⟨by repeat (first | (with_reducible first | exact HI0.out | apply IsS27.alloc | apply IsS27.drewN | apply IsS27.drew | apply IsS27.set_0) | exact HI0.out)⟩, ⟨by repeat (first | (with_reducible first | exact HK.out | apply KeepBut.set_ | apply keep_drewN | apply keep_drew | apply keep_alloc) | exact HK.out)⟩, ⟨by repeat (first | (with_reducible first | exact HB.out | apply below_alloc | apply pw_below_drewN | apply below_drew1 | refine below_set ?_ (IsS27.ge HI0.out)) | exact HB.out)⟩⟩
                  · rw [if_neg c9] at H
                    exact absurd H (by simp)
                · rw [if_neg c8] at H
                  have c8b0 : decide (x6_2 < ((rd_L1 s0_1 x4_1).length : Int)) = false := decide_eq_false c8
                  clear c8
                  have H' := Aside0.mk H
                  clear H
                  obtain ⟨ASz18_1, cSz18_1, HGz18, hgz18, HSz18_1⟩ := HI0.out
                  have hcz18_0 := cellS27_0 HGz18
                  have hcz18_1 := cellS27_1 HGz18
                  have hfz18_0 := blk_frozen HGz18 0
                  clear HGz18 hgz18
                  have p524 : 0 ≤ (x4_1 : Int) := of_decide_eq_true (by first | (with_reducible assumption) | assumption)
                  have q524 : x4_1 < (s0_1.length : Int) := of_decide_eq_true (by first | (with_reducible assumption) | assumption)
                  obtain ⟨ad524, A524_0, c524_0, e524, hx524_0, hl524_0, hi524_0⟩ := at_L1 HSz18_1 x4_1 p524 q524
                  cases e524
                  replace hx524_0 := pw_cell_below HB.out hx524_0
                  have HR524_0 := Aside0.mk (Kd.C_below hi524_0 HB.out)
                  have HC524_0 := Aside0.mk hl524_0
                  clear hi524_0 hl524_0
                  replace p524 := eq_true p524
                  replace q524 := eq_true q524
                  go_wp2
                  go_roundg k2
                  case measure => have := HK1.out; have := HK2.out; omega
                  case rel => exact ⟨(x3_2), (wrap64 (x4_1 + 1)), (by first | rfl | (simp; done) | (simp [*]; done)), H', ⟨by have := HK1.out; have := HK2.out; omega⟩, ⟨by (with_reducible repeat (first | apply Kd.R_alloc | apply Kd.R_drewN | apply Kd.R_drew)); exact HO_3.out⟩, ⟨by repeat (first | (with_reducible first | exact HI0.out | apply IsS27.alloc | apply IsS27.drewN | apply IsS27.drew | apply IsS27.set_0) | exact HI0.out)⟩, ⟨by repeat (first | (with_reducible first | exact HK.out | apply KeepBut.set_ | apply keep_drewN | apply keep_drew | apply keep_alloc) | exact HK.out)⟩, ⟨by repeat (first | (with_reducible first | exact HB.out | apply below_alloc | apply pw_below_drewN | apply below_drew1 | refine below_set ?_ (IsS27.ge HI0.out)) | exact HB.out)⟩⟩
              · rw [if_neg c7] at H
                exact absurd H (by simp)
            · rw [if_neg c6] at H
              exact absurd H (by simp)
      · rw [if_neg c4] at H
        have c4b0 : decide (x4_1 < (s0_1.length : Int)) = false := decide_eq_false c4
        clear c4
        simp only [Option.some.injEq, Prod.mk.injEq] at H
        obtain ⟨rfl, rfl⟩ := H
        obtain ⟨ASz19_1, cSz19_1, HGz19, hgz19, HSz19_1⟩ := HI0.out
        have hcz19_0 := cellS27_0 HGz19
        have hcz19_1 := cellS27_1 HGz19
        have hfz19_0 := blk_frozen HGz19 0
        clear HGz19 hgz19
        go_wp2
        go_ret
        exact ⟨_, by first | rfl | (simp [errW_none, errW_some] <;> rfl) | (simp [*, errW_none, errW_some] <;> rfl), by (with_reducible repeat (first | apply Kd.R_alloc | apply Kd.R_drewN | apply Kd.R_drew)); exact HO_3.out, by repeat (first | (with_reducible first | exact HI0.out | apply IsS27.alloc | apply IsS27.drewN | apply IsS27.drew | apply IsS27.set_0) | exact HI0.out), by repeat (first | (with_reducible first | exact HB.out | apply below_alloc | apply pw_below_drewN | apply below_drew1 | refine below_set ?_ (IsS27.ge HI0.out)) | exact HB.out), by repeat (first | (with_reducible first | exact HK.out | apply KeepBut.set_ | apply keep_drewN | apply keep_drew | apply keep_alloc) | exact HK.out)⟩

end Go.Proofs.Ytibaiaenfeppcaa.Q

-- mended

-- made by a patched copy of print.sh: this session's own
namespace Go.Proofs.Ytibaiaenfeppcaa.Q
open Go.RowKit Go.Proofs.YtibaiaenfeppcaaW.PrintWords Go.Proofs.YtibaiaenfeppcaaW.PrintLast Go.Proofs.YtibaiaenfeppcaaW.PrintMore
attribute [local go_sem] max2_int min2_int max_two min_two max_three min_three max_four min_four   -- for this text's walks alone
set_option linter.unusedVariables false
set_option linter.unusedSimpArgs false

/-! ### spec_BlockersOf: function 28 -/
def spec_BlockersOf.f (k : Nat) (a0_0 : Int) (l0_1 : List (List Int)) : Option (List Int × Bool) := (spec_l09Yard.f k a0_0 l0_1).bind fun bt533 => (if bt533.1 = true then ((spec_l09Blockers.f k bt533.2 l0_1).bind fun bt535 => (some (bt535.1, true))) else (some (([] : List Int), false)))
theorem spec_BlockersOf.mono : ∀ a0 a1 k, LeO (spec_BlockersOf.f k a0 a1) (spec_BlockersOf.f (k + 1) a0 a1) := by
  intro a0 a1 k
  unfold spec_BlockersOf.f
  repeat' first
      | (with_reducible exact spec_l09Blockers.mono _ _ _)
      | (with_reducible exact spec_l09Yard.mono _ _ _)
      | (with_reducible exact LeO.refl _)
      | (with_reducible exact LeO.none _)
      | (with_reducible refine LeO.ite ?_ ?_)
      | (with_reducible refine LeO.bind ?_ (fun _ => ?_))
      | exact spec_l09Blockers.mono _ _ _
      | exact spec_l09Yard.mono _ _ _
      | exact LeO.none _
      | refine LeO.ite ?_ ?_
      | refine LeO.bind ?_ (fun _ => ?_)
set_option maxHeartbeats 8000000 in
set_option maxRecDepth 100000 in
theorem spec_BlockersOf.calls (k : Nat) (a0_0 : Int) (A0_1 : Option Addr) (c0_1 : Nat) (l0_1 : List (List Int)) (r1 : List Int) (r2 : Bool) (w : World) (hr0_1 : Kd.C (Kd.slice 2 (Kd.int .i64)) w A0_1 l0_1.length l0_1) (hc0_1 : l0_1.length ≤ c0_1) (h : spec_BlockersOf.f k a0_0 l0_1 = some (r1, r2)) :
    Calls Try.prog 28 #[.agg #[.int .i64 a0_0, .slice A0_1 l0_1.length c0_1]] w fun e w' => ∃ v0_ : Value, e = .returned (.tuple #[v0_, .bool r2]) ∧ Kd.R (Kd.int .i64) 2 w' w.heap.size (fun _ => True) v0_ r1 ∧ Below w.heap.size w w' := by
  have hu27 := Try.underlying27
  have HR0_1 := Aside0.mk hr0_1
  have HC0_1 := Aside0.mk hc0_1
  clear hr0_1 hc0_1
  have HB := Aside0.mk (Below.refl w.heap.size w)
  have H : ((spec_l09Yard.f k a0_0 l0_1).bind fun bt533 => (if bt533.1 = true then ((spec_l09Blockers.f k bt533.2 l0_1).bind fun bt535 => (some (bt535.1, true))) else (some (([] : List Int), false)))) = some (r1, r2) := h
  clear h
  replace H := Option.bind_eq_some_iff.mp H
  obtain ⟨⟨t533, t534⟩, A20, H⟩ := H
  replace H : (if t533 = true then ((spec_l09Blockers.f k t534 l0_1).bind fun bt535 => (some (bt535.1, true))) else (some (([] : List Int), false))) = some (r1, r2) := H
  have A2 := Aside0.mk A20
  clear A20
  by_cases c3 : t533 = true
  · subst c3
    have H1 : ((spec_l09Blockers.f k t534 l0_1).bind fun bt535 => (some (bt535.1, true))) = some (r1, r2) := by rw [if_pos rfl] at H; exact H
    clear H
    have H := H1
    clear H1
    replace H := Option.bind_eq_some_iff.mp H
    obtain ⟨⟨t535, t538⟩, A40, H⟩ := H
    replace H : (some (t535, true)) = some (r1, r2) := H
    have A4 := Aside0.mk A40
    clear A40
    simp only [Option.some.injEq, Prod.mk.injEq] at H
    obtain ⟨rfl, rfl⟩ := H
    go_enter Try.func28, Try.ntmps28
    go_wp2_with (first | ((with_reducible refine gate_dst (N := 1) rfl ?_); refine box_event ?hg (N := 1) ?hd (cs := #[.int .i64 a0_0, .slice A0_1 l0_1.length c0_1]) (t := 27) ?hr ?_; (case hd => rfl); (case hg => rfl); (case hr => first | (go_simp; done) | (go_simp; rfl)); intro gb532 hg w5 hbox hb; have n0_ := Aside0.mk (below_step (by repeat (first | (with_reducible first | exact HB.out | apply below_alloc | apply pw_below_drewN | apply below_drew1) | exact HB.out)) hb); have n1_ := Aside0.mk ((by rw [hg]; exact (below_size (by repeat (first | (with_reducible first | exact HB.out | apply below_alloc | apply pw_below_drewN | apply below_drew1) | exact HB.out))) : w.heap.size ≤ gb532)); have n2_ := Aside0.mk ((by rw [hg]; exact (below_size (by repeat (first | (with_reducible first | exact HB.out | apply below_alloc | apply pw_below_drewN | apply below_drew1) | exact HB.out))) : w.heap.size ≤ gb532)); have n3_ := Aside0.mk ((⟨A0_1, c0_1, hbox, (by rw [hg]; exact (below_size (by repeat (first | (with_reducible first | exact HB.out | apply below_alloc | apply pw_below_drewN | apply below_drew1) | exact HB.out)))), HR0_1.out⟩ : IsS27 w w5 gb532 a0_0 l0_1)); clear HB; have HB := n0_; have GW532 := n1_; have GE532 := n2_; have HI532 := n3_; clear n0_ n1_ n2_ n3_; clear hb hbox hg) | ((with_reducible refine gate_callee (f := 38) rfl ?_); refine goesL_ (some 4) rfl rfl Try.func38 (by kernel_rfl) rfl #[.pointer (some ⟨gb532, 0, none⟩)] rfl (by (try simp only [List.map_toArray, List.map_cons, List.map_nil]); first | done | rfl | (simp only [List.length_drop, List.length_take]; rfl)) ?_; (with_reducible refine (spec_l09Yard.calls k gb532 a0_0 l0_1 true t534 w _ ?side1 ?side2 A2.out).mono ?_); (case side1 => repeat (first | (with_reducible first | exact HI532.out | apply IsS27.alloc | apply IsS27.drewN | apply IsS27.drew | apply IsS27.set_0) | exact HI532.out)); (case side2 => repeat (first | (with_reducible first | exact HB.out | apply below_alloc | apply pw_below_drewN | apply below_drew1 | refine below_set ?_ (IsS27.ge HI532.out)) | exact HB.out)); rintro e w6 ⟨rfl, hi, hb, hk⟩; refine ⟨_, rfl, ?_⟩; have n0_ := Aside0.mk (hb); have n1_ := Aside0.mk (hi); clear HB; clear HI532; have HB := n0_; have HI532 := n1_; clear n0_ n1_; (try clear hb); (try clear hb2); (try clear hk); (try clear hi)) | ((with_reducible refine gate_callee (f := 53) rfl ?_); refine goesL_ (some 6) rfl rfl Try.func53 (by kernel_rfl) rfl #[.pointer (some ⟨gb532, 0, none⟩)] rfl (by (try simp only [List.map_toArray, List.map_cons, List.map_nil]); first | done | rfl | (simp only [List.length_drop, List.length_take]; rfl)) ?_; (with_reducible refine (spec_l09Blockers.calls k gb532 t534 l0_1 t535 t538 w _ ?side1 ?side2 A4.out).mono ?_); (case side1 => repeat (first | (with_reducible first | exact HI532.out | apply IsS27.alloc | apply IsS27.drewN | apply IsS27.drew | apply IsS27.set_0) | exact HI532.out)); (case side2 => repeat (first | (with_reducible first | exact HB.out | apply below_alloc | apply pw_below_drewN | apply below_drew1 | refine below_set ?_ (IsS27.ge HI532.out)) | exact HB.out)); rintro e w7 ⟨v536, rfl, ho0, hi, hb, hk⟩; refine ⟨_, rfl, ?_⟩; have n0_ := Aside0.mk (Kd.R_lower ho0 (below_size (by repeat (first | (with_reducible first | exact HB.out | apply below_alloc | apply pw_below_drewN | apply below_drew1 | refine below_set ?_ (IsS27.ge HI532.out)) | exact HB.out)))); have n1_ := Aside0.mk (hb); have n2_ := Aside0.mk (hi); clear HB; clear HI532; have HO537 := n0_; have HB := n1_; have HI532 := n2_; clear n0_ n1_ n2_; (try clear hb); (try clear hb2); (try clear hk); (try clear hi); (try clear ho0)))
    go_ret2
    exact ⟨_, by first | rfl | (simp [errW_none, errW_some] <;> rfl) | (simp [*, errW_none, errW_some] <;> rfl), by (with_reducible repeat (first | apply Kd.R_alloc | apply Kd.R_drewN | apply Kd.R_drew)); exact HO537.out, by repeat (first | (with_reducible first | exact HB.out | apply below_alloc | apply pw_below_drewN | apply below_drew1 | refine below_set ?_ (IsS27.ge HI532.out)) | exact HB.out)⟩
  · replace c3 := Bool.eq_false_iff.mpr c3
    subst c3
    have H1 : (some (([] : List Int), false)) = some (r1, r2) := by rw [if_neg (show ¬ (false = true) by decide)] at H; exact H
    clear H
    have H := H1
    clear H1
    simp only [Option.some.injEq, Prod.mk.injEq] at H
    obtain ⟨rfl, rfl⟩ := H
    go_enter Try.func28, Try.ntmps28
    go_wp2_with (first | ((with_reducible refine gate_dst (N := 1) rfl ?_); refine box_event ?hg (N := 1) ?hd (cs := #[.int .i64 a0_0, .slice A0_1 l0_1.length c0_1]) (t := 27) ?hr ?_; (case hd => rfl); (case hg => rfl); (case hr => first | (go_simp; done) | (go_simp; rfl)); intro gb532 hg w8 hbox hb; have n0_ := Aside0.mk (below_step (by repeat (first | (with_reducible first | exact HB.out | apply below_alloc | apply pw_below_drewN | apply below_drew1) | exact HB.out)) hb); have n1_ := Aside0.mk ((by rw [hg]; exact (below_size (by repeat (first | (with_reducible first | exact HB.out | apply below_alloc | apply pw_below_drewN | apply below_drew1) | exact HB.out))) : w.heap.size ≤ gb532)); have n2_ := Aside0.mk ((by rw [hg]; exact (below_size (by repeat (first | (with_reducible first | exact HB.out | apply below_alloc | apply pw_below_drewN | apply below_drew1) | exact HB.out))) : w.heap.size ≤ gb532)); have n3_ := Aside0.mk ((⟨A0_1, c0_1, hbox, (by rw [hg]; exact (below_size (by repeat (first | (with_reducible first | exact HB.out | apply below_alloc | apply pw_below_drewN | apply below_drew1) | exact HB.out)))), HR0_1.out⟩ : IsS27 w w8 gb532 a0_0 l0_1)); clear HB; have HB := n0_; have GW532 := n1_; have GE532 := n2_; have HI532 := n3_; clear n0_ n1_ n2_ n3_; clear hb hbox hg) | ((with_reducible refine gate_callee (f := 38) rfl ?_); refine goesL_ (some 4) rfl rfl Try.func38 (by kernel_rfl) rfl #[.pointer (some ⟨gb532, 0, none⟩)] rfl (by (try simp only [List.map_toArray, List.map_cons, List.map_nil]); first | done | rfl | (simp only [List.length_drop, List.length_take]; rfl)) ?_; (with_reducible refine (spec_l09Yard.calls k gb532 a0_0 l0_1 false t534 w _ ?side1 ?side2 A2.out).mono ?_); (case side1 => repeat (first | (with_reducible first | exact HI532.out | apply IsS27.alloc | apply IsS27.drewN | apply IsS27.drew | apply IsS27.set_0) | exact HI532.out)); (case side2 => repeat (first | (with_reducible first | exact HB.out | apply below_alloc | apply pw_below_drewN | apply below_drew1 | refine below_set ?_ (IsS27.ge HI532.out)) | exact HB.out)); rintro e w9 ⟨rfl, hi, hb, hk⟩; refine ⟨_, rfl, ?_⟩; have n0_ := Aside0.mk (hb); have n1_ := Aside0.mk (hi); clear HB; clear HI532; have HB := n0_; have HI532 := n1_; clear n0_ n1_; (try clear hb); (try clear hb2); (try clear hk); (try clear hi)))
    go_ret2
    exact ⟨_, by first | rfl | (simp [errW_none, errW_some] <;> rfl) | (simp [*, errW_none, errW_some] <;> rfl), by first | exact Kd.R_nil _ _ _ _ _ | exact Kd.N_nil _ _ _ _ _ | exact Kd.V_nil _ _ _ _ _ | exact Kd.Q_nil _ _ _ _ _ | exact Kd.S_nil _ _ _ _ _, by repeat (first | (with_reducible first | exact HB.out | apply below_alloc | apply pw_below_drewN | apply below_drew1 | refine below_set ?_ (IsS27.ge HI532.out)) | exact HB.out)⟩

end Go.Proofs.Ytibaiaenfeppcaa.Q

-- made by a patched copy of print.sh: this session's own
namespace Go.Proofs.Ytibaiaenfeppcaa.Q
open Go.RowKit Go.Proofs.YtibaiaenfeppcaaW.PrintWords Go.Proofs.YtibaiaenfeppcaaW.PrintLast Go.Proofs.YtibaiaenfeppcaaW.PrintMore
attribute [local go_sem] max2_int min2_int max_two min_two max_three min_three max_four min_four   -- for this text's walks alone
set_option linter.unusedVariables false
set_option linter.unusedSimpArgs false

/-! ### slices_Sort_int64_int64: function 47 -/
def slices_Sort_int64_int64.f (l0 : List Int) : Option (List Int) := if l0.length ≤ 1000000 then some (Sv.srt l0) else none
theorem slices_Sort_int64_int64.calls (P0_ : Nat → Prop) (u9000_ : Value) (l0 : List Int) (r : List Int) (w0 w : World) (hB : Below w0.heap.size w0 w) (ho0 : Kd.R (Kd.int .i64) 2 w w0.heap.size P0_ u9000_ l0) (h : slices_Sort_int64_int64.f l0 = some r) :
    Calls Try.prog 47 #[u9000_] w fun e w' => e = .returned (.tuple #[]) ∧ Kd.R (Kd.int .i64) 2 w' w0.heap.size (fun k_ => (P0_ k_ ∨ w.heap.size ≤ k_)) u9000_ r ∧ Below w0.heap.size w0 w' ∧ Kept w w' (fun k_ => P0_ k_) := by
  unfold slices_Sort_int64_int64.f at h
  split at h
  · obtain rfl := Option.some.inj h
    exact Yv.sort_R P0_ u9000_ l0 ‹_› w0 w hB ho0
  · cases h

end Go.Proofs.Ytibaiaenfeppcaa.Q

