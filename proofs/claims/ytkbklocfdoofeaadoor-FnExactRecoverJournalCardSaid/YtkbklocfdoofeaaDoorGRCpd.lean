/- Parts of the proof that the law of this seat holds: Q76, Q77, Vc6, Vc7, Vc9, PuR, Wb, Hb, AdA, AdB, Hk, Hm, Hl, Hn, PuRc, PuRi, PuRj, Q133, Q64, Q46, Q47, Q69, PuJ, Mk, PuH, Ml, RcW. -/
import Derived.Test.YtkbklocfdoofeaaDoorGRCpa
import Derived.Test.YtkbklocfdoofeaaDoorGRCpc
import Derived.Test.YtkbklocfdoofeaaDoorGRCw
import Derived.Test.YtkbklocfdoofeaaDoorGRCpb
import Derived.Lib.Hide
import Derived.Deep.RegionWith
set_option linter.unusedVariables false
set_option linter.unusedSimpArgs false
-- made by a patched copy of print.sh: this session's own
namespace Go.Proofs.YtkbklocfdoofeaaDoor.Q
open Go.RowKit Go.Proofs.YtkbklocfdoofeaaDoorW.PrintWords Go.Proofs.YtkbklocfdoofeaaDoorW.PrintLast Go.Proofs.YtkbklocfdoofeaaDoorW.PrintMore
attribute [local go_sem] max2_int min2_int max_two min_two max_three min_three max_four min_four   -- for this text's walks alone
set_option linter.unusedVariables false
set_option linter.unusedSimpArgs false

/-! ### laws_eqDeed: function 29 -/
def laws_eqDeed.f (a0_0 : Int) (a0_1 : Int) (a0_2 : Int) (a0_3 : Int) (a0_4 : Int) (a0_5 : Int) (a0_6 : Int) (a0_7 : Int) (a0_8 : Int) (a1_0 : Int) (a1_1 : Int) (a1_2 : Int) (a1_3 : Int) (a1_4 : Int) (a1_5 : Int) (a1_6 : Int) (a1_7 : Int) (a1_8 : Int) : Option (Bool) := if a0_0 = a1_0 then (if a0_1 = a1_1 then (if a0_2 = a1_2 then (if a0_3 = a1_3 then ((laws_eqRing.f a0_4 a0_5 a1_4 a1_5).bind fun t349 => (if t349 = true then (if a0_6 = a1_6 then (if a0_7 = a1_7 then (if a0_8 = a1_8 then (some true) else (some false)) else (some false)) else (some false)) else (some false))) else (some false)) else (some false)) else (some false)) else (some false)
set_option maxHeartbeats 8000000 in
set_option maxRecDepth 100000 in
theorem laws_eqDeed.calls (a0_0 : Int) (a0_1 : Int) (a0_2 : Int) (a0_3 : Int) (a0_4 : Int) (a0_5 : Int) (a0_6 : Int) (a0_7 : Int) (a0_8 : Int) (a1_0 : Int) (a1_1 : Int) (a1_2 : Int) (a1_3 : Int) (a1_4 : Int) (a1_5 : Int) (a1_6 : Int) (a1_7 : Int) (a1_8 : Int) (r : Bool) (w : World) (h : laws_eqDeed.f a0_0 a0_1 a0_2 a0_3 a0_4 a0_5 a0_6 a0_7 a0_8 a1_0 a1_1 a1_2 a1_3 a1_4 a1_5 a1_6 a1_7 a1_8 = some r) :
    Calls Tryd.prog 29 #[.agg #[.int .i64 a0_0, .int .i64 a0_1, .int .i64 a0_2, .int .i64 a0_3, .int .i64 a0_4, .int .i64 a0_5, .int .i64 a0_6, .int .i64 a0_7, .int .i64 a0_8], .agg #[.int .i64 a1_0, .int .i64 a1_1, .int .i64 a1_2, .int .i64 a1_3, .int .i64 a1_4, .int .i64 a1_5, .int .i64 a1_6, .int .i64 a1_7, .int .i64 a1_8]] w fun e w' => e = .returned (.bool r) ∧ Below w.heap.size w w' := by
  have hu41 := Tryd.underlying41
  have hu39 := Tryd.underlying39
  have HB := Aside0.mk (Below.refl w.heap.size w)
  have H : (if a0_0 = a1_0 then (if a0_1 = a1_1 then (if a0_2 = a1_2 then (if a0_3 = a1_3 then ((laws_eqRing.f a0_4 a0_5 a1_4 a1_5).bind fun t349 => (if t349 = true then (if a0_6 = a1_6 then (if a0_7 = a1_7 then (if a0_8 = a1_8 then (some true) else (some false)) else (some false)) else (some false)) else (some false))) else (some false)) else (some false)) else (some false)) else (some false)) = some r := h
  clear h
  by_cases c3 : a0_0 = a1_0
  · rw [if_pos c3] at H
    have c3b0 : (a0_0 == a1_0) = true := beq_iff_eq.mpr c3
    have c3b1 : (a0_0 != a1_0) = false := bne_eq_false_iff_eq.mpr c3
    clear c3
    by_cases c4 : a0_1 = a1_1
    · rw [if_pos c4] at H
      have c4b0 : (a0_1 == a1_1) = true := beq_iff_eq.mpr c4
      have c4b1 : (a0_1 != a1_1) = false := bne_eq_false_iff_eq.mpr c4
      clear c4
      by_cases c5 : a0_2 = a1_2
      · rw [if_pos c5] at H
        have c5b0 : (a0_2 == a1_2) = true := beq_iff_eq.mpr c5
        have c5b1 : (a0_2 != a1_2) = false := bne_eq_false_iff_eq.mpr c5
        clear c5
        by_cases c6 : a0_3 = a1_3
        · rw [if_pos c6] at H
          have c6b0 : (a0_3 == a1_3) = true := beq_iff_eq.mpr c6
          have c6b1 : (a0_3 != a1_3) = false := bne_eq_false_iff_eq.mpr c6
          clear c6
          replace H := Option.bind_eq_some_iff.mp H
          obtain ⟨t349, A70, H⟩ := H
          replace H : (if t349 = true then (if a0_6 = a1_6 then (if a0_7 = a1_7 then (if a0_8 = a1_8 then (some true) else (some false)) else (some false)) else (some false)) else (some false)) = some r := H
          have A7 := Aside0.mk A70
          clear A70
          by_cases c8 : t349 = true
          · subst c8
            have H1 : (if a0_6 = a1_6 then (if a0_7 = a1_7 then (if a0_8 = a1_8 then (some true) else (some false)) else (some false)) else (some false)) = some r := by rw [if_pos rfl] at H; exact H
            clear H
            have H := H1
            clear H1
            by_cases c9 : a0_6 = a1_6
            · rw [if_pos c9] at H
              have c9b0 : (a0_6 == a1_6) = true := beq_iff_eq.mpr c9
              have c9b1 : (a0_6 != a1_6) = false := bne_eq_false_iff_eq.mpr c9
              clear c9
              by_cases c10 : a0_7 = a1_7
              · rw [if_pos c10] at H
                have c10b0 : (a0_7 == a1_7) = true := beq_iff_eq.mpr c10
                have c10b1 : (a0_7 != a1_7) = false := bne_eq_false_iff_eq.mpr c10
                clear c10
                by_cases c11 : a0_8 = a1_8
                · rw [if_pos c11] at H
                  have c11b0 : (a0_8 == a1_8) = true := beq_iff_eq.mpr c11
                  have c11b1 : (a0_8 != a1_8) = false := bne_eq_false_iff_eq.mpr c11
                  clear c11
                  obtain rfl := Option.some.inj H
                  go_enter Tryd.func29, Tryd.ntmps29
                  go_wp2_with (first | ((with_reducible refine gate_dst (N := 2) rfl ?_); refine box_event ?hg (N := 2) ?hd (cs := #[.int .i64 a0_0, .int .i64 a0_1, .int .i64 a0_2, .int .i64 a0_3, .int .i64 a0_4, .int .i64 a0_5, .int .i64 a0_6, .int .i64 a0_7, .int .i64 a0_8]) (t := 41) ?hr ?_; (case hd => rfl); (case hg => rfl); (case hr => first | (go_simp; done) | (go_simp; rfl)); intro gb347 hg w12 hbox hb; have n0_ := Aside0.mk (below_step (by repeat (first | (with_reducible first | exact HB.out | apply below_alloc | apply pw_below_drewN | apply below_drew1) | exact HB.out)) hb); have n1_ := Aside0.mk (hbox); have n2_ := Aside0.mk ((by rw [hg]; exact (below_size (by repeat (first | (with_reducible first | exact HB.out | apply below_alloc | apply pw_below_drewN | apply below_drew1) | exact HB.out))) : w.heap.size ≤ gb347)); have n3_ := Aside0.mk ((by rw [hg]; exact (below_size (by repeat (first | (with_reducible first | exact HB.out | apply below_alloc | apply pw_below_drewN | apply below_drew1) | exact HB.out))) : w.heap.size ≤ gb347)); clear HB; have HB := n0_; have BK347 := n1_; have GW347 := n2_; have GE347 := n3_; clear n0_ n1_ n2_ n3_; clear hb hbox hg) | ((with_reducible refine gate_dst (N := 3) rfl ?_); refine box_event ?hg (N := 3) ?hd (cs := #[.int .i64 a1_0, .int .i64 a1_1, .int .i64 a1_2, .int .i64 a1_3, .int .i64 a1_4, .int .i64 a1_5, .int .i64 a1_6, .int .i64 a1_7, .int .i64 a1_8]) (t := 41) ?hr ?_; (case hd => rfl); (case hg => rfl); (case hr => first | (go_simp; done) | (go_simp; rfl)); intro gb348 hg w13 hbox hb; have n0_ := Aside0.mk (blk_below (g := gb347) (o := .cells #[.int .i64 a0_0, .int .i64 a0_1, .int .i64 a0_2, .int .i64 a0_3, .int .i64 a0_4, .int .i64 a0_5, .int .i64 a0_6, .int .i64 a0_7, .int .i64 a0_8] 41 (0, 0)) (by (with_reducible repeat (first | refine blk_drewN ?_ _ | refine blk_drew ?_ | refine blk_alloc ?_ _)); exact BK347.out) hb); have n1_ := Aside0.mk (below_step (by repeat (first | (with_reducible first | exact HB.out | apply below_alloc | apply pw_below_drewN | apply below_drew1 | refine below_set ?_ GE347.out) | exact HB.out)) hb); have n2_ := Aside0.mk (hbox); have n3_ := Aside0.mk ((by rw [hg]; exact (below_size (by repeat (first | (with_reducible first | exact HB.out | apply below_alloc | apply pw_below_drewN | apply below_drew1 | refine below_set ?_ GE347.out) | exact HB.out))) : w.heap.size ≤ gb348)); have n4_ := Aside0.mk ((by rw [hg]; exact (below_size (by repeat (first | (with_reducible first | exact HB.out | apply below_alloc | apply pw_below_drewN | apply below_drew1 | refine below_set ?_ GE347.out) | exact HB.out))) : w.heap.size ≤ gb348)); have n5_ := Aside0.mk ((by rw [hg]; exact Nat.ne_of_lt (blk_lt (g := gb347) (o := .cells #[.int .i64 a0_0, .int .i64 a0_1, .int .i64 a0_2, .int .i64 a0_3, .int .i64 a0_4, .int .i64 a0_5, .int .i64 a0_6, .int .i64 a0_7, .int .i64 a0_8] 41 (0, 0)) (by (with_reducible repeat (first | refine blk_drewN ?_ _ | refine blk_drew ?_ | refine blk_alloc ?_ _)); exact BK347.out)) : gb347 ≠ gb348)); have n6_ := Aside0.mk ((by rw [hg]; exact Nat.ne_of_gt (blk_lt (g := gb347) (o := .cells #[.int .i64 a0_0, .int .i64 a0_1, .int .i64 a0_2, .int .i64 a0_3, .int .i64 a0_4, .int .i64 a0_5, .int .i64 a0_6, .int .i64 a0_7, .int .i64 a0_8] 41 (0, 0)) (by (with_reducible repeat (first | refine blk_drewN ?_ _ | refine blk_drew ?_ | refine blk_alloc ?_ _)); exact BK347.out)) : gb348 ≠ gb347)); clear BK347; clear HB; have BK347 := n0_; have HB := n1_; have BK348 := n2_; have GW348 := n3_; have GE348 := n4_; have NB347_348 := n5_; have NB348_347 := n6_; clear n0_ n1_ n2_ n3_ n4_ n5_ n6_; clear hb hbox hg; have hnb14 := NB347_348.out; have hnc14 := NB348_347.out; have hcz15_0 : w13.cell? ⟨gb347, 0, none⟩ = some (.int .i64 a0_0) := (blk_cell BK347.out 0).trans rfl; have hcz15_1 : w13.cell? ⟨gb347, 1, none⟩ = some (.int .i64 a0_1) := (blk_cell BK347.out 1).trans rfl; have hcz15_2 : w13.cell? ⟨gb347, 2, none⟩ = some (.int .i64 a0_2) := (blk_cell BK347.out 2).trans rfl; have hcz15_3 : w13.cell? ⟨gb347, 3, none⟩ = some (.int .i64 a0_3) := (blk_cell BK347.out 3).trans rfl; have hcz15_4 : w13.cell? ⟨gb347, 4, none⟩ = some (.int .i64 a0_4) := (blk_cell BK347.out 4).trans rfl; have hcz15_5 : w13.cell? ⟨gb347, 5, none⟩ = some (.int .i64 a0_5) := (blk_cell BK347.out 5).trans rfl; have hcz15_6 : w13.cell? ⟨gb347, 6, none⟩ = some (.int .i64 a0_6) := (blk_cell BK347.out 6).trans rfl; have hcz15_7 : w13.cell? ⟨gb347, 7, none⟩ = some (.int .i64 a0_7) := (blk_cell BK347.out 7).trans rfl; have hcz15_8 : w13.cell? ⟨gb347, 8, none⟩ = some (.int .i64 a0_8) := (blk_cell BK347.out 8).trans rfl; have hfz15_0 := blk_frozen BK347.out 0; have hfz15_1 := blk_frozen BK347.out 1; have hfz15_2 := blk_frozen BK347.out 2; have hfz15_3 := blk_frozen BK347.out 3; have hfz15_4 := blk_frozen BK347.out 4; have hfz15_5 := blk_frozen BK347.out 5; have hfz15_6 := blk_frozen BK347.out 6; have hfz15_7 := blk_frozen BK347.out 7; have hfz15_8 := blk_frozen BK347.out 8; have hcz16_0 : w13.cell? ⟨gb348, 0, none⟩ = some (.int .i64 a1_0) := (blk_cell BK348.out 0).trans rfl; have hcz16_1 : w13.cell? ⟨gb348, 1, none⟩ = some (.int .i64 a1_1) := (blk_cell BK348.out 1).trans rfl; have hcz16_2 : w13.cell? ⟨gb348, 2, none⟩ = some (.int .i64 a1_2) := (blk_cell BK348.out 2).trans rfl; have hcz16_3 : w13.cell? ⟨gb348, 3, none⟩ = some (.int .i64 a1_3) := (blk_cell BK348.out 3).trans rfl; have hcz16_4 : w13.cell? ⟨gb348, 4, none⟩ = some (.int .i64 a1_4) := (blk_cell BK348.out 4).trans rfl; have hcz16_5 : w13.cell? ⟨gb348, 5, none⟩ = some (.int .i64 a1_5) := (blk_cell BK348.out 5).trans rfl; have hcz16_6 : w13.cell? ⟨gb348, 6, none⟩ = some (.int .i64 a1_6) := (blk_cell BK348.out 6).trans rfl; have hcz16_7 : w13.cell? ⟨gb348, 7, none⟩ = some (.int .i64 a1_7) := (blk_cell BK348.out 7).trans rfl; have hcz16_8 : w13.cell? ⟨gb348, 8, none⟩ = some (.int .i64 a1_8) := (blk_cell BK348.out 8).trans rfl; have hfz16_0 := blk_frozen BK348.out 0; have hfz16_1 := blk_frozen BK348.out 1; have hfz16_2 := blk_frozen BK348.out 2; have hfz16_3 := blk_frozen BK348.out 3; have hfz16_4 := blk_frozen BK348.out 4; have hfz16_5 := blk_frozen BK348.out 5; have hfz16_6 := blk_frozen BK348.out 6; have hfz16_7 := blk_frozen BK348.out 7; have hfz16_8 := blk_frozen BK348.out 8) | ((with_reducible refine gate_callee (f := 62) rfl ?_); refine goesL_ (some 29) rfl rfl Tryd.func62 (by kernel_rfl) rfl #[.agg #[.int .i64 a0_4, .int .i64 a0_5], .agg #[.int .i64 a1_4, .int .i64 a1_5]] rfl (by (try simp only [List.map_toArray, List.map_cons, List.map_nil]); first | done | rfl | (simp only [List.length_drop, List.length_take]; rfl)) ?_; (with_reducible refine (laws_eqRing.calls a0_4 a0_5 a1_4 a1_5 true _ A7.out).mono ?_); rintro e w17 ⟨rfl, hb⟩; refine ⟨_, rfl, ?_⟩; have n0_ := Aside0.mk (blk_below (g := gb347) (o := .cells #[.int .i64 a0_0, .int .i64 a0_1, .int .i64 a0_2, .int .i64 a0_3, .int .i64 a0_4, .int .i64 a0_5, .int .i64 a0_6, .int .i64 a0_7, .int .i64 a0_8] 41 (0, 0)) (by (with_reducible repeat (first | refine blk_drewN ?_ _ | refine blk_drew ?_ | refine blk_alloc ?_ _)); exact BK347.out) hb); have n1_ := Aside0.mk (blk_below (g := gb348) (o := .cells #[.int .i64 a1_0, .int .i64 a1_1, .int .i64 a1_2, .int .i64 a1_3, .int .i64 a1_4, .int .i64 a1_5, .int .i64 a1_6, .int .i64 a1_7, .int .i64 a1_8] 41 (0, 0)) (by (with_reducible repeat (first | refine blk_drewN ?_ _ | refine blk_drew ?_ | refine blk_alloc ?_ _)); exact BK348.out) hb); have n2_ := Aside0.mk (below_step (by repeat (first | (with_reducible first | exact HB.out | apply below_alloc | apply pw_below_drewN | apply below_drew1 | refine below_set ?_ GE347.out | refine below_set ?_ GE348.out) | exact HB.out)) hb); clear BK347; clear BK348; clear HB; have BK347 := n0_; have BK348 := n1_; have HB := n2_; clear n0_ n1_ n2_; (try clear hb); (try clear hb2); (try clear hk); (try clear hi); have hcz18_0 : w17.cell? ⟨gb347, 0, none⟩ = some (.int .i64 a0_0) := (blk_cell BK347.out 0).trans rfl; have hcz18_1 : w17.cell? ⟨gb347, 1, none⟩ = some (.int .i64 a0_1) := (blk_cell BK347.out 1).trans rfl; have hcz18_2 : w17.cell? ⟨gb347, 2, none⟩ = some (.int .i64 a0_2) := (blk_cell BK347.out 2).trans rfl; have hcz18_3 : w17.cell? ⟨gb347, 3, none⟩ = some (.int .i64 a0_3) := (blk_cell BK347.out 3).trans rfl; have hcz18_4 : w17.cell? ⟨gb347, 4, none⟩ = some (.int .i64 a0_4) := (blk_cell BK347.out 4).trans rfl; have hcz18_5 : w17.cell? ⟨gb347, 5, none⟩ = some (.int .i64 a0_5) := (blk_cell BK347.out 5).trans rfl; have hcz18_6 : w17.cell? ⟨gb347, 6, none⟩ = some (.int .i64 a0_6) := (blk_cell BK347.out 6).trans rfl; have hcz18_7 : w17.cell? ⟨gb347, 7, none⟩ = some (.int .i64 a0_7) := (blk_cell BK347.out 7).trans rfl; have hcz18_8 : w17.cell? ⟨gb347, 8, none⟩ = some (.int .i64 a0_8) := (blk_cell BK347.out 8).trans rfl; have hfz18_0 := blk_frozen BK347.out 0; have hfz18_1 := blk_frozen BK347.out 1; have hfz18_2 := blk_frozen BK347.out 2; have hfz18_3 := blk_frozen BK347.out 3; have hfz18_4 := blk_frozen BK347.out 4; have hfz18_5 := blk_frozen BK347.out 5; have hfz18_6 := blk_frozen BK347.out 6; have hfz18_7 := blk_frozen BK347.out 7; have hfz18_8 := blk_frozen BK347.out 8; have hcz19_0 : w17.cell? ⟨gb348, 0, none⟩ = some (.int .i64 a1_0) := (blk_cell BK348.out 0).trans rfl; have hcz19_1 : w17.cell? ⟨gb348, 1, none⟩ = some (.int .i64 a1_1) := (blk_cell BK348.out 1).trans rfl; have hcz19_2 : w17.cell? ⟨gb348, 2, none⟩ = some (.int .i64 a1_2) := (blk_cell BK348.out 2).trans rfl; have hcz19_3 : w17.cell? ⟨gb348, 3, none⟩ = some (.int .i64 a1_3) := (blk_cell BK348.out 3).trans rfl; have hcz19_4 : w17.cell? ⟨gb348, 4, none⟩ = some (.int .i64 a1_4) := (blk_cell BK348.out 4).trans rfl; have hcz19_5 : w17.cell? ⟨gb348, 5, none⟩ = some (.int .i64 a1_5) := (blk_cell BK348.out 5).trans rfl; have hcz19_6 : w17.cell? ⟨gb348, 6, none⟩ = some (.int .i64 a1_6) := (blk_cell BK348.out 6).trans rfl; have hcz19_7 : w17.cell? ⟨gb348, 7, none⟩ = some (.int .i64 a1_7) := (blk_cell BK348.out 7).trans rfl; have hcz19_8 : w17.cell? ⟨gb348, 8, none⟩ = some (.int .i64 a1_8) := (blk_cell BK348.out 8).trans rfl; have hfz19_0 := blk_frozen BK348.out 0; have hfz19_1 := blk_frozen BK348.out 1; have hfz19_2 := blk_frozen BK348.out 2; have hfz19_3 := blk_frozen BK348.out 3; have hfz19_4 := blk_frozen BK348.out 4; have hfz19_5 := blk_frozen BK348.out 5; have hfz19_6 := blk_frozen BK348.out 6; have hfz19_7 := blk_frozen BK348.out 7; have hfz19_8 := blk_frozen BK348.out 8))
                  go_ret
                  exact ⟨by first | rfl | (simp [errW_none, errW_some] <;> rfl) | (simp [*, errW_none, errW_some] <;> rfl), by repeat (first | (with_reducible first | exact HB.out | apply below_alloc | apply pw_below_drewN | apply below_drew1 | refine below_set ?_ GE347.out | refine below_set ?_ GE348.out) | exact HB.out)⟩
                · rw [if_neg c11] at H
                  have c11b0 : (a0_8 == a1_8) = false := beq_eq_false_iff_ne.mpr c11
                  have c11b1 : (a0_8 != a1_8) = true := bne_iff_ne.mpr c11
                  obtain rfl := Option.some.inj H
                  go_enter Tryd.func29, Tryd.ntmps29
                  go_wp2_with (first | ((with_reducible refine gate_dst (N := 2) rfl ?_); refine box_event ?hg (N := 2) ?hd (cs := #[.int .i64 a0_0, .int .i64 a0_1, .int .i64 a0_2, .int .i64 a0_3, .int .i64 a0_4, .int .i64 a0_5, .int .i64 a0_6, .int .i64 a0_7, .int .i64 a0_8]) (t := 41) ?hr ?_; (case hd => rfl); (case hg => rfl); (case hr => first | (go_simp; done) | (go_simp; rfl)); intro gb347 hg w20 hbox hb; have n0_ := Aside0.mk (below_step (by repeat (first | (with_reducible first | exact HB.out | apply below_alloc | apply pw_below_drewN | apply below_drew1) | exact HB.out)) hb); have n1_ := Aside0.mk (hbox); have n2_ := Aside0.mk ((by rw [hg]; exact (below_size (by repeat (first | (with_reducible first | exact HB.out | apply below_alloc | apply pw_below_drewN | apply below_drew1) | exact HB.out))) : w.heap.size ≤ gb347)); have n3_ := Aside0.mk ((by rw [hg]; exact (below_size (by repeat (first | (with_reducible first | exact HB.out | apply below_alloc | apply pw_below_drewN | apply below_drew1) | exact HB.out))) : w.heap.size ≤ gb347)); clear HB; have HB := n0_; have BK347 := n1_; have GW347 := n2_; have GE347 := n3_; clear n0_ n1_ n2_ n3_; clear hb hbox hg) | ((with_reducible refine gate_dst (N := 3) rfl ?_); refine box_event ?hg (N := 3) ?hd (cs := #[.int .i64 a1_0, .int .i64 a1_1, .int .i64 a1_2, .int .i64 a1_3, .int .i64 a1_4, .int .i64 a1_5, .int .i64 a1_6, .int .i64 a1_7, .int .i64 a1_8]) (t := 41) ?hr ?_; (case hd => rfl); (case hg => rfl); (case hr => first | (go_simp; done) | (go_simp; rfl)); intro gb348 hg w21 hbox hb; have n0_ := Aside0.mk (blk_below (g := gb347) (o := .cells #[.int .i64 a0_0, .int .i64 a0_1, .int .i64 a0_2, .int .i64 a0_3, .int .i64 a0_4, .int .i64 a0_5, .int .i64 a0_6, .int .i64 a0_7, .int .i64 a0_8] 41 (0, 0)) (by (with_reducible repeat (first | refine blk_drewN ?_ _ | refine blk_drew ?_ | refine blk_alloc ?_ _)); exact BK347.out) hb); have n1_ := Aside0.mk (below_step (by repeat (first | (with_reducible first | exact HB.out | apply below_alloc | apply pw_below_drewN | apply below_drew1 | refine below_set ?_ GE347.out) | exact HB.out)) hb); have n2_ := Aside0.mk (hbox); have n3_ := Aside0.mk ((by rw [hg]; exact (below_size (by repeat (first | (with_reducible first | exact HB.out | apply below_alloc | apply pw_below_drewN | apply below_drew1 | refine below_set ?_ GE347.out) | exact HB.out))) : w.heap.size ≤ gb348)); have n4_ := Aside0.mk ((by rw [hg]; exact (below_size (by repeat (first | (with_reducible first | exact HB.out | apply below_alloc | apply pw_below_drewN | apply below_drew1 | refine below_set ?_ GE347.out) | exact HB.out))) : w.heap.size ≤ gb348)); have n5_ := Aside0.mk ((by rw [hg]; exact Nat.ne_of_lt (blk_lt (g := gb347) (o := .cells #[.int .i64 a0_0, .int .i64 a0_1, .int .i64 a0_2, .int .i64 a0_3, .int .i64 a0_4, .int .i64 a0_5, .int .i64 a0_6, .int .i64 a0_7, .int .i64 a0_8] 41 (0, 0)) (by (with_reducible repeat (first | refine blk_drewN ?_ _ | refine blk_drew ?_ | refine blk_alloc ?_ _)); exact BK347.out)) : gb347 ≠ gb348)); have n6_ := Aside0.mk ((by rw [hg]; exact Nat.ne_of_gt (blk_lt (g := gb347) (o := .cells #[.int .i64 a0_0, .int .i64 a0_1, .int .i64 a0_2, .int .i64 a0_3, .int .i64 a0_4, .int .i64 a0_5, .int .i64 a0_6, .int .i64 a0_7, .int .i64 a0_8] 41 (0, 0)) (by (with_reducible repeat (first | refine blk_drewN ?_ _ | refine blk_drew ?_ | refine blk_alloc ?_ _)); exact BK347.out)) : gb348 ≠ gb347)); clear BK347; clear HB; have BK347 := n0_; have HB := n1_; have BK348 := n2_; have GW348 := n3_; have GE348 := n4_; have NB347_348 := n5_; have NB348_347 := n6_; clear n0_ n1_ n2_ n3_ n4_ n5_ n6_; clear hb hbox hg; have hnb22 := NB347_348.out; have hnc22 := NB348_347.out; have hcz23_0 : w21.cell? ⟨gb347, 0, none⟩ = some (.int .i64 a0_0) := (blk_cell BK347.out 0).trans rfl; have hcz23_1 : w21.cell? ⟨gb347, 1, none⟩ = some (.int .i64 a0_1) := (blk_cell BK347.out 1).trans rfl; have hcz23_2 : w21.cell? ⟨gb347, 2, none⟩ = some (.int .i64 a0_2) := (blk_cell BK347.out 2).trans rfl; have hcz23_3 : w21.cell? ⟨gb347, 3, none⟩ = some (.int .i64 a0_3) := (blk_cell BK347.out 3).trans rfl; have hcz23_4 : w21.cell? ⟨gb347, 4, none⟩ = some (.int .i64 a0_4) := (blk_cell BK347.out 4).trans rfl; have hcz23_5 : w21.cell? ⟨gb347, 5, none⟩ = some (.int .i64 a0_5) := (blk_cell BK347.out 5).trans rfl; have hcz23_6 : w21.cell? ⟨gb347, 6, none⟩ = some (.int .i64 a0_6) := (blk_cell BK347.out 6).trans rfl; have hcz23_7 : w21.cell? ⟨gb347, 7, none⟩ = some (.int .i64 a0_7) := (blk_cell BK347.out 7).trans rfl; have hcz23_8 : w21.cell? ⟨gb347, 8, none⟩ = some (.int .i64 a0_8) := (blk_cell BK347.out 8).trans rfl; have hfz23_0 := blk_frozen BK347.out 0; have hfz23_1 := blk_frozen BK347.out 1; have hfz23_2 := blk_frozen BK347.out 2; have hfz23_3 := blk_frozen BK347.out 3; have hfz23_4 := blk_frozen BK347.out 4; have hfz23_5 := blk_frozen BK347.out 5; have hfz23_6 := blk_frozen BK347.out 6; have hfz23_7 := blk_frozen BK347.out 7; have hfz23_8 := blk_frozen BK347.out 8; have hcz24_0 : w21.cell? ⟨gb348, 0, none⟩ = some (.int .i64 a1_0) := (blk_cell BK348.out 0).trans rfl; have hcz24_1 : w21.cell? ⟨gb348, 1, none⟩ = some (.int .i64 a1_1) := (blk_cell BK348.out 1).trans rfl; have hcz24_2 : w21.cell? ⟨gb348, 2, none⟩ = some (.int .i64 a1_2) := (blk_cell BK348.out 2).trans rfl; have hcz24_3 : w21.cell? ⟨gb348, 3, none⟩ = some (.int .i64 a1_3) := (blk_cell BK348.out 3).trans rfl; have hcz24_4 : w21.cell? ⟨gb348, 4, none⟩ = some (.int .i64 a1_4) := (blk_cell BK348.out 4).trans rfl; have hcz24_5 : w21.cell? ⟨gb348, 5, none⟩ = some (.int .i64 a1_5) := (blk_cell BK348.out 5).trans rfl; have hcz24_6 : w21.cell? ⟨gb348, 6, none⟩ = some (.int .i64 a1_6) := (blk_cell BK348.out 6).trans rfl; have hcz24_7 : w21.cell? ⟨gb348, 7, none⟩ = some (.int .i64 a1_7) := (blk_cell BK348.out 7).trans rfl; have hcz24_8 : w21.cell? ⟨gb348, 8, none⟩ = some (.int .i64 a1_8) := (blk_cell BK348.out 8).trans rfl; have hfz24_0 := blk_frozen BK348.out 0; have hfz24_1 := blk_frozen BK348.out 1; have hfz24_2 := blk_frozen BK348.out 2; have hfz24_3 := blk_frozen BK348.out 3; have hfz24_4 := blk_frozen BK348.out 4; have hfz24_5 := blk_frozen BK348.out 5; have hfz24_6 := blk_frozen BK348.out 6; have hfz24_7 := blk_frozen BK348.out 7; have hfz24_8 := blk_frozen BK348.out 8) | ((with_reducible refine gate_callee (f := 62) rfl ?_); refine goesL_ (some 29) rfl rfl Tryd.func62 (by kernel_rfl) rfl #[.agg #[.int .i64 a0_4, .int .i64 a0_5], .agg #[.int .i64 a1_4, .int .i64 a1_5]] rfl (by (try simp only [List.map_toArray, List.map_cons, List.map_nil]); first | done | rfl | (simp only [List.length_drop, List.length_take]; rfl)) ?_; (with_reducible refine (laws_eqRing.calls a0_4 a0_5 a1_4 a1_5 true _ A7.out).mono ?_); rintro e w25 ⟨rfl, hb⟩; refine ⟨_, rfl, ?_⟩; have n0_ := Aside0.mk (blk_below (g := gb347) (o := .cells #[.int .i64 a0_0, .int .i64 a0_1, .int .i64 a0_2, .int .i64 a0_3, .int .i64 a0_4, .int .i64 a0_5, .int .i64 a0_6, .int .i64 a0_7, .int .i64 a0_8] 41 (0, 0)) (by (with_reducible repeat (first | refine blk_drewN ?_ _ | refine blk_drew ?_ | refine blk_alloc ?_ _)); exact BK347.out) hb); have n1_ := Aside0.mk (blk_below (g := gb348) (o := .cells #[.int .i64 a1_0, .int .i64 a1_1, .int .i64 a1_2, .int .i64 a1_3, .int .i64 a1_4, .int .i64 a1_5, .int .i64 a1_6, .int .i64 a1_7, .int .i64 a1_8] 41 (0, 0)) (by (with_reducible repeat (first | refine blk_drewN ?_ _ | refine blk_drew ?_ | refine blk_alloc ?_ _)); exact BK348.out) hb); have n2_ := Aside0.mk (below_step (by repeat (first | (with_reducible first | exact HB.out | apply below_alloc | apply pw_below_drewN | apply below_drew1 | refine below_set ?_ GE347.out | refine below_set ?_ GE348.out) | exact HB.out)) hb); clear BK347; clear BK348; clear HB; have BK347 := n0_; have BK348 := n1_; have HB := n2_; clear n0_ n1_ n2_; (try clear hb); (try clear hb2); (try clear hk); (try clear hi); have hcz26_0 : w25.cell? ⟨gb347, 0, none⟩ = some (.int .i64 a0_0) := (blk_cell BK347.out 0).trans rfl; have hcz26_1 : w25.cell? ⟨gb347, 1, none⟩ = some (.int .i64 a0_1) := (blk_cell BK347.out 1).trans rfl; have hcz26_2 : w25.cell? ⟨gb347, 2, none⟩ = some (.int .i64 a0_2) := (blk_cell BK347.out 2).trans rfl; have hcz26_3 : w25.cell? ⟨gb347, 3, none⟩ = some (.int .i64 a0_3) := (blk_cell BK347.out 3).trans rfl; have hcz26_4 : w25.cell? ⟨gb347, 4, none⟩ = some (.int .i64 a0_4) := (blk_cell BK347.out 4).trans rfl; have hcz26_5 : w25.cell? ⟨gb347, 5, none⟩ = some (.int .i64 a0_5) := (blk_cell BK347.out 5).trans rfl; have hcz26_6 : w25.cell? ⟨gb347, 6, none⟩ = some (.int .i64 a0_6) := (blk_cell BK347.out 6).trans rfl; have hcz26_7 : w25.cell? ⟨gb347, 7, none⟩ = some (.int .i64 a0_7) := (blk_cell BK347.out 7).trans rfl; have hcz26_8 : w25.cell? ⟨gb347, 8, none⟩ = some (.int .i64 a0_8) := (blk_cell BK347.out 8).trans rfl; have hfz26_0 := blk_frozen BK347.out 0; have hfz26_1 := blk_frozen BK347.out 1; have hfz26_2 := blk_frozen BK347.out 2; have hfz26_3 := blk_frozen BK347.out 3; have hfz26_4 := blk_frozen BK347.out 4; have hfz26_5 := blk_frozen BK347.out 5; have hfz26_6 := blk_frozen BK347.out 6; have hfz26_7 := blk_frozen BK347.out 7; have hfz26_8 := blk_frozen BK347.out 8; have hcz27_0 : w25.cell? ⟨gb348, 0, none⟩ = some (.int .i64 a1_0) := (blk_cell BK348.out 0).trans rfl; have hcz27_1 : w25.cell? ⟨gb348, 1, none⟩ = some (.int .i64 a1_1) := (blk_cell BK348.out 1).trans rfl; have hcz27_2 : w25.cell? ⟨gb348, 2, none⟩ = some (.int .i64 a1_2) := (blk_cell BK348.out 2).trans rfl; have hcz27_3 : w25.cell? ⟨gb348, 3, none⟩ = some (.int .i64 a1_3) := (blk_cell BK348.out 3).trans rfl; have hcz27_4 : w25.cell? ⟨gb348, 4, none⟩ = some (.int .i64 a1_4) := (blk_cell BK348.out 4).trans rfl; have hcz27_5 : w25.cell? ⟨gb348, 5, none⟩ = some (.int .i64 a1_5) := (blk_cell BK348.out 5).trans rfl; have hcz27_6 : w25.cell? ⟨gb348, 6, none⟩ = some (.int .i64 a1_6) := (blk_cell BK348.out 6).trans rfl; have hcz27_7 : w25.cell? ⟨gb348, 7, none⟩ = some (.int .i64 a1_7) := (blk_cell BK348.out 7).trans rfl; have hcz27_8 : w25.cell? ⟨gb348, 8, none⟩ = some (.int .i64 a1_8) := (blk_cell BK348.out 8).trans rfl; have hfz27_0 := blk_frozen BK348.out 0; have hfz27_1 := blk_frozen BK348.out 1; have hfz27_2 := blk_frozen BK348.out 2; have hfz27_3 := blk_frozen BK348.out 3; have hfz27_4 := blk_frozen BK348.out 4; have hfz27_5 := blk_frozen BK348.out 5; have hfz27_6 := blk_frozen BK348.out 6; have hfz27_7 := blk_frozen BK348.out 7; have hfz27_8 := blk_frozen BK348.out 8))
                  go_ret
                  exact ⟨by first | rfl | (simp [errW_none, errW_some] <;> rfl) | (simp [*, errW_none, errW_some] <;> rfl), by repeat (first | (with_reducible first | exact HB.out | apply below_alloc | apply pw_below_drewN | apply below_drew1 | refine below_set ?_ GE347.out | refine below_set ?_ GE348.out) | exact HB.out)⟩
              · rw [if_neg c10] at H
                have c10b0 : (a0_7 == a1_7) = false := beq_eq_false_iff_ne.mpr c10
                have c10b1 : (a0_7 != a1_7) = true := bne_iff_ne.mpr c10
                obtain rfl := Option.some.inj H
                go_enter Tryd.func29, Tryd.ntmps29
                go_wp2_with (first | ((with_reducible refine gate_dst (N := 2) rfl ?_); refine box_event ?hg (N := 2) ?hd (cs := #[.int .i64 a0_0, .int .i64 a0_1, .int .i64 a0_2, .int .i64 a0_3, .int .i64 a0_4, .int .i64 a0_5, .int .i64 a0_6, .int .i64 a0_7, .int .i64 a0_8]) (t := 41) ?hr ?_; (case hd => rfl); (case hg => rfl); (case hr => first | (go_simp; done) | (go_simp; rfl)); intro gb347 hg w28 hbox hb; have n0_ := Aside0.mk (below_step (by repeat (first | (with_reducible first | exact HB.out | apply below_alloc | apply pw_below_drewN | apply below_drew1) | exact HB.out)) hb); have n1_ := Aside0.mk (hbox); have n2_ := Aside0.mk ((by rw [hg]; exact (below_size (by repeat (first | (with_reducible first | exact HB.out | apply below_alloc | apply pw_below_drewN | apply below_drew1) | exact HB.out))) : w.heap.size ≤ gb347)); have n3_ := Aside0.mk ((by rw [hg]; exact (below_size (by repeat (first | (with_reducible first | exact HB.out | apply below_alloc | apply pw_below_drewN | apply below_drew1) | exact HB.out))) : w.heap.size ≤ gb347)); clear HB; have HB := n0_; have BK347 := n1_; have GW347 := n2_; have GE347 := n3_; clear n0_ n1_ n2_ n3_; clear hb hbox hg) | ((with_reducible refine gate_dst (N := 3) rfl ?_); refine box_event ?hg (N := 3) ?hd (cs := #[.int .i64 a1_0, .int .i64 a1_1, .int .i64 a1_2, .int .i64 a1_3, .int .i64 a1_4, .int .i64 a1_5, .int .i64 a1_6, .int .i64 a1_7, .int .i64 a1_8]) (t := 41) ?hr ?_; (case hd => rfl); (case hg => rfl); (case hr => first | (go_simp; done) | (go_simp; rfl)); intro gb348 hg w29 hbox hb; have n0_ := Aside0.mk (blk_below (g := gb347) (o := .cells #[.int .i64 a0_0, .int .i64 a0_1, .int .i64 a0_2, .int .i64 a0_3, .int .i64 a0_4, .int .i64 a0_5, .int .i64 a0_6, .int .i64 a0_7, .int .i64 a0_8] 41 (0, 0)) (by (with_reducible repeat (first | refine blk_drewN ?_ _ | refine blk_drew ?_ | refine blk_alloc ?_ _)); exact BK347.out) hb); have n1_ := Aside0.mk (below_step (by repeat (first | (with_reducible first | exact HB.out | apply below_alloc | apply pw_below_drewN | apply below_drew1 | refine below_set ?_ GE347.out) | exact HB.out)) hb); have n2_ := Aside0.mk (hbox); have n3_ := Aside0.mk ((by rw [hg]; exact (below_size (by repeat (first | (with_reducible first | exact HB.out | apply below_alloc | apply pw_below_drewN | apply below_drew1 | refine below_set ?_ GE347.out) | exact HB.out))) : w.heap.size ≤ gb348)); have n4_ := Aside0.mk ((by rw [hg]; exact (below_size (by repeat (first | (with_reducible first | exact HB.out | apply below_alloc | apply pw_below_drewN | apply below_drew1 | refine below_set ?_ GE347.out) | exact HB.out))) : w.heap.size ≤ gb348)); have n5_ := Aside0.mk ((by rw [hg]; exact Nat.ne_of_lt (blk_lt (g := gb347) (o := .cells #[.int .i64 a0_0, .int .i64 a0_1, .int .i64 a0_2, .int .i64 a0_3, .int .i64 a0_4, .int .i64 a0_5, .int .i64 a0_6, .int .i64 a0_7, .int .i64 a0_8] 41 (0, 0)) (by (with_reducible repeat (first | refine blk_drewN ?_ _ | refine blk_drew ?_ | refine blk_alloc ?_ _)); exact BK347.out)) : gb347 ≠ gb348)); have n6_ := Aside0.mk ((by rw [hg]; exact Nat.ne_of_gt (blk_lt (g := gb347) (o := .cells #[.int .i64 a0_0, .int .i64 a0_1, .int .i64 a0_2, .int .i64 a0_3, .int .i64 a0_4, .int .i64 a0_5, .int .i64 a0_6, .int .i64 a0_7, .int .i64 a0_8] 41 (0, 0)) (by (with_reducible repeat (first | refine blk_drewN ?_ _ | refine blk_drew ?_ | refine blk_alloc ?_ _)); exact BK347.out)) : gb348 ≠ gb347)); clear BK347; clear HB; have BK347 := n0_; have HB := n1_; have BK348 := n2_; have GW348 := n3_; have GE348 := n4_; have NB347_348 := n5_; have NB348_347 := n6_; clear n0_ n1_ n2_ n3_ n4_ n5_ n6_; clear hb hbox hg; have hnb30 := NB347_348.out; have hnc30 := NB348_347.out; have hcz31_0 : w29.cell? ⟨gb347, 0, none⟩ = some (.int .i64 a0_0) := (blk_cell BK347.out 0).trans rfl; have hcz31_1 : w29.cell? ⟨gb347, 1, none⟩ = some (.int .i64 a0_1) := (blk_cell BK347.out 1).trans rfl; have hcz31_2 : w29.cell? ⟨gb347, 2, none⟩ = some (.int .i64 a0_2) := (blk_cell BK347.out 2).trans rfl; have hcz31_3 : w29.cell? ⟨gb347, 3, none⟩ = some (.int .i64 a0_3) := (blk_cell BK347.out 3).trans rfl; have hcz31_4 : w29.cell? ⟨gb347, 4, none⟩ = some (.int .i64 a0_4) := (blk_cell BK347.out 4).trans rfl; have hcz31_5 : w29.cell? ⟨gb347, 5, none⟩ = some (.int .i64 a0_5) := (blk_cell BK347.out 5).trans rfl; have hcz31_6 : w29.cell? ⟨gb347, 6, none⟩ = some (.int .i64 a0_6) := (blk_cell BK347.out 6).trans rfl; have hcz31_7 : w29.cell? ⟨gb347, 7, none⟩ = some (.int .i64 a0_7) := (blk_cell BK347.out 7).trans rfl; have hcz31_8 : w29.cell? ⟨gb347, 8, none⟩ = some (.int .i64 a0_8) := (blk_cell BK347.out 8).trans rfl; have hfz31_0 := blk_frozen BK347.out 0; have hfz31_1 := blk_frozen BK347.out 1; have hfz31_2 := blk_frozen BK347.out 2; have hfz31_3 := blk_frozen BK347.out 3; have hfz31_4 := blk_frozen BK347.out 4; have hfz31_5 := blk_frozen BK347.out 5; have hfz31_6 := blk_frozen BK347.out 6; have hfz31_7 := blk_frozen BK347.out 7; have hfz31_8 := blk_frozen BK347.out 8; have hcz32_0 : w29.cell? ⟨gb348, 0, none⟩ = some (.int .i64 a1_0) := (blk_cell BK348.out 0).trans rfl; have hcz32_1 : w29.cell? ⟨gb348, 1, none⟩ = some (.int .i64 a1_1) := (blk_cell BK348.out 1).trans rfl; have hcz32_2 : w29.cell? ⟨gb348, 2, none⟩ = some (.int .i64 a1_2) := (blk_cell BK348.out 2).trans rfl; have hcz32_3 : w29.cell? ⟨gb348, 3, none⟩ = some (.int .i64 a1_3) := (blk_cell BK348.out 3).trans rfl; have hcz32_4 : w29.cell? ⟨gb348, 4, none⟩ = some (.int .i64 a1_4) := (blk_cell BK348.out 4).trans rfl; have hcz32_5 : w29.cell? ⟨gb348, 5, none⟩ = some (.int .i64 a1_5) := (blk_cell BK348.out 5).trans rfl; have hcz32_6 : w29.cell? ⟨gb348, 6, none⟩ = some (.int .i64 a1_6) := (blk_cell BK348.out 6).trans rfl; have hcz32_7 : w29.cell? ⟨gb348, 7, none⟩ = some (.int .i64 a1_7) := (blk_cell BK348.out 7).trans rfl; have hcz32_8 : w29.cell? ⟨gb348, 8, none⟩ = some (.int .i64 a1_8) := (blk_cell BK348.out 8).trans rfl; have hfz32_0 := blk_frozen BK348.out 0; have hfz32_1 := blk_frozen BK348.out 1; have hfz32_2 := blk_frozen BK348.out 2; have hfz32_3 := blk_frozen BK348.out 3; have hfz32_4 := blk_frozen BK348.out 4; have hfz32_5 := blk_frozen BK348.out 5; have hfz32_6 := blk_frozen BK348.out 6; have hfz32_7 := blk_frozen BK348.out 7; have hfz32_8 := blk_frozen BK348.out 8) | ((with_reducible refine gate_callee (f := 62) rfl ?_); refine goesL_ (some 29) rfl rfl Tryd.func62 (by kernel_rfl) rfl #[.agg #[.int .i64 a0_4, .int .i64 a0_5], .agg #[.int .i64 a1_4, .int .i64 a1_5]] rfl (by (try simp only [List.map_toArray, List.map_cons, List.map_nil]); first | done | rfl | (simp only [List.length_drop, List.length_take]; rfl)) ?_; (with_reducible refine (laws_eqRing.calls a0_4 a0_5 a1_4 a1_5 true _ A7.out).mono ?_); rintro e w33 ⟨rfl, hb⟩; refine ⟨_, rfl, ?_⟩; have n0_ := Aside0.mk (blk_below (g := gb347) (o := .cells #[.int .i64 a0_0, .int .i64 a0_1, .int .i64 a0_2, .int .i64 a0_3, .int .i64 a0_4, .int .i64 a0_5, .int .i64 a0_6, .int .i64 a0_7, .int .i64 a0_8] 41 (0, 0)) (by (with_reducible repeat (first | refine blk_drewN ?_ _ | refine blk_drew ?_ | refine blk_alloc ?_ _)); exact BK347.out) hb); have n1_ := Aside0.mk (blk_below (g := gb348) (o := .cells #[.int .i64 a1_0, .int .i64 a1_1, .int .i64 a1_2, .int .i64 a1_3, .int .i64 a1_4, .int .i64 a1_5, .int .i64 a1_6, .int .i64 a1_7, .int .i64 a1_8] 41 (0, 0)) (by (with_reducible repeat (first | refine blk_drewN ?_ _ | refine blk_drew ?_ | refine blk_alloc ?_ _)); exact BK348.out) hb); have n2_ := Aside0.mk (below_step (by repeat (first | (with_reducible first | exact HB.out | apply below_alloc | apply pw_below_drewN | apply below_drew1 | refine below_set ?_ GE347.out | refine below_set ?_ GE348.out) | exact HB.out)) hb); clear BK347; clear BK348; clear HB; have BK347 := n0_; have BK348 := n1_; have HB := n2_; clear n0_ n1_ n2_; (try clear hb); (try clear hb2); (try clear hk); (try clear hi); have hcz34_0 : w33.cell? ⟨gb347, 0, none⟩ = some (.int .i64 a0_0) := (blk_cell BK347.out 0).trans rfl; have hcz34_1 : w33.cell? ⟨gb347, 1, none⟩ = some (.int .i64 a0_1) := (blk_cell BK347.out 1).trans rfl; have hcz34_2 : w33.cell? ⟨gb347, 2, none⟩ = some (.int .i64 a0_2) := (blk_cell BK347.out 2).trans rfl; have hcz34_3 : w33.cell? ⟨gb347, 3, none⟩ = some (.int .i64 a0_3) := (blk_cell BK347.out 3).trans rfl; have hcz34_4 : w33.cell? ⟨gb347, 4, none⟩ = some (.int .i64 a0_4) := (blk_cell BK347.out 4).trans rfl; have hcz34_5 : w33.cell? ⟨gb347, 5, none⟩ = some (.int .i64 a0_5) := (blk_cell BK347.out 5).trans rfl; have hcz34_6 : w33.cell? ⟨gb347, 6, none⟩ = some (.int .i64 a0_6) := (blk_cell BK347.out 6).trans rfl; have hcz34_7 : w33.cell? ⟨gb347, 7, none⟩ = some (.int .i64 a0_7) := (blk_cell BK347.out 7).trans rfl; have hcz34_8 : w33.cell? ⟨gb347, 8, none⟩ = some (.int .i64 a0_8) := (blk_cell BK347.out 8).trans rfl; have hfz34_0 := blk_frozen BK347.out 0; have hfz34_1 := blk_frozen BK347.out 1; have hfz34_2 := blk_frozen BK347.out 2; have hfz34_3 := blk_frozen BK347.out 3; have hfz34_4 := blk_frozen BK347.out 4; have hfz34_5 := blk_frozen BK347.out 5; have hfz34_6 := blk_frozen BK347.out 6; have hfz34_7 := blk_frozen BK347.out 7; have hfz34_8 := blk_frozen BK347.out 8; have hcz35_0 : w33.cell? ⟨gb348, 0, none⟩ = some (.int .i64 a1_0) := (blk_cell BK348.out 0).trans rfl; have hcz35_1 : w33.cell? ⟨gb348, 1, none⟩ = some (.int .i64 a1_1) := (blk_cell BK348.out 1).trans rfl; have hcz35_2 : w33.cell? ⟨gb348, 2, none⟩ = some (.int .i64 a1_2) := (blk_cell BK348.out 2).trans rfl; have hcz35_3 : w33.cell? ⟨gb348, 3, none⟩ = some (.int .i64 a1_3) := (blk_cell BK348.out 3).trans rfl; have hcz35_4 : w33.cell? ⟨gb348, 4, none⟩ = some (.int .i64 a1_4) := (blk_cell BK348.out 4).trans rfl; have hcz35_5 : w33.cell? ⟨gb348, 5, none⟩ = some (.int .i64 a1_5) := (blk_cell BK348.out 5).trans rfl; have hcz35_6 : w33.cell? ⟨gb348, 6, none⟩ = some (.int .i64 a1_6) := (blk_cell BK348.out 6).trans rfl; have hcz35_7 : w33.cell? ⟨gb348, 7, none⟩ = some (.int .i64 a1_7) := (blk_cell BK348.out 7).trans rfl; have hcz35_8 : w33.cell? ⟨gb348, 8, none⟩ = some (.int .i64 a1_8) := (blk_cell BK348.out 8).trans rfl; have hfz35_0 := blk_frozen BK348.out 0; have hfz35_1 := blk_frozen BK348.out 1; have hfz35_2 := blk_frozen BK348.out 2; have hfz35_3 := blk_frozen BK348.out 3; have hfz35_4 := blk_frozen BK348.out 4; have hfz35_5 := blk_frozen BK348.out 5; have hfz35_6 := blk_frozen BK348.out 6; have hfz35_7 := blk_frozen BK348.out 7; have hfz35_8 := blk_frozen BK348.out 8))
                go_ret
                exact ⟨by first | rfl | (simp [errW_none, errW_some] <;> rfl) | (simp [*, errW_none, errW_some] <;> rfl), by repeat (first | (with_reducible first | exact HB.out | apply below_alloc | apply pw_below_drewN | apply below_drew1 | refine below_set ?_ GE347.out | refine below_set ?_ GE348.out) | exact HB.out)⟩
            · rw [if_neg c9] at H
              have c9b0 : (a0_6 == a1_6) = false := beq_eq_false_iff_ne.mpr c9
              have c9b1 : (a0_6 != a1_6) = true := bne_iff_ne.mpr c9
              obtain rfl := Option.some.inj H
              go_enter Tryd.func29, Tryd.ntmps29
              go_wp2_with (first | ((with_reducible refine gate_dst (N := 2) rfl ?_); refine box_event ?hg (N := 2) ?hd (cs := #[.int .i64 a0_0, .int .i64 a0_1, .int .i64 a0_2, .int .i64 a0_3, .int .i64 a0_4, .int .i64 a0_5, .int .i64 a0_6, .int .i64 a0_7, .int .i64 a0_8]) (t := 41) ?hr ?_; (case hd => rfl); (case hg => rfl); (case hr => first | (go_simp; done) | (go_simp; rfl)); intro gb347 hg w36 hbox hb; have n0_ := Aside0.mk (below_step (by repeat (first | (with_reducible first | exact HB.out | apply below_alloc | apply pw_below_drewN | apply below_drew1) | exact HB.out)) hb); have n1_ := Aside0.mk (hbox); have n2_ := Aside0.mk ((by rw [hg]; exact (below_size (by repeat (first | (with_reducible first | exact HB.out | apply below_alloc | apply pw_below_drewN | apply below_drew1) | exact HB.out))) : w.heap.size ≤ gb347)); have n3_ := Aside0.mk ((by rw [hg]; exact (below_size (by repeat (first | (with_reducible first | exact HB.out | apply below_alloc | apply pw_below_drewN | apply below_drew1) | exact HB.out))) : w.heap.size ≤ gb347)); clear HB; have HB := n0_; have BK347 := n1_; have GW347 := n2_; have GE347 := n3_; clear n0_ n1_ n2_ n3_; clear hb hbox hg) | ((with_reducible refine gate_dst (N := 3) rfl ?_); refine box_event ?hg (N := 3) ?hd (cs := #[.int .i64 a1_0, .int .i64 a1_1, .int .i64 a1_2, .int .i64 a1_3, .int .i64 a1_4, .int .i64 a1_5, .int .i64 a1_6, .int .i64 a1_7, .int .i64 a1_8]) (t := 41) ?hr ?_; (case hd => rfl); (case hg => rfl); (case hr => first | (go_simp; done) | (go_simp; rfl)); intro gb348 hg w37 hbox hb; have n0_ := Aside0.mk (blk_below (g := gb347) (o := .cells #[.int .i64 a0_0, .int .i64 a0_1, .int .i64 a0_2, .int .i64 a0_3, .int .i64 a0_4, .int .i64 a0_5, .int .i64 a0_6, .int .i64 a0_7, .int .i64 a0_8] 41 (0, 0)) (by (with_reducible repeat (first | refine blk_drewN ?_ _ | refine blk_drew ?_ | refine blk_alloc ?_ _)); exact BK347.out) hb); have n1_ := Aside0.mk (below_step (by repeat (first | (with_reducible first | exact HB.out | apply below_alloc | apply pw_below_drewN | apply below_drew1 | refine below_set ?_ GE347.out) | exact HB.out)) hb); have n2_ := Aside0.mk (hbox); have n3_ := Aside0.mk ((by rw [hg]; exact (below_size (by repeat (first | (with_reducible first | exact HB.out | apply below_alloc | apply pw_below_drewN | apply below_drew1 | refine below_set ?_ GE347.out) | exact HB.out))) : w.heap.size ≤ gb348)); have n4_ := Aside0.mk ((by rw [hg]; exact (below_size (by repeat (first | (with_reducible first | exact HB.out | apply below_alloc | apply pw_below_drewN | apply below_drew1 | refine below_set ?_ GE347.out) | exact HB.out))) : w.heap.size ≤ gb348)); have n5_ := Aside0.mk ((by rw [hg]; exact Nat.ne_of_lt (blk_lt (g := gb347) (o := .cells #[.int .i64 a0_0, .int .i64 a0_1, .int .i64 a0_2, .int .i64 a0_3, .int .i64 a0_4, .int .i64 a0_5, .int .i64 a0_6, .int .i64 a0_7, .int .i64 a0_8] 41 (0, 0)) (by (with_reducible repeat (first | refine blk_drewN ?_ _ | refine blk_drew ?_ | refine blk_alloc ?_ _)); exact BK347.out)) : gb347 ≠ gb348)); have n6_ := Aside0.mk ((by rw [hg]; exact Nat.ne_of_gt (blk_lt (g := gb347) (o := .cells #[.int .i64 a0_0, .int .i64 a0_1, .int .i64 a0_2, .int .i64 a0_3, .int .i64 a0_4, .int .i64 a0_5, .int .i64 a0_6, .int .i64 a0_7, .int .i64 a0_8] 41 (0, 0)) (by (with_reducible repeat (first | refine blk_drewN ?_ _ | refine blk_drew ?_ | refine blk_alloc ?_ _)); exact BK347.out)) : gb348 ≠ gb347)); clear BK347; clear HB; have BK347 := n0_; have HB := n1_; have BK348 := n2_; have GW348 := n3_; have GE348 := n4_; have NB347_348 := n5_; have NB348_347 := n6_; clear n0_ n1_ n2_ n3_ n4_ n5_ n6_; clear hb hbox hg; have hnb38 := NB347_348.out; have hnc38 := NB348_347.out; have hcz39_0 : w37.cell? ⟨gb347, 0, none⟩ = some (.int .i64 a0_0) := (blk_cell BK347.out 0).trans rfl; have hcz39_1 : w37.cell? ⟨gb347, 1, none⟩ = some (.int .i64 a0_1) := (blk_cell BK347.out 1).trans rfl; have hcz39_2 : w37.cell? ⟨gb347, 2, none⟩ = some (.int .i64 a0_2) := (blk_cell BK347.out 2).trans rfl; have hcz39_3 : w37.cell? ⟨gb347, 3, none⟩ = some (.int .i64 a0_3) := (blk_cell BK347.out 3).trans rfl; have hcz39_4 : w37.cell? ⟨gb347, 4, none⟩ = some (.int .i64 a0_4) := (blk_cell BK347.out 4).trans rfl; have hcz39_5 : w37.cell? ⟨gb347, 5, none⟩ = some (.int .i64 a0_5) := (blk_cell BK347.out 5).trans rfl; have hcz39_6 : w37.cell? ⟨gb347, 6, none⟩ = some (.int .i64 a0_6) := (blk_cell BK347.out 6).trans rfl; have hcz39_7 : w37.cell? ⟨gb347, 7, none⟩ = some (.int .i64 a0_7) := (blk_cell BK347.out 7).trans rfl; have hcz39_8 : w37.cell? ⟨gb347, 8, none⟩ = some (.int .i64 a0_8) := (blk_cell BK347.out 8).trans rfl; have hfz39_0 := blk_frozen BK347.out 0; have hfz39_1 := blk_frozen BK347.out 1; have hfz39_2 := blk_frozen BK347.out 2; have hfz39_3 := blk_frozen BK347.out 3; have hfz39_4 := blk_frozen BK347.out 4; have hfz39_5 := blk_frozen BK347.out 5; have hfz39_6 := blk_frozen BK347.out 6; have hfz39_7 := blk_frozen BK347.out 7; have hfz39_8 := blk_frozen BK347.out 8; have hcz40_0 : w37.cell? ⟨gb348, 0, none⟩ = some (.int .i64 a1_0) := (blk_cell BK348.out 0).trans rfl; have hcz40_1 : w37.cell? ⟨gb348, 1, none⟩ = some (.int .i64 a1_1) := (blk_cell BK348.out 1).trans rfl; have hcz40_2 : w37.cell? ⟨gb348, 2, none⟩ = some (.int .i64 a1_2) := (blk_cell BK348.out 2).trans rfl; have hcz40_3 : w37.cell? ⟨gb348, 3, none⟩ = some (.int .i64 a1_3) := (blk_cell BK348.out 3).trans rfl; have hcz40_4 : w37.cell? ⟨gb348, 4, none⟩ = some (.int .i64 a1_4) := (blk_cell BK348.out 4).trans rfl; have hcz40_5 : w37.cell? ⟨gb348, 5, none⟩ = some (.int .i64 a1_5) := (blk_cell BK348.out 5).trans rfl; have hcz40_6 : w37.cell? ⟨gb348, 6, none⟩ = some (.int .i64 a1_6) := (blk_cell BK348.out 6).trans rfl; have hcz40_7 : w37.cell? ⟨gb348, 7, none⟩ = some (.int .i64 a1_7) := (blk_cell BK348.out 7).trans rfl; have hcz40_8 : w37.cell? ⟨gb348, 8, none⟩ = some (.int .i64 a1_8) := (blk_cell BK348.out 8).trans rfl; have hfz40_0 := blk_frozen BK348.out 0; have hfz40_1 := blk_frozen BK348.out 1; have hfz40_2 := blk_frozen BK348.out 2; have hfz40_3 := blk_frozen BK348.out 3; have hfz40_4 := blk_frozen BK348.out 4; have hfz40_5 := blk_frozen BK348.out 5; have hfz40_6 := blk_frozen BK348.out 6; have hfz40_7 := blk_frozen BK348.out 7; have hfz40_8 := blk_frozen BK348.out 8) | ((with_reducible refine gate_callee (f := 62) rfl ?_); refine goesL_ (some 29) rfl rfl Tryd.func62 (by kernel_rfl) rfl #[.agg #[.int .i64 a0_4, .int .i64 a0_5], .agg #[.int .i64 a1_4, .int .i64 a1_5]] rfl (by (try simp only [List.map_toArray, List.map_cons, List.map_nil]); first | done | rfl | (simp only [List.length_drop, List.length_take]; rfl)) ?_; (with_reducible refine (laws_eqRing.calls a0_4 a0_5 a1_4 a1_5 true _ A7.out).mono ?_); rintro e w41 ⟨rfl, hb⟩; refine ⟨_, rfl, ?_⟩; have n0_ := Aside0.mk (blk_below (g := gb347) (o := .cells #[.int .i64 a0_0, .int .i64 a0_1, .int .i64 a0_2, .int .i64 a0_3, .int .i64 a0_4, .int .i64 a0_5, .int .i64 a0_6, .int .i64 a0_7, .int .i64 a0_8] 41 (0, 0)) (by (with_reducible repeat (first | refine blk_drewN ?_ _ | refine blk_drew ?_ | refine blk_alloc ?_ _)); exact BK347.out) hb); have n1_ := Aside0.mk (blk_below (g := gb348) (o := .cells #[.int .i64 a1_0, .int .i64 a1_1, .int .i64 a1_2, .int .i64 a1_3, .int .i64 a1_4, .int .i64 a1_5, .int .i64 a1_6, .int .i64 a1_7, .int .i64 a1_8] 41 (0, 0)) (by (with_reducible repeat (first | refine blk_drewN ?_ _ | refine blk_drew ?_ | refine blk_alloc ?_ _)); exact BK348.out) hb); have n2_ := Aside0.mk (below_step (by repeat (first | (with_reducible first | exact HB.out | apply below_alloc | apply pw_below_drewN | apply below_drew1 | refine below_set ?_ GE347.out | refine below_set ?_ GE348.out) | exact HB.out)) hb); clear BK347; clear BK348; clear HB; have BK347 := n0_; have BK348 := n1_; have HB := n2_; clear n0_ n1_ n2_; (try clear hb); (try clear hb2); (try clear hk); (try clear hi); have hcz42_0 : w41.cell? ⟨gb347, 0, none⟩ = some (.int .i64 a0_0) := (blk_cell BK347.out 0).trans rfl; have hcz42_1 : w41.cell? ⟨gb347, 1, none⟩ = some (.int .i64 a0_1) := (blk_cell BK347.out 1).trans rfl; have hcz42_2 : w41.cell? ⟨gb347, 2, none⟩ = some (.int .i64 a0_2) := (blk_cell BK347.out 2).trans rfl; have hcz42_3 : w41.cell? ⟨gb347, 3, none⟩ = some (.int .i64 a0_3) := (blk_cell BK347.out 3).trans rfl; have hcz42_4 : w41.cell? ⟨gb347, 4, none⟩ = some (.int .i64 a0_4) := (blk_cell BK347.out 4).trans rfl; have hcz42_5 : w41.cell? ⟨gb347, 5, none⟩ = some (.int .i64 a0_5) := (blk_cell BK347.out 5).trans rfl; have hcz42_6 : w41.cell? ⟨gb347, 6, none⟩ = some (.int .i64 a0_6) := (blk_cell BK347.out 6).trans rfl; have hcz42_7 : w41.cell? ⟨gb347, 7, none⟩ = some (.int .i64 a0_7) := (blk_cell BK347.out 7).trans rfl; have hcz42_8 : w41.cell? ⟨gb347, 8, none⟩ = some (.int .i64 a0_8) := (blk_cell BK347.out 8).trans rfl; have hfz42_0 := blk_frozen BK347.out 0; have hfz42_1 := blk_frozen BK347.out 1; have hfz42_2 := blk_frozen BK347.out 2; have hfz42_3 := blk_frozen BK347.out 3; have hfz42_4 := blk_frozen BK347.out 4; have hfz42_5 := blk_frozen BK347.out 5; have hfz42_6 := blk_frozen BK347.out 6; have hfz42_7 := blk_frozen BK347.out 7; have hfz42_8 := blk_frozen BK347.out 8; have hcz43_0 : w41.cell? ⟨gb348, 0, none⟩ = some (.int .i64 a1_0) := (blk_cell BK348.out 0).trans rfl; have hcz43_1 : w41.cell? ⟨gb348, 1, none⟩ = some (.int .i64 a1_1) := (blk_cell BK348.out 1).trans rfl; have hcz43_2 : w41.cell? ⟨gb348, 2, none⟩ = some (.int .i64 a1_2) := (blk_cell BK348.out 2).trans rfl; have hcz43_3 : w41.cell? ⟨gb348, 3, none⟩ = some (.int .i64 a1_3) := (blk_cell BK348.out 3).trans rfl; have hcz43_4 : w41.cell? ⟨gb348, 4, none⟩ = some (.int .i64 a1_4) := (blk_cell BK348.out 4).trans rfl; have hcz43_5 : w41.cell? ⟨gb348, 5, none⟩ = some (.int .i64 a1_5) := (blk_cell BK348.out 5).trans rfl; have hcz43_6 : w41.cell? ⟨gb348, 6, none⟩ = some (.int .i64 a1_6) := (blk_cell BK348.out 6).trans rfl; have hcz43_7 : w41.cell? ⟨gb348, 7, none⟩ = some (.int .i64 a1_7) := (blk_cell BK348.out 7).trans rfl; have hcz43_8 : w41.cell? ⟨gb348, 8, none⟩ = some (.int .i64 a1_8) := (blk_cell BK348.out 8).trans rfl; have hfz43_0 := blk_frozen BK348.out 0; have hfz43_1 := blk_frozen BK348.out 1; have hfz43_2 := blk_frozen BK348.out 2; have hfz43_3 := blk_frozen BK348.out 3; have hfz43_4 := blk_frozen BK348.out 4; have hfz43_5 := blk_frozen BK348.out 5; have hfz43_6 := blk_frozen BK348.out 6; have hfz43_7 := blk_frozen BK348.out 7; have hfz43_8 := blk_frozen BK348.out 8))
              go_ret
              exact ⟨by first | rfl | (simp [errW_none, errW_some] <;> rfl) | (simp [*, errW_none, errW_some] <;> rfl), by repeat (first | (with_reducible first | exact HB.out | apply below_alloc | apply pw_below_drewN | apply below_drew1 | refine below_set ?_ GE347.out | refine below_set ?_ GE348.out) | exact HB.out)⟩
          · replace c8 := Bool.eq_false_iff.mpr c8
            subst c8
            have H1 : (some false) = some r := by rw [if_neg (show ¬ (false = true) by decide)] at H; exact H
            clear H
            have H := H1
            clear H1
            obtain rfl := Option.some.inj H
            go_enter Tryd.func29, Tryd.ntmps29
            go_wp2_with (first | ((with_reducible refine gate_dst (N := 2) rfl ?_); refine box_event ?hg (N := 2) ?hd (cs := #[.int .i64 a0_0, .int .i64 a0_1, .int .i64 a0_2, .int .i64 a0_3, .int .i64 a0_4, .int .i64 a0_5, .int .i64 a0_6, .int .i64 a0_7, .int .i64 a0_8]) (t := 41) ?hr ?_; (case hd => rfl); (case hg => rfl); (case hr => first | (go_simp; done) | (go_simp; rfl)); intro gb347 hg w44 hbox hb; have n0_ := Aside0.mk (below_step (by repeat (first | (with_reducible first | exact HB.out | apply below_alloc | apply pw_below_drewN | apply below_drew1) | exact HB.out)) hb); have n1_ := Aside0.mk (hbox); have n2_ := Aside0.mk ((by rw [hg]; exact (below_size (by repeat (first | (with_reducible first | exact HB.out | apply below_alloc | apply pw_below_drewN | apply below_drew1) | exact HB.out))) : w.heap.size ≤ gb347)); have n3_ := Aside0.mk ((by rw [hg]; exact (below_size (by repeat (first | (with_reducible first | exact HB.out | apply below_alloc | apply pw_below_drewN | apply below_drew1) | exact HB.out))) : w.heap.size ≤ gb347)); clear HB; have HB := n0_; have BK347 := n1_; have GW347 := n2_; have GE347 := n3_; clear n0_ n1_ n2_ n3_; clear hb hbox hg) | ((with_reducible refine gate_dst (N := 3) rfl ?_); refine box_event ?hg (N := 3) ?hd (cs := #[.int .i64 a1_0, .int .i64 a1_1, .int .i64 a1_2, .int .i64 a1_3, .int .i64 a1_4, .int .i64 a1_5, .int .i64 a1_6, .int .i64 a1_7, .int .i64 a1_8]) (t := 41) ?hr ?_; (case hd => rfl); (case hg => rfl); (case hr => first | (go_simp; done) | (go_simp; rfl)); intro gb348 hg w45 hbox hb; have n0_ := Aside0.mk (blk_below (g := gb347) (o := .cells #[.int .i64 a0_0, .int .i64 a0_1, .int .i64 a0_2, .int .i64 a0_3, .int .i64 a0_4, .int .i64 a0_5, .int .i64 a0_6, .int .i64 a0_7, .int .i64 a0_8] 41 (0, 0)) (by (with_reducible repeat (first | refine blk_drewN ?_ _ | refine blk_drew ?_ | refine blk_alloc ?_ _)); exact BK347.out) hb); have n1_ := Aside0.mk (below_step (by repeat (first | (with_reducible first | exact HB.out | apply below_alloc | apply pw_below_drewN | apply below_drew1 | refine below_set ?_ GE347.out) | exact HB.out)) hb); have n2_ := Aside0.mk (hbox); have n3_ := Aside0.mk ((by rw [hg]; exact (below_size (by repeat (first | (with_reducible first | exact HB.out | apply below_alloc | apply pw_below_drewN | apply below_drew1 | refine below_set ?_ GE347.out) | exact HB.out))) : w.heap.size ≤ gb348)); have n4_ := Aside0.mk ((by rw [hg]; exact (below_size (by repeat (first | (with_reducible first | exact HB.out | apply below_alloc | apply pw_below_drewN | apply below_drew1 | refine below_set ?_ GE347.out) | exact HB.out))) : w.heap.size ≤ gb348)); have n5_ := Aside0.mk ((by rw [hg]; exact Nat.ne_of_lt (blk_lt (g := gb347) (o := .cells #[.int .i64 a0_0, .int .i64 a0_1, .int .i64 a0_2, .int .i64 a0_3, .int .i64 a0_4, .int .i64 a0_5, .int .i64 a0_6, .int .i64 a0_7, .int .i64 a0_8] 41 (0, 0)) (by (with_reducible repeat (first | refine blk_drewN ?_ _ | refine blk_drew ?_ | refine blk_alloc ?_ _)); exact BK347.out)) : gb347 ≠ gb348)); have n6_ := Aside0.mk ((by rw [hg]; exact Nat.ne_of_gt (blk_lt (g := gb347) (o := .cells #[.int .i64 a0_0, .int .i64 a0_1, .int .i64 a0_2, .int .i64 a0_3, .int .i64 a0_4, .int .i64 a0_5, .int .i64 a0_6, .int .i64 a0_7, .int .i64 a0_8] 41 (0, 0)) (by (with_reducible repeat (first | refine blk_drewN ?_ _ | refine blk_drew ?_ | refine blk_alloc ?_ _)); exact BK347.out)) : gb348 ≠ gb347)); clear BK347; clear HB; have BK347 := n0_; have HB := n1_; have BK348 := n2_; have GW348 := n3_; have GE348 := n4_; have NB347_348 := n5_; have NB348_347 := n6_; clear n0_ n1_ n2_ n3_ n4_ n5_ n6_; clear hb hbox hg; have hnb46 := NB347_348.out; have hnc46 := NB348_347.out; have hcz47_0 : w45.cell? ⟨gb347, 0, none⟩ = some (.int .i64 a0_0) := (blk_cell BK347.out 0).trans rfl; have hcz47_1 : w45.cell? ⟨gb347, 1, none⟩ = some (.int .i64 a0_1) := (blk_cell BK347.out 1).trans rfl; have hcz47_2 : w45.cell? ⟨gb347, 2, none⟩ = some (.int .i64 a0_2) := (blk_cell BK347.out 2).trans rfl; have hcz47_3 : w45.cell? ⟨gb347, 3, none⟩ = some (.int .i64 a0_3) := (blk_cell BK347.out 3).trans rfl; have hcz47_4 : w45.cell? ⟨gb347, 4, none⟩ = some (.int .i64 a0_4) := (blk_cell BK347.out 4).trans rfl; have hcz47_5 : w45.cell? ⟨gb347, 5, none⟩ = some (.int .i64 a0_5) := (blk_cell BK347.out 5).trans rfl; have hcz47_6 : w45.cell? ⟨gb347, 6, none⟩ = some (.int .i64 a0_6) := (blk_cell BK347.out 6).trans rfl; have hcz47_7 : w45.cell? ⟨gb347, 7, none⟩ = some (.int .i64 a0_7) := (blk_cell BK347.out 7).trans rfl; have hcz47_8 : w45.cell? ⟨gb347, 8, none⟩ = some (.int .i64 a0_8) := (blk_cell BK347.out 8).trans rfl; have hfz47_0 := blk_frozen BK347.out 0; have hfz47_1 := blk_frozen BK347.out 1; have hfz47_2 := blk_frozen BK347.out 2; have hfz47_3 := blk_frozen BK347.out 3; have hfz47_4 := blk_frozen BK347.out 4; have hfz47_5 := blk_frozen BK347.out 5; have hfz47_6 := blk_frozen BK347.out 6; have hfz47_7 := blk_frozen BK347.out 7; have hfz47_8 := blk_frozen BK347.out 8; have hcz48_0 : w45.cell? ⟨gb348, 0, none⟩ = some (.int .i64 a1_0) := (blk_cell BK348.out 0).trans rfl; have hcz48_1 : w45.cell? ⟨gb348, 1, none⟩ = some (.int .i64 a1_1) := (blk_cell BK348.out 1).trans rfl; have hcz48_2 : w45.cell? ⟨gb348, 2, none⟩ = some (.int .i64 a1_2) := (blk_cell BK348.out 2).trans rfl; have hcz48_3 : w45.cell? ⟨gb348, 3, none⟩ = some (.int .i64 a1_3) := (blk_cell BK348.out 3).trans rfl; have hcz48_4 : w45.cell? ⟨gb348, 4, none⟩ = some (.int .i64 a1_4) := (blk_cell BK348.out 4).trans rfl; have hcz48_5 : w45.cell? ⟨gb348, 5, none⟩ = some (.int .i64 a1_5) := (blk_cell BK348.out 5).trans rfl; have hcz48_6 : w45.cell? ⟨gb348, 6, none⟩ = some (.int .i64 a1_6) := (blk_cell BK348.out 6).trans rfl; have hcz48_7 : w45.cell? ⟨gb348, 7, none⟩ = some (.int .i64 a1_7) := (blk_cell BK348.out 7).trans rfl; have hcz48_8 : w45.cell? ⟨gb348, 8, none⟩ = some (.int .i64 a1_8) := (blk_cell BK348.out 8).trans rfl; have hfz48_0 := blk_frozen BK348.out 0; have hfz48_1 := blk_frozen BK348.out 1; have hfz48_2 := blk_frozen BK348.out 2; have hfz48_3 := blk_frozen BK348.out 3; have hfz48_4 := blk_frozen BK348.out 4; have hfz48_5 := blk_frozen BK348.out 5; have hfz48_6 := blk_frozen BK348.out 6; have hfz48_7 := blk_frozen BK348.out 7; have hfz48_8 := blk_frozen BK348.out 8) | ((with_reducible refine gate_callee (f := 62) rfl ?_); refine goesL_ (some 29) rfl rfl Tryd.func62 (by kernel_rfl) rfl #[.agg #[.int .i64 a0_4, .int .i64 a0_5], .agg #[.int .i64 a1_4, .int .i64 a1_5]] rfl (by (try simp only [List.map_toArray, List.map_cons, List.map_nil]); first | done | rfl | (simp only [List.length_drop, List.length_take]; rfl)) ?_; (with_reducible refine (laws_eqRing.calls a0_4 a0_5 a1_4 a1_5 false _ A7.out).mono ?_); rintro e w49 ⟨rfl, hb⟩; refine ⟨_, rfl, ?_⟩; have n0_ := Aside0.mk (blk_below (g := gb347) (o := .cells #[.int .i64 a0_0, .int .i64 a0_1, .int .i64 a0_2, .int .i64 a0_3, .int .i64 a0_4, .int .i64 a0_5, .int .i64 a0_6, .int .i64 a0_7, .int .i64 a0_8] 41 (0, 0)) (by (with_reducible repeat (first | refine blk_drewN ?_ _ | refine blk_drew ?_ | refine blk_alloc ?_ _)); exact BK347.out) hb); have n1_ := Aside0.mk (blk_below (g := gb348) (o := .cells #[.int .i64 a1_0, .int .i64 a1_1, .int .i64 a1_2, .int .i64 a1_3, .int .i64 a1_4, .int .i64 a1_5, .int .i64 a1_6, .int .i64 a1_7, .int .i64 a1_8] 41 (0, 0)) (by (with_reducible repeat (first | refine blk_drewN ?_ _ | refine blk_drew ?_ | refine blk_alloc ?_ _)); exact BK348.out) hb); have n2_ := Aside0.mk (below_step (by repeat (first | (with_reducible first | exact HB.out | apply below_alloc | apply pw_below_drewN | apply below_drew1 | refine below_set ?_ GE347.out | refine below_set ?_ GE348.out) | exact HB.out)) hb); clear BK347; clear BK348; clear HB; have BK347 := n0_; have BK348 := n1_; have HB := n2_; clear n0_ n1_ n2_; (try clear hb); (try clear hb2); (try clear hk); (try clear hi)))
            go_ret
            exact ⟨by first | rfl | (simp [errW_none, errW_some] <;> rfl) | (simp [*, errW_none, errW_some] <;> rfl), by repeat (first | (with_reducible first | exact HB.out | apply below_alloc | apply pw_below_drewN | apply below_drew1 | refine below_set ?_ GE347.out | refine below_set ?_ GE348.out) | exact HB.out)⟩
        · rw [if_neg c6] at H
          have c6b0 : (a0_3 == a1_3) = false := beq_eq_false_iff_ne.mpr c6
          have c6b1 : (a0_3 != a1_3) = true := bne_iff_ne.mpr c6
          obtain rfl := Option.some.inj H
          go_enter Tryd.func29, Tryd.ntmps29
          go_wp2_with (first | ((with_reducible refine gate_dst (N := 2) rfl ?_); refine box_event ?hg (N := 2) ?hd (cs := #[.int .i64 a0_0, .int .i64 a0_1, .int .i64 a0_2, .int .i64 a0_3, .int .i64 a0_4, .int .i64 a0_5, .int .i64 a0_6, .int .i64 a0_7, .int .i64 a0_8]) (t := 41) ?hr ?_; (case hd => rfl); (case hg => rfl); (case hr => first | (go_simp; done) | (go_simp; rfl)); intro gb347 hg w50 hbox hb; have n0_ := Aside0.mk (below_step (by repeat (first | (with_reducible first | exact HB.out | apply below_alloc | apply pw_below_drewN | apply below_drew1) | exact HB.out)) hb); have n1_ := Aside0.mk (hbox); have n2_ := Aside0.mk ((by rw [hg]; exact (below_size (by repeat (first | (with_reducible first | exact HB.out | apply below_alloc | apply pw_below_drewN | apply below_drew1) | exact HB.out))) : w.heap.size ≤ gb347)); have n3_ := Aside0.mk ((by rw [hg]; exact (below_size (by repeat (first | (with_reducible first | exact HB.out | apply below_alloc | apply pw_below_drewN | apply below_drew1) | exact HB.out))) : w.heap.size ≤ gb347)); clear HB; have HB := n0_; have BK347 := n1_; have GW347 := n2_; have GE347 := n3_; clear n0_ n1_ n2_ n3_; clear hb hbox hg) | ((with_reducible refine gate_dst (N := 3) rfl ?_); refine box_event ?hg (N := 3) ?hd (cs := #[.int .i64 a1_0, .int .i64 a1_1, .int .i64 a1_2, .int .i64 a1_3, .int .i64 a1_4, .int .i64 a1_5, .int .i64 a1_6, .int .i64 a1_7, .int .i64 a1_8]) (t := 41) ?hr ?_; (case hd => rfl); (case hg => rfl); (case hr => first | (go_simp; done) | (go_simp; rfl)); intro gb348 hg w51 hbox hb; have n0_ := Aside0.mk (blk_below (g := gb347) (o := .cells #[.int .i64 a0_0, .int .i64 a0_1, .int .i64 a0_2, .int .i64 a0_3, .int .i64 a0_4, .int .i64 a0_5, .int .i64 a0_6, .int .i64 a0_7, .int .i64 a0_8] 41 (0, 0)) (by (with_reducible repeat (first | refine blk_drewN ?_ _ | refine blk_drew ?_ | refine blk_alloc ?_ _)); exact BK347.out) hb); have n1_ := Aside0.mk (below_step (by repeat (first | (with_reducible first | exact HB.out | apply below_alloc | apply pw_below_drewN | apply below_drew1 | refine below_set ?_ GE347.out) | exact HB.out)) hb); have n2_ := Aside0.mk (hbox); have n3_ := Aside0.mk ((by rw [hg]; exact (below_size (by repeat (first | (with_reducible first | exact HB.out | apply below_alloc | apply pw_below_drewN | apply below_drew1 | refine below_set ?_ GE347.out) | exact HB.out))) : w.heap.size ≤ gb348)); have n4_ := Aside0.mk ((by rw [hg]; exact (below_size (by repeat (first | (with_reducible first | exact HB.out | apply below_alloc | apply pw_below_drewN | apply below_drew1 | refine below_set ?_ GE347.out) | exact HB.out))) : w.heap.size ≤ gb348)); have n5_ := Aside0.mk ((by rw [hg]; exact Nat.ne_of_lt (blk_lt (g := gb347) (o := .cells #[.int .i64 a0_0, .int .i64 a0_1, .int .i64 a0_2, .int .i64 a0_3, .int .i64 a0_4, .int .i64 a0_5, .int .i64 a0_6, .int .i64 a0_7, .int .i64 a0_8] 41 (0, 0)) (by (with_reducible repeat (first | refine blk_drewN ?_ _ | refine blk_drew ?_ | refine blk_alloc ?_ _)); exact BK347.out)) : gb347 ≠ gb348)); have n6_ := Aside0.mk ((by rw [hg]; exact Nat.ne_of_gt (blk_lt (g := gb347) (o := .cells #[.int .i64 a0_0, .int .i64 a0_1, .int .i64 a0_2, .int .i64 a0_3, .int .i64 a0_4, .int .i64 a0_5, .int .i64 a0_6, .int .i64 a0_7, .int .i64 a0_8] 41 (0, 0)) (by (with_reducible repeat (first | refine blk_drewN ?_ _ | refine blk_drew ?_ | refine blk_alloc ?_ _)); exact BK347.out)) : gb348 ≠ gb347)); clear BK347; clear HB; have BK347 := n0_; have HB := n1_; have BK348 := n2_; have GW348 := n3_; have GE348 := n4_; have NB347_348 := n5_; have NB348_347 := n6_; clear n0_ n1_ n2_ n3_ n4_ n5_ n6_; clear hb hbox hg; have hnb52 := NB347_348.out; have hnc52 := NB348_347.out; have hcz53_0 : w51.cell? ⟨gb347, 0, none⟩ = some (.int .i64 a0_0) := (blk_cell BK347.out 0).trans rfl; have hcz53_1 : w51.cell? ⟨gb347, 1, none⟩ = some (.int .i64 a0_1) := (blk_cell BK347.out 1).trans rfl; have hcz53_2 : w51.cell? ⟨gb347, 2, none⟩ = some (.int .i64 a0_2) := (blk_cell BK347.out 2).trans rfl; have hcz53_3 : w51.cell? ⟨gb347, 3, none⟩ = some (.int .i64 a0_3) := (blk_cell BK347.out 3).trans rfl; have hcz53_4 : w51.cell? ⟨gb347, 4, none⟩ = some (.int .i64 a0_4) := (blk_cell BK347.out 4).trans rfl; have hcz53_5 : w51.cell? ⟨gb347, 5, none⟩ = some (.int .i64 a0_5) := (blk_cell BK347.out 5).trans rfl; have hcz53_6 : w51.cell? ⟨gb347, 6, none⟩ = some (.int .i64 a0_6) := (blk_cell BK347.out 6).trans rfl; have hcz53_7 : w51.cell? ⟨gb347, 7, none⟩ = some (.int .i64 a0_7) := (blk_cell BK347.out 7).trans rfl; have hcz53_8 : w51.cell? ⟨gb347, 8, none⟩ = some (.int .i64 a0_8) := (blk_cell BK347.out 8).trans rfl; have hfz53_0 := blk_frozen BK347.out 0; have hfz53_1 := blk_frozen BK347.out 1; have hfz53_2 := blk_frozen BK347.out 2; have hfz53_3 := blk_frozen BK347.out 3; have hfz53_4 := blk_frozen BK347.out 4; have hfz53_5 := blk_frozen BK347.out 5; have hfz53_6 := blk_frozen BK347.out 6; have hfz53_7 := blk_frozen BK347.out 7; have hfz53_8 := blk_frozen BK347.out 8; have hcz54_0 : w51.cell? ⟨gb348, 0, none⟩ = some (.int .i64 a1_0) := (blk_cell BK348.out 0).trans rfl; have hcz54_1 : w51.cell? ⟨gb348, 1, none⟩ = some (.int .i64 a1_1) := (blk_cell BK348.out 1).trans rfl; have hcz54_2 : w51.cell? ⟨gb348, 2, none⟩ = some (.int .i64 a1_2) := (blk_cell BK348.out 2).trans rfl; have hcz54_3 : w51.cell? ⟨gb348, 3, none⟩ = some (.int .i64 a1_3) := (blk_cell BK348.out 3).trans rfl; have hcz54_4 : w51.cell? ⟨gb348, 4, none⟩ = some (.int .i64 a1_4) := (blk_cell BK348.out 4).trans rfl; have hcz54_5 : w51.cell? ⟨gb348, 5, none⟩ = some (.int .i64 a1_5) := (blk_cell BK348.out 5).trans rfl; have hcz54_6 : w51.cell? ⟨gb348, 6, none⟩ = some (.int .i64 a1_6) := (blk_cell BK348.out 6).trans rfl; have hcz54_7 : w51.cell? ⟨gb348, 7, none⟩ = some (.int .i64 a1_7) := (blk_cell BK348.out 7).trans rfl; have hcz54_8 : w51.cell? ⟨gb348, 8, none⟩ = some (.int .i64 a1_8) := (blk_cell BK348.out 8).trans rfl; have hfz54_0 := blk_frozen BK348.out 0; have hfz54_1 := blk_frozen BK348.out 1; have hfz54_2 := blk_frozen BK348.out 2; have hfz54_3 := blk_frozen BK348.out 3; have hfz54_4 := blk_frozen BK348.out 4; have hfz54_5 := blk_frozen BK348.out 5; have hfz54_6 := blk_frozen BK348.out 6; have hfz54_7 := blk_frozen BK348.out 7; have hfz54_8 := blk_frozen BK348.out 8))
          go_ret
          exact ⟨by first | rfl | (simp [errW_none, errW_some] <;> rfl) | (simp [*, errW_none, errW_some] <;> rfl), by repeat (first | (with_reducible first | exact HB.out | apply below_alloc | apply pw_below_drewN | apply below_drew1 | refine below_set ?_ GE347.out | refine below_set ?_ GE348.out) | exact HB.out)⟩
      · rw [if_neg c5] at H
        have c5b0 : (a0_2 == a1_2) = false := beq_eq_false_iff_ne.mpr c5
        have c5b1 : (a0_2 != a1_2) = true := bne_iff_ne.mpr c5
        obtain rfl := Option.some.inj H
        go_enter Tryd.func29, Tryd.ntmps29
        go_wp2_with (first | ((with_reducible refine gate_dst (N := 2) rfl ?_); refine box_event ?hg (N := 2) ?hd (cs := #[.int .i64 a0_0, .int .i64 a0_1, .int .i64 a0_2, .int .i64 a0_3, .int .i64 a0_4, .int .i64 a0_5, .int .i64 a0_6, .int .i64 a0_7, .int .i64 a0_8]) (t := 41) ?hr ?_; (case hd => rfl); (case hg => rfl); (case hr => first | (go_simp; done) | (go_simp; rfl)); intro gb347 hg w55 hbox hb; have n0_ := Aside0.mk (below_step (by repeat (first | (with_reducible first | exact HB.out | apply below_alloc | apply pw_below_drewN | apply below_drew1) | exact HB.out)) hb); have n1_ := Aside0.mk (hbox); have n2_ := Aside0.mk ((by rw [hg]; exact (below_size (by repeat (first | (with_reducible first | exact HB.out | apply below_alloc | apply pw_below_drewN | apply below_drew1) | exact HB.out))) : w.heap.size ≤ gb347)); have n3_ := Aside0.mk ((by rw [hg]; exact (below_size (by repeat (first | (with_reducible first | exact HB.out | apply below_alloc | apply pw_below_drewN | apply below_drew1) | exact HB.out))) : w.heap.size ≤ gb347)); clear HB; have HB := n0_; have BK347 := n1_; have GW347 := n2_; have GE347 := n3_; clear n0_ n1_ n2_ n3_; clear hb hbox hg) | ((with_reducible refine gate_dst (N := 3) rfl ?_); refine box_event ?hg (N := 3) ?hd (cs := #[.int .i64 a1_0, .int .i64 a1_1, .int .i64 a1_2, .int .i64 a1_3, .int .i64 a1_4, .int .i64 a1_5, .int .i64 a1_6, .int .i64 a1_7, .int .i64 a1_8]) (t := 41) ?hr ?_; (case hd => rfl); (case hg => rfl); (case hr => first | (go_simp; done) | (go_simp; rfl)); intro gb348 hg w56 hbox hb; have n0_ := Aside0.mk (blk_below (g := gb347) (o := .cells #[.int .i64 a0_0, .int .i64 a0_1, .int .i64 a0_2, .int .i64 a0_3, .int .i64 a0_4, .int .i64 a0_5, .int .i64 a0_6, .int .i64 a0_7, .int .i64 a0_8] 41 (0, 0)) (by (with_reducible repeat (first | refine blk_drewN ?_ _ | refine blk_drew ?_ | refine blk_alloc ?_ _)); exact BK347.out) hb); have n1_ := Aside0.mk (below_step (by repeat (first | (with_reducible first | exact HB.out | apply below_alloc | apply pw_below_drewN | apply below_drew1 | refine below_set ?_ GE347.out) | exact HB.out)) hb); have n2_ := Aside0.mk (hbox); have n3_ := Aside0.mk ((by rw [hg]; exact (below_size (by repeat (first | (with_reducible first | exact HB.out | apply below_alloc | apply pw_below_drewN | apply below_drew1 | refine below_set ?_ GE347.out) | exact HB.out))) : w.heap.size ≤ gb348)); have n4_ := Aside0.mk ((by rw [hg]; exact (below_size (by repeat (first | (with_reducible first | exact HB.out | apply below_alloc | apply pw_below_drewN | apply below_drew1 | refine below_set ?_ GE347.out) | exact HB.out))) : w.heap.size ≤ gb348)); have n5_ := Aside0.mk ((by rw [hg]; exact Nat.ne_of_lt (blk_lt (g := gb347) (o := .cells #[.int .i64 a0_0, .int .i64 a0_1, .int .i64 a0_2, .int .i64 a0_3, .int .i64 a0_4, .int .i64 a0_5, .int .i64 a0_6, .int .i64 a0_7, .int .i64 a0_8] 41 (0, 0)) (by (with_reducible repeat (first | refine blk_drewN ?_ _ | refine blk_drew ?_ | refine blk_alloc ?_ _)); exact BK347.out)) : gb347 ≠ gb348)); have n6_ := Aside0.mk ((by rw [hg]; exact Nat.ne_of_gt (blk_lt (g := gb347) (o := .cells #[.int .i64 a0_0, .int .i64 a0_1, .int .i64 a0_2, .int .i64 a0_3, .int .i64 a0_4, .int .i64 a0_5, .int .i64 a0_6, .int .i64 a0_7, .int .i64 a0_8] 41 (0, 0)) (by (with_reducible repeat (first | refine blk_drewN ?_ _ | refine blk_drew ?_ | refine blk_alloc ?_ _)); exact BK347.out)) : gb348 ≠ gb347)); clear BK347; clear HB; have BK347 := n0_; have HB := n1_; have BK348 := n2_; have GW348 := n3_; have GE348 := n4_; have NB347_348 := n5_; have NB348_347 := n6_; clear n0_ n1_ n2_ n3_ n4_ n5_ n6_; clear hb hbox hg; have hnb57 := NB347_348.out; have hnc57 := NB348_347.out; have hcz58_0 : w56.cell? ⟨gb347, 0, none⟩ = some (.int .i64 a0_0) := (blk_cell BK347.out 0).trans rfl; have hcz58_1 : w56.cell? ⟨gb347, 1, none⟩ = some (.int .i64 a0_1) := (blk_cell BK347.out 1).trans rfl; have hcz58_2 : w56.cell? ⟨gb347, 2, none⟩ = some (.int .i64 a0_2) := (blk_cell BK347.out 2).trans rfl; have hcz58_3 : w56.cell? ⟨gb347, 3, none⟩ = some (.int .i64 a0_3) := (blk_cell BK347.out 3).trans rfl; have hcz58_4 : w56.cell? ⟨gb347, 4, none⟩ = some (.int .i64 a0_4) := (blk_cell BK347.out 4).trans rfl; have hcz58_5 : w56.cell? ⟨gb347, 5, none⟩ = some (.int .i64 a0_5) := (blk_cell BK347.out 5).trans rfl; have hcz58_6 : w56.cell? ⟨gb347, 6, none⟩ = some (.int .i64 a0_6) := (blk_cell BK347.out 6).trans rfl; have hcz58_7 : w56.cell? ⟨gb347, 7, none⟩ = some (.int .i64 a0_7) := (blk_cell BK347.out 7).trans rfl; have hcz58_8 : w56.cell? ⟨gb347, 8, none⟩ = some (.int .i64 a0_8) := (blk_cell BK347.out 8).trans rfl; have hfz58_0 := blk_frozen BK347.out 0; have hfz58_1 := blk_frozen BK347.out 1; have hfz58_2 := blk_frozen BK347.out 2; have hfz58_3 := blk_frozen BK347.out 3; have hfz58_4 := blk_frozen BK347.out 4; have hfz58_5 := blk_frozen BK347.out 5; have hfz58_6 := blk_frozen BK347.out 6; have hfz58_7 := blk_frozen BK347.out 7; have hfz58_8 := blk_frozen BK347.out 8; have hcz59_0 : w56.cell? ⟨gb348, 0, none⟩ = some (.int .i64 a1_0) := (blk_cell BK348.out 0).trans rfl; have hcz59_1 : w56.cell? ⟨gb348, 1, none⟩ = some (.int .i64 a1_1) := (blk_cell BK348.out 1).trans rfl; have hcz59_2 : w56.cell? ⟨gb348, 2, none⟩ = some (.int .i64 a1_2) := (blk_cell BK348.out 2).trans rfl; have hcz59_3 : w56.cell? ⟨gb348, 3, none⟩ = some (.int .i64 a1_3) := (blk_cell BK348.out 3).trans rfl; have hcz59_4 : w56.cell? ⟨gb348, 4, none⟩ = some (.int .i64 a1_4) := (blk_cell BK348.out 4).trans rfl; have hcz59_5 : w56.cell? ⟨gb348, 5, none⟩ = some (.int .i64 a1_5) := (blk_cell BK348.out 5).trans rfl; have hcz59_6 : w56.cell? ⟨gb348, 6, none⟩ = some (.int .i64 a1_6) := (blk_cell BK348.out 6).trans rfl; have hcz59_7 : w56.cell? ⟨gb348, 7, none⟩ = some (.int .i64 a1_7) := (blk_cell BK348.out 7).trans rfl; have hcz59_8 : w56.cell? ⟨gb348, 8, none⟩ = some (.int .i64 a1_8) := (blk_cell BK348.out 8).trans rfl; have hfz59_0 := blk_frozen BK348.out 0; have hfz59_1 := blk_frozen BK348.out 1; have hfz59_2 := blk_frozen BK348.out 2; have hfz59_3 := blk_frozen BK348.out 3; have hfz59_4 := blk_frozen BK348.out 4; have hfz59_5 := blk_frozen BK348.out 5; have hfz59_6 := blk_frozen BK348.out 6; have hfz59_7 := blk_frozen BK348.out 7; have hfz59_8 := blk_frozen BK348.out 8))
        go_ret
        exact ⟨by first | rfl | (simp [errW_none, errW_some] <;> rfl) | (simp [*, errW_none, errW_some] <;> rfl), by repeat (first | (with_reducible first | exact HB.out | apply below_alloc | apply pw_below_drewN | apply below_drew1 | refine below_set ?_ GE347.out | refine below_set ?_ GE348.out) | exact HB.out)⟩
    · rw [if_neg c4] at H
      have c4b0 : (a0_1 == a1_1) = false := beq_eq_false_iff_ne.mpr c4
      have c4b1 : (a0_1 != a1_1) = true := bne_iff_ne.mpr c4
      obtain rfl := Option.some.inj H
      go_enter Tryd.func29, Tryd.ntmps29
      go_wp2_with (first | ((with_reducible refine gate_dst (N := 2) rfl ?_); refine box_event ?hg (N := 2) ?hd (cs := #[.int .i64 a0_0, .int .i64 a0_1, .int .i64 a0_2, .int .i64 a0_3, .int .i64 a0_4, .int .i64 a0_5, .int .i64 a0_6, .int .i64 a0_7, .int .i64 a0_8]) (t := 41) ?hr ?_; (case hd => rfl); (case hg => rfl); (case hr => first | (go_simp; done) | (go_simp; rfl)); intro gb347 hg w60 hbox hb; have n0_ := Aside0.mk (below_step (by repeat (first | (with_reducible first | exact HB.out | apply below_alloc | apply pw_below_drewN | apply below_drew1) | exact HB.out)) hb); have n1_ := Aside0.mk (hbox); have n2_ := Aside0.mk ((by rw [hg]; exact (below_size (by repeat (first | (with_reducible first | exact HB.out | apply below_alloc | apply pw_below_drewN | apply below_drew1) | exact HB.out))) : w.heap.size ≤ gb347)); have n3_ := Aside0.mk ((by rw [hg]; exact (below_size (by repeat (first | (with_reducible first | exact HB.out | apply below_alloc | apply pw_below_drewN | apply below_drew1) | exact HB.out))) : w.heap.size ≤ gb347)); clear HB; have HB := n0_; have BK347 := n1_; have GW347 := n2_; have GE347 := n3_; clear n0_ n1_ n2_ n3_; clear hb hbox hg) | ((with_reducible refine gate_dst (N := 3) rfl ?_); refine box_event ?hg (N := 3) ?hd (cs := #[.int .i64 a1_0, .int .i64 a1_1, .int .i64 a1_2, .int .i64 a1_3, .int .i64 a1_4, .int .i64 a1_5, .int .i64 a1_6, .int .i64 a1_7, .int .i64 a1_8]) (t := 41) ?hr ?_; (case hd => rfl); (case hg => rfl); (case hr => first | (go_simp; done) | (go_simp; rfl)); intro gb348 hg w61 hbox hb; have n0_ := Aside0.mk (blk_below (g := gb347) (o := .cells #[.int .i64 a0_0, .int .i64 a0_1, .int .i64 a0_2, .int .i64 a0_3, .int .i64 a0_4, .int .i64 a0_5, .int .i64 a0_6, .int .i64 a0_7, .int .i64 a0_8] 41 (0, 0)) (by (with_reducible repeat (first | refine blk_drewN ?_ _ | refine blk_drew ?_ | refine blk_alloc ?_ _)); exact BK347.out) hb); have n1_ := Aside0.mk (below_step (by repeat (first | (with_reducible first | exact HB.out | apply below_alloc | apply pw_below_drewN | apply below_drew1 | refine below_set ?_ GE347.out) | exact HB.out)) hb); have n2_ := Aside0.mk (hbox); have n3_ := Aside0.mk ((by rw [hg]; exact (below_size (by repeat (first | (with_reducible first | exact HB.out | apply below_alloc | apply pw_below_drewN | apply below_drew1 | refine below_set ?_ GE347.out) | exact HB.out))) : w.heap.size ≤ gb348)); have n4_ := Aside0.mk ((by rw [hg]; exact (below_size (by repeat (first | (with_reducible first | exact HB.out | apply below_alloc | apply pw_below_drewN | apply below_drew1 | refine below_set ?_ GE347.out) | exact HB.out))) : w.heap.size ≤ gb348)); have n5_ := Aside0.mk ((by rw [hg]; exact Nat.ne_of_lt (blk_lt (g := gb347) (o := .cells #[.int .i64 a0_0, .int .i64 a0_1, .int .i64 a0_2, .int .i64 a0_3, .int .i64 a0_4, .int .i64 a0_5, .int .i64 a0_6, .int .i64 a0_7, .int .i64 a0_8] 41 (0, 0)) (by (with_reducible repeat (first | refine blk_drewN ?_ _ | refine blk_drew ?_ | refine blk_alloc ?_ _)); exact BK347.out)) : gb347 ≠ gb348)); have n6_ := Aside0.mk ((by rw [hg]; exact Nat.ne_of_gt (blk_lt (g := gb347) (o := .cells #[.int .i64 a0_0, .int .i64 a0_1, .int .i64 a0_2, .int .i64 a0_3, .int .i64 a0_4, .int .i64 a0_5, .int .i64 a0_6, .int .i64 a0_7, .int .i64 a0_8] 41 (0, 0)) (by (with_reducible repeat (first | refine blk_drewN ?_ _ | refine blk_drew ?_ | refine blk_alloc ?_ _)); exact BK347.out)) : gb348 ≠ gb347)); clear BK347; clear HB; have BK347 := n0_; have HB := n1_; have BK348 := n2_; have GW348 := n3_; have GE348 := n4_; have NB347_348 := n5_; have NB348_347 := n6_; clear n0_ n1_ n2_ n3_ n4_ n5_ n6_; clear hb hbox hg; have hnb62 := NB347_348.out; have hnc62 := NB348_347.out; have hcz63_0 : w61.cell? ⟨gb347, 0, none⟩ = some (.int .i64 a0_0) := (blk_cell BK347.out 0).trans rfl; have hcz63_1 : w61.cell? ⟨gb347, 1, none⟩ = some (.int .i64 a0_1) := (blk_cell BK347.out 1).trans rfl; have hcz63_2 : w61.cell? ⟨gb347, 2, none⟩ = some (.int .i64 a0_2) := (blk_cell BK347.out 2).trans rfl; have hcz63_3 : w61.cell? ⟨gb347, 3, none⟩ = some (.int .i64 a0_3) := (blk_cell BK347.out 3).trans rfl; have hcz63_4 : w61.cell? ⟨gb347, 4, none⟩ = some (.int .i64 a0_4) := (blk_cell BK347.out 4).trans rfl; have hcz63_5 : w61.cell? ⟨gb347, 5, none⟩ = some (.int .i64 a0_5) := (blk_cell BK347.out 5).trans rfl; have hcz63_6 : w61.cell? ⟨gb347, 6, none⟩ = some (.int .i64 a0_6) := (blk_cell BK347.out 6).trans rfl; have hcz63_7 : w61.cell? ⟨gb347, 7, none⟩ = some (.int .i64 a0_7) := (blk_cell BK347.out 7).trans rfl; have hcz63_8 : w61.cell? ⟨gb347, 8, none⟩ = some (.int .i64 a0_8) := (blk_cell BK347.out 8).trans rfl; have hfz63_0 := blk_frozen BK347.out 0; have hfz63_1 := blk_frozen BK347.out 1; have hfz63_2 := blk_frozen BK347.out 2; have hfz63_3 := blk_frozen BK347.out 3; have hfz63_4 := blk_frozen BK347.out 4; have hfz63_5 := blk_frozen BK347.out 5; have hfz63_6 := blk_frozen BK347.out 6; have hfz63_7 := blk_frozen BK347.out 7; have hfz63_8 := blk_frozen BK347.out 8; have hcz64_0 : w61.cell? ⟨gb348, 0, none⟩ = some (.int .i64 a1_0) := (blk_cell BK348.out 0).trans rfl; have hcz64_1 : w61.cell? ⟨gb348, 1, none⟩ = some (.int .i64 a1_1) := (blk_cell BK348.out 1).trans rfl; have hcz64_2 : w61.cell? ⟨gb348, 2, none⟩ = some (.int .i64 a1_2) := (blk_cell BK348.out 2).trans rfl; have hcz64_3 : w61.cell? ⟨gb348, 3, none⟩ = some (.int .i64 a1_3) := (blk_cell BK348.out 3).trans rfl; have hcz64_4 : w61.cell? ⟨gb348, 4, none⟩ = some (.int .i64 a1_4) := (blk_cell BK348.out 4).trans rfl; have hcz64_5 : w61.cell? ⟨gb348, 5, none⟩ = some (.int .i64 a1_5) := (blk_cell BK348.out 5).trans rfl; have hcz64_6 : w61.cell? ⟨gb348, 6, none⟩ = some (.int .i64 a1_6) := (blk_cell BK348.out 6).trans rfl; have hcz64_7 : w61.cell? ⟨gb348, 7, none⟩ = some (.int .i64 a1_7) := (blk_cell BK348.out 7).trans rfl; have hcz64_8 : w61.cell? ⟨gb348, 8, none⟩ = some (.int .i64 a1_8) := (blk_cell BK348.out 8).trans rfl; have hfz64_0 := blk_frozen BK348.out 0; have hfz64_1 := blk_frozen BK348.out 1; have hfz64_2 := blk_frozen BK348.out 2; have hfz64_3 := blk_frozen BK348.out 3; have hfz64_4 := blk_frozen BK348.out 4; have hfz64_5 := blk_frozen BK348.out 5; have hfz64_6 := blk_frozen BK348.out 6; have hfz64_7 := blk_frozen BK348.out 7; have hfz64_8 := blk_frozen BK348.out 8))
      go_ret
      exact ⟨by first | rfl | (simp [errW_none, errW_some] <;> rfl) | (simp [*, errW_none, errW_some] <;> rfl), by repeat (first | (with_reducible first | exact HB.out | apply below_alloc | apply pw_below_drewN | apply below_drew1 | refine below_set ?_ GE347.out | refine below_set ?_ GE348.out) | exact HB.out)⟩
  · rw [if_neg c3] at H
    have c3b0 : (a0_0 == a1_0) = false := beq_eq_false_iff_ne.mpr c3
    have c3b1 : (a0_0 != a1_0) = true := bne_iff_ne.mpr c3
    obtain rfl := Option.some.inj H
    go_enter Tryd.func29, Tryd.ntmps29
    go_wp2_with (first | ((with_reducible refine gate_dst (N := 2) rfl ?_); refine box_event ?hg (N := 2) ?hd (cs := #[.int .i64 a0_0, .int .i64 a0_1, .int .i64 a0_2, .int .i64 a0_3, .int .i64 a0_4, .int .i64 a0_5, .int .i64 a0_6, .int .i64 a0_7, .int .i64 a0_8]) (t := 41) ?hr ?_; (case hd => rfl); (case hg => rfl); (case hr => first | (go_simp; done) | (go_simp; rfl)); intro gb347 hg w65 hbox hb; have n0_ := Aside0.mk (below_step (by repeat (first | (with_reducible first | exact HB.out | apply below_alloc | apply pw_below_drewN | apply below_drew1) | exact HB.out)) hb); have n1_ := Aside0.mk (hbox); have n2_ := Aside0.mk ((by rw [hg]; exact (below_size (by repeat (first | (with_reducible first | exact HB.out | apply below_alloc | apply pw_below_drewN | apply below_drew1) | exact HB.out))) : w.heap.size ≤ gb347)); have n3_ := Aside0.mk ((by rw [hg]; exact (below_size (by repeat (first | (with_reducible first | exact HB.out | apply below_alloc | apply pw_below_drewN | apply below_drew1) | exact HB.out))) : w.heap.size ≤ gb347)); clear HB; have HB := n0_; have BK347 := n1_; have GW347 := n2_; have GE347 := n3_; clear n0_ n1_ n2_ n3_; clear hb hbox hg) | ((with_reducible refine gate_dst (N := 3) rfl ?_); refine box_event ?hg (N := 3) ?hd (cs := #[.int .i64 a1_0, .int .i64 a1_1, .int .i64 a1_2, .int .i64 a1_3, .int .i64 a1_4, .int .i64 a1_5, .int .i64 a1_6, .int .i64 a1_7, .int .i64 a1_8]) (t := 41) ?hr ?_; (case hd => rfl); (case hg => rfl); (case hr => first | (go_simp; done) | (go_simp; rfl)); intro gb348 hg w66 hbox hb; have n0_ := Aside0.mk (blk_below (g := gb347) (o := .cells #[.int .i64 a0_0, .int .i64 a0_1, .int .i64 a0_2, .int .i64 a0_3, .int .i64 a0_4, .int .i64 a0_5, .int .i64 a0_6, .int .i64 a0_7, .int .i64 a0_8] 41 (0, 0)) (by (with_reducible repeat (first | refine blk_drewN ?_ _ | refine blk_drew ?_ | refine blk_alloc ?_ _)); exact BK347.out) hb); have n1_ := Aside0.mk (below_step (by repeat (first | (with_reducible first | exact HB.out | apply below_alloc | apply pw_below_drewN | apply below_drew1 | refine below_set ?_ GE347.out) | exact HB.out)) hb); have n2_ := Aside0.mk (hbox); have n3_ := Aside0.mk ((by rw [hg]; exact (below_size (by repeat (first | (with_reducible first | exact HB.out | apply below_alloc | apply pw_below_drewN | apply below_drew1 | refine below_set ?_ GE347.out) | exact HB.out))) : w.heap.size ≤ gb348)); have n4_ := Aside0.mk ((by rw [hg]; exact (below_size (by repeat (first | (with_reducible first | exact HB.out | apply below_alloc | apply pw_below_drewN | apply below_drew1 | refine below_set ?_ GE347.out) | exact HB.out))) : w.heap.size ≤ gb348)); have n5_ := Aside0.mk ((by rw [hg]; exact Nat.ne_of_lt (blk_lt (g := gb347) (o := .cells #[.int .i64 a0_0, .int .i64 a0_1, .int .i64 a0_2, .int .i64 a0_3, .int .i64 a0_4, .int .i64 a0_5, .int .i64 a0_6, .int .i64 a0_7, .int .i64 a0_8] 41 (0, 0)) (by (with_reducible repeat (first | refine blk_drewN ?_ _ | refine blk_drew ?_ | refine blk_alloc ?_ _)); exact BK347.out)) : gb347 ≠ gb348)); have n6_ := Aside0.mk ((by rw [hg]; exact Nat.ne_of_gt (blk_lt (g := gb347) (o := .cells #[.int .i64 a0_0, .int .i64 a0_1, .int .i64 a0_2, .int .i64 a0_3, .int .i64 a0_4, .int .i64 a0_5, .int .i64 a0_6, .int .i64 a0_7, .int .i64 a0_8] 41 (0, 0)) (by (with_reducible repeat (first | refine blk_drewN ?_ _ | refine blk_drew ?_ | refine blk_alloc ?_ _)); exact BK347.out)) : gb348 ≠ gb347)); clear BK347; clear HB; have BK347 := n0_; have HB := n1_; have BK348 := n2_; have GW348 := n3_; have GE348 := n4_; have NB347_348 := n5_; have NB348_347 := n6_; clear n0_ n1_ n2_ n3_ n4_ n5_ n6_; clear hb hbox hg; have hnb67 := NB347_348.out; have hnc67 := NB348_347.out; have hcz68_0 : w66.cell? ⟨gb347, 0, none⟩ = some (.int .i64 a0_0) := (blk_cell BK347.out 0).trans rfl; have hcz68_1 : w66.cell? ⟨gb347, 1, none⟩ = some (.int .i64 a0_1) := (blk_cell BK347.out 1).trans rfl; have hcz68_2 : w66.cell? ⟨gb347, 2, none⟩ = some (.int .i64 a0_2) := (blk_cell BK347.out 2).trans rfl; have hcz68_3 : w66.cell? ⟨gb347, 3, none⟩ = some (.int .i64 a0_3) := (blk_cell BK347.out 3).trans rfl; have hcz68_4 : w66.cell? ⟨gb347, 4, none⟩ = some (.int .i64 a0_4) := (blk_cell BK347.out 4).trans rfl; have hcz68_5 : w66.cell? ⟨gb347, 5, none⟩ = some (.int .i64 a0_5) := (blk_cell BK347.out 5).trans rfl; have hcz68_6 : w66.cell? ⟨gb347, 6, none⟩ = some (.int .i64 a0_6) := (blk_cell BK347.out 6).trans rfl; have hcz68_7 : w66.cell? ⟨gb347, 7, none⟩ = some (.int .i64 a0_7) := (blk_cell BK347.out 7).trans rfl; have hcz68_8 : w66.cell? ⟨gb347, 8, none⟩ = some (.int .i64 a0_8) := (blk_cell BK347.out 8).trans rfl; have hfz68_0 := blk_frozen BK347.out 0; have hfz68_1 := blk_frozen BK347.out 1; have hfz68_2 := blk_frozen BK347.out 2; have hfz68_3 := blk_frozen BK347.out 3; have hfz68_4 := blk_frozen BK347.out 4; have hfz68_5 := blk_frozen BK347.out 5; have hfz68_6 := blk_frozen BK347.out 6; have hfz68_7 := blk_frozen BK347.out 7; have hfz68_8 := blk_frozen BK347.out 8; have hcz69_0 : w66.cell? ⟨gb348, 0, none⟩ = some (.int .i64 a1_0) := (blk_cell BK348.out 0).trans rfl; have hcz69_1 : w66.cell? ⟨gb348, 1, none⟩ = some (.int .i64 a1_1) := (blk_cell BK348.out 1).trans rfl; have hcz69_2 : w66.cell? ⟨gb348, 2, none⟩ = some (.int .i64 a1_2) := (blk_cell BK348.out 2).trans rfl; have hcz69_3 : w66.cell? ⟨gb348, 3, none⟩ = some (.int .i64 a1_3) := (blk_cell BK348.out 3).trans rfl; have hcz69_4 : w66.cell? ⟨gb348, 4, none⟩ = some (.int .i64 a1_4) := (blk_cell BK348.out 4).trans rfl; have hcz69_5 : w66.cell? ⟨gb348, 5, none⟩ = some (.int .i64 a1_5) := (blk_cell BK348.out 5).trans rfl; have hcz69_6 : w66.cell? ⟨gb348, 6, none⟩ = some (.int .i64 a1_6) := (blk_cell BK348.out 6).trans rfl; have hcz69_7 : w66.cell? ⟨gb348, 7, none⟩ = some (.int .i64 a1_7) := (blk_cell BK348.out 7).trans rfl; have hcz69_8 : w66.cell? ⟨gb348, 8, none⟩ = some (.int .i64 a1_8) := (blk_cell BK348.out 8).trans rfl; have hfz69_0 := blk_frozen BK348.out 0; have hfz69_1 := blk_frozen BK348.out 1; have hfz69_2 := blk_frozen BK348.out 2; have hfz69_3 := blk_frozen BK348.out 3; have hfz69_4 := blk_frozen BK348.out 4; have hfz69_5 := blk_frozen BK348.out 5; have hfz69_6 := blk_frozen BK348.out 6; have hfz69_7 := blk_frozen BK348.out 7; have hfz69_8 := blk_frozen BK348.out 8))
    go_ret
    exact ⟨by first | rfl | (simp [errW_none, errW_some] <;> rfl) | (simp [*, errW_none, errW_some] <;> rfl), by repeat (first | (with_reducible first | exact HB.out | apply below_alloc | apply pw_below_drewN | apply below_drew1 | refine below_set ?_ GE347.out | refine below_set ?_ GE348.out) | exact HB.out)⟩

end Go.Proofs.YtkbklocfdoofeaaDoor.Q

-- made by a patched copy of print.sh: this session's own
namespace Go.Proofs.YtkbklocfdoofeaaDoor.Q
open Go.RowKit Go.Proofs.YtkbklocfdoofeaaDoorW.PrintWords Go.Proofs.YtkbklocfdoofeaaDoorW.PrintLast Go.Proofs.YtkbklocfdoofeaaDoorW.PrintMore
attribute [local go_sem] max2_int min2_int max_two min_two max_three min_three max_four min_four   -- for this text's walks alone
set_option linter.unusedVariables false
set_option linter.unusedSimpArgs false

/-! ### laws_eqDeedS: function 22 -/
def laws_eqDeedS.l0 : Nat → List (S41) → List (S41) → Int → Option (Bool)
  | 0, _, _, _ => none
  | k + 1, x0, x1, x5 => if x5 < (x0.length : Int) then (if 0 ≤ x5 then (if x5 < (x1.length : Int) then ((laws_eqDeed.f ((rd_T41 x0 x5).f0) ((rd_T41 x0 x5).f1) ((rd_T41 x0 x5).f2) ((rd_T41 x0 x5).f3) ((rd_T41 x0 x5).f4.f0) ((rd_T41 x0 x5).f4.f1) ((rd_T41 x0 x5).f5) ((rd_T41 x0 x5).f6) ((rd_T41 x0 x5).f7) ((rd_T41 x1 x5).f0) ((rd_T41 x1 x5).f1) ((rd_T41 x1 x5).f2) ((rd_T41 x1 x5).f3) ((rd_T41 x1 x5).f4.f0) ((rd_T41 x1 x5).f4.f1) ((rd_T41 x1 x5).f5) ((rd_T41 x1 x5).f6) ((rd_T41 x1 x5).f7)).bind fun t352 => (if t352 = true then (laws_eqDeedS.l0 k x0 x1 (wrap64 (x5 + 1))) else (some false))) else (none)) else (none)) else (some true)
def laws_eqDeedS.f (k : Nat) (l0 : List (S41)) (l1 : List (S41)) : Option (Bool) := if (l0.length : Int) = (l1.length : Int) then (laws_eqDeedS.l0 k l0 l1 0) else (some false)
def laws_eqDeedS.T6 : Bool × List (List Nat × List Nat) := (true, [([], []), ([], []), ([0, 1], [0, 1]), ([2], [2]), ([], []), ([], []), ([4, 5], [4, 5]), ([6], [6]), ([3, 7], [3, 7]), ([8], [8])])
def laws_eqDeedS.B6 : List Nat := [0, 0, 3, 7, 0, 0, 48, 112, 255, 511]
theorem laws_eqDeedS.tab6 : rtab .any (opsOf Tryd.f22 6) = laws_eqDeedS.T6 := by kernel_rfl
theorem laws_eqDeedS.bits6 : waitsOk laws_eqDeedS.T6.2 laws_eqDeedS.B6 = true := by kernel_rfl
set_option maxHeartbeats 8000000 in
set_option maxRecDepth 100000 in
theorem laws_eqDeedS.calls (k : Nat) (A0 : Option Addr) (c0 : Nat) (l0 : List (S41)) (A1 : Option Addr) (c1 : Nat) (l1 : List (S41)) (r : Bool) (w : World) (hr0 : Kd.C k41 w A0 l0.length l0) (hc0 : l0.length ≤ c0) (hr1 : Kd.C k41 w A1 l1.length l1) (hc1 : l1.length ≤ c1) (h : laws_eqDeedS.f k l0 l1 = some r) :
    Calls Tryd.prog 22 #[.slice A0 l0.length c0, .slice A1 l1.length c1] w fun e w' => e = .returned (.bool r) ∧ Below w.heap.size w w' := by
  have hu41 := Tryd.underlying41
  have HR0 := Aside0.mk hr0
  have HC0 := Aside0.mk hc0
  clear hr0 hc0
  have HR1 := Aside0.mk hr1
  have HC1 := Aside0.mk hc1
  clear hr1 hc1
  have HB := Aside0.mk (Below.refl w.heap.size w)
  have H : (if (l0.length : Int) = (l1.length : Int) then (laws_eqDeedS.l0 k l0 l1 0) else (some false)) = some r := h
  clear h
  by_cases c3 : (l0.length : Int) = (l1.length : Int)
  · rw [if_pos c3] at H
    have c3b0 : ((l0.length : Int) == (l1.length : Int)) = true := beq_iff_eq.mpr c3
    have c3b1 : ((l0.length : Int) != (l1.length : Int)) = false := bne_eq_false_iff_eq.mpr c3
    have c3b2 : (l0.length == l1.length) = true := by first | simpa using c3 | (simp at c3 ⊢; omega)
    clear c3
    have H' := Aside0.mk H
    clear H
    go_enter Tryd.func22, Tryd.ntmps22
    go_wp2
    go_loopg [5] k (fun kq v5 w' => ∃ (x5_1 : Int), v5 = .int .i64 x5_1 ∧ Aside0 (laws_eqDeedS.l0 kq l0 l1 x5_1 = some r) ∧ Aside0 (kq ≤ k) ∧ Aside0 (Below w.heap.size w w'))
    case atStart => exact ⟨(0), (by first | rfl | (simp; done) | (simp [*]; done)), H', ⟨Nat.le_refl _⟩, ⟨by repeat (first | (with_reducible first | exact HB.out | apply below_alloc | apply pw_below_drewN | apply below_drew1) | exact HB.out)⟩⟩
    case round =>
      clear H'
      try clear c1
      try clear c2
      try clear p2
      try clear c3
      try clear c3b0
      try clear c3b1
      try clear c3b2
      obtain ⟨x5_1, rfl, HA, HK1, HB⟩ := hrel
      cases gk with
      | zero => exact absurd HA.out (by simp [laws_eqDeedS.l0])
      | succ k1 =>
        have H := HA.out
        clear HA
        simp only [laws_eqDeedS.l0] at H
        by_cases c4 : x5_1 < (l0.length : Int)
        · rw [if_pos c4] at H
          have c4b0 : decide (x5_1 < (l0.length : Int)) = true := decide_eq_true c4
          clear c4
          by_cases c5 : 0 ≤ x5_1
          · rw [if_pos c5] at H
            have c5b0 : decide (0 ≤ x5_1) = true := decide_eq_true c5
            clear c5
            by_cases c6 : x5_1 < (l1.length : Int)
            · rw [if_pos c6] at H
              have c6b0 : decide (x5_1 < (l1.length : Int)) = true := decide_eq_true c6
              clear c6
              replace H := Option.bind_eq_some_iff.mp H
              obtain ⟨t352, A70, H⟩ := H
              replace H : (if t352 = true then (laws_eqDeedS.l0 k1 l0 l1 (wrap64 (x5_1 + 1))) else (some false)) = some r := H
              have A7 := Aside0.mk A70
              clear A70
              by_cases c8 : t352 = true
              · subst c8
                have H1 : (laws_eqDeedS.l0 k1 l0 l1 (wrap64 (x5_1 + 1))) = some r := by rw [if_pos rfl] at H; exact H
                clear H
                have H := H1
                clear H1
                have H' := Aside0.mk H
                clear H
                try go_wp2
                have n0_ := Aside0.mk (below_drew1 HB.out)
                clear HB
                have HB := n0_
                clear n0_
                have p350 : 0 ≤ (x5_1 : Int) := of_decide_eq_true (by first | (with_reducible assumption) | assumption)
                have q350 : x5_1 < (l0.length : Int) := of_decide_eq_true (by first | (with_reducible assumption) | assumption)
                obtain ⟨ad350, e350, hx350_0, hx350_1, hx350_2, hx350_3, hx350_4, hx350_5, hx350_6, hx350_7, hx350_8⟩ := at_T41 HR0.out x5_1 p350 q350
                have hw350_8 := hx350_8
                have hw350_7 := hx350_7
                have hw350_6 := hx350_6
                have hw350_5 := hx350_5
                have hw350_4 := hx350_4
                have hw350_3 := hx350_3
                have hw350_2 := hx350_2
                have hw350_1 := hx350_1
                have hw350_0 := hx350_0
                cases e350
                replace hx350_0 := (HB.out.cell (World.block_lt_of_cell? w _ hx350_0)).trans hx350_0
                replace hx350_1 := (HB.out.cell (World.block_lt_of_cell? w _ hx350_1)).trans hx350_1
                replace hx350_2 := (HB.out.cell (World.block_lt_of_cell? w _ hx350_2)).trans hx350_2
                replace hx350_3 := (HB.out.cell (World.block_lt_of_cell? w _ hx350_3)).trans hx350_3
                replace hx350_4 := (HB.out.cell (World.block_lt_of_cell? w _ hx350_4)).trans hx350_4
                replace hx350_5 := (HB.out.cell (World.block_lt_of_cell? w _ hx350_5)).trans hx350_5
                replace hx350_6 := (HB.out.cell (World.block_lt_of_cell? w _ hx350_6)).trans hx350_6
                replace hx350_7 := (HB.out.cell (World.block_lt_of_cell? w _ hx350_7)).trans hx350_7
                replace hx350_8 := (HB.out.cell (World.block_lt_of_cell? w _ hx350_8)).trans hx350_8
                replace p350 := eq_true p350
                replace q350 := eq_true q350
                have p351 : 0 ≤ (x5_1 : Int) := of_decide_eq_true (by first | (with_reducible assumption) | assumption)
                have q351 : x5_1 < (l1.length : Int) := of_decide_eq_true (by first | (with_reducible assumption) | assumption)
                obtain ⟨ad351, e351, hx351_0, hx351_1, hx351_2, hx351_3, hx351_4, hx351_5, hx351_6, hx351_7, hx351_8⟩ := at_T41 HR1.out x5_1 p351 q351
                have hw351_8 := hx351_8
                have hw351_7 := hx351_7
                have hw351_6 := hx351_6
                have hw351_5 := hx351_5
                have hw351_4 := hx351_4
                have hw351_3 := hx351_3
                have hw351_2 := hx351_2
                have hw351_1 := hx351_1
                have hw351_0 := hx351_0
                cases e351
                replace hx351_0 := (HB.out.cell (World.block_lt_of_cell? w _ hx351_0)).trans hx351_0
                replace hx351_1 := (HB.out.cell (World.block_lt_of_cell? w _ hx351_1)).trans hx351_1
                replace hx351_2 := (HB.out.cell (World.block_lt_of_cell? w _ hx351_2)).trans hx351_2
                replace hx351_3 := (HB.out.cell (World.block_lt_of_cell? w _ hx351_3)).trans hx351_3
                replace hx351_4 := (HB.out.cell (World.block_lt_of_cell? w _ hx351_4)).trans hx351_4
                replace hx351_5 := (HB.out.cell (World.block_lt_of_cell? w _ hx351_5)).trans hx351_5
                replace hx351_6 := (HB.out.cell (World.block_lt_of_cell? w _ hx351_6)).trans hx351_6
                replace hx351_7 := (HB.out.cell (World.block_lt_of_cell? w _ hx351_7)).trans hx351_7
                replace hx351_8 := (HB.out.cell (World.block_lt_of_cell? w _ hx351_8)).trans hx351_8
                replace p351 := eq_true p351
                replace q351 := eq_true q351
                refine start_ (n := 10) (S := fun w' => w'.cell? (ad350.add ((x5_1).toNat * 9)) = some (.int .i64 ((rd_T41 l0 x5_1).f0)) ∧ w'.cell? ⟨(ad350.add ((x5_1).toNat * 9)).block, (ad350.add ((x5_1).toNat * 9)).off + 1, none⟩ = some (.int .i64 ((rd_T41 l0 x5_1).f1)) ∧ w'.cell? ⟨(ad350.add ((x5_1).toNat * 9)).block, (ad350.add ((x5_1).toNat * 9)).off + 2, none⟩ = some (.int .i64 ((rd_T41 l0 x5_1).f2)) ∧ w'.cell? ⟨(ad350.add ((x5_1).toNat * 9)).block, (ad350.add ((x5_1).toNat * 9)).off + 3, none⟩ = some (.int .i64 ((rd_T41 l0 x5_1).f3)) ∧ w'.cell? ⟨(ad350.add ((x5_1).toNat * 9)).block, (ad350.add ((x5_1).toNat * 9)).off + 4, none⟩ = some (.int .i64 ((rd_T41 l0 x5_1).f4.f0)) ∧ w'.cell? ⟨(ad350.add ((x5_1).toNat * 9)).block, (ad350.add ((x5_1).toNat * 9)).off + 5, none⟩ = some (.int .i64 ((rd_T41 l0 x5_1).f4.f1)) ∧ w'.cell? ⟨(ad350.add ((x5_1).toNat * 9)).block, (ad350.add ((x5_1).toNat * 9)).off + 6, none⟩ = some (.int .i64 ((rd_T41 l0 x5_1).f5)) ∧ w'.cell? ⟨(ad350.add ((x5_1).toNat * 9)).block, (ad350.add ((x5_1).toNat * 9)).off + 7, none⟩ = some (.int .i64 ((rd_T41 l0 x5_1).f6)) ∧ w'.cell? ⟨(ad350.add ((x5_1).toNat * 9)).block, (ad350.add ((x5_1).toNat * 9)).off + 8, none⟩ = some (.int .i64 ((rd_T41 l0 x5_1).f7)) ∧ w'.cell? (ad351.add ((x5_1).toNat * 9)) = some (.int .i64 ((rd_T41 l1 x5_1).f0)) ∧ w'.cell? ⟨(ad351.add ((x5_1).toNat * 9)).block, (ad351.add ((x5_1).toNat * 9)).off + 1, none⟩ = some (.int .i64 ((rd_T41 l1 x5_1).f1)) ∧ w'.cell? ⟨(ad351.add ((x5_1).toNat * 9)).block, (ad351.add ((x5_1).toNat * 9)).off + 2, none⟩ = some (.int .i64 ((rd_T41 l1 x5_1).f2)) ∧ w'.cell? ⟨(ad351.add ((x5_1).toNat * 9)).block, (ad351.add ((x5_1).toNat * 9)).off + 3, none⟩ = some (.int .i64 ((rd_T41 l1 x5_1).f3)) ∧ w'.cell? ⟨(ad351.add ((x5_1).toNat * 9)).block, (ad351.add ((x5_1).toNat * 9)).off + 4, none⟩ = some (.int .i64 ((rd_T41 l1 x5_1).f4.f0)) ∧ w'.cell? ⟨(ad351.add ((x5_1).toNat * 9)).block, (ad351.add ((x5_1).toNat * 9)).off + 5, none⟩ = some (.int .i64 ((rd_T41 l1 x5_1).f4.f1)) ∧ w'.cell? ⟨(ad351.add ((x5_1).toNat * 9)).block, (ad351.add ((x5_1).toNat * 9)).off + 6, none⟩ = some (.int .i64 ((rd_T41 l1 x5_1).f5)) ∧ w'.cell? ⟨(ad351.add ((x5_1).toNat * 9)).block, (ad351.add ((x5_1).toNat * 9)).off + 7, none⟩ = some (.int .i64 ((rd_T41 l1 x5_1).f6)) ∧ w'.cell? ⟨(ad351.add ((x5_1).toNat * 9)).block, (ad351.add ((x5_1).toNat * 9)).off + 8, none⟩ = some (.int .i64 ((rd_T41 l1 x5_1).f7))) (ds := []) #[false, false, false, false, false, false, false, false, false, false] (by kernel_rfl) rfl rfl ⟨((HB.out.cell (World.block_lt_of_cell? w _ hw350_0)).trans hw350_0), ((HB.out.cell (World.block_lt_of_cell? w _ hw350_1)).trans hw350_1), ((HB.out.cell (World.block_lt_of_cell? w _ hw350_2)).trans hw350_2), ((HB.out.cell (World.block_lt_of_cell? w _ hw350_3)).trans hw350_3), ((HB.out.cell (World.block_lt_of_cell? w _ hw350_4)).trans hw350_4), ((HB.out.cell (World.block_lt_of_cell? w _ hw350_5)).trans hw350_5), ((HB.out.cell (World.block_lt_of_cell? w _ hw350_6)).trans hw350_6), ((HB.out.cell (World.block_lt_of_cell? w _ hw350_7)).trans hw350_7), ((HB.out.cell (World.block_lt_of_cell? w _ hw350_8)).trans hw350_8), ((HB.out.cell (World.block_lt_of_cell? w _ hw351_0)).trans hw351_0), ((HB.out.cell (World.block_lt_of_cell? w _ hw351_1)).trans hw351_1), ((HB.out.cell (World.block_lt_of_cell? w _ hw351_2)).trans hw351_2), ((HB.out.cell (World.block_lt_of_cell? w _ hw351_3)).trans hw351_3), ((HB.out.cell (World.block_lt_of_cell? w _ hw351_4)).trans hw351_4), ((HB.out.cell (World.block_lt_of_cell? w _ hw351_5)).trans hw351_5), ((HB.out.cell (World.block_lt_of_cell? w _ hw351_6)).trans hw351_6), ((HB.out.cell (World.block_lt_of_cell? w _ hw351_7)).trans hw351_7), ((HB.out.cell (World.block_lt_of_cell? w _ hw351_8)).trans hw351_8)⟩ (fun hHeld => ?_); refine with_tabW laws_eqDeedS.tab6 laws_eqDeedS.bits6 (fun HT_ HW_ => ?_)
                generalize wr.drew = w9 at HB hx350_0 hx350_1 hx350_2 hx350_3 hx350_4 hx350_5 hx350_6 hx350_7 hx350_8 hx351_0 hx351_1 hx351_2 hx351_3 hx351_4 hx351_5 hx351_6 hx351_7 hx351_8 hHeld ⊢
                refine pure_ (i := 0) (N := some 17) (v := ?_) (a' := ?_) #[true, false, false, false, false, false, false, false, false, false] rfl rfl (any_of HT_.out (by kernel_rfl)) (fun _ _ _ h => h) (Or.inl ⟨by rfl, ?_⟩) ?_ ?_
                rotate_left
                · intro w'
                  go_simp
                  with_reducible rfl
                rotate_left
                · simp only [Act.put, List.setIfInBounds_toArray, List.set_cons_zero, List.set_cons_succ, i64_w, i32_w]
                  rfl
                refine pure_ (i := 1) (N := some 18) (v := ?_) (a' := ?_) #[true, true, false, false, false, false, false, false, false, false] rfl rfl (any_of HT_.out (by kernel_rfl)) (fun _ _ _ h => h) (Or.inl ⟨by rfl, ?_⟩) ?_ ?_
                rotate_left
                · intro w'
                  go_simp
                  with_reducible rfl
                rotate_left
                · simp only [Act.put, List.setIfInBounds_toArray, List.set_cons_zero, List.set_cons_succ, i64_w, i32_w]
                  rfl
                refine pure_ (i := 2) (N := some 19) (v := ?_) (a' := ?_) #[true, true, true, false, false, false, false, false, false, false] rfl rfl (any_of HT_.out (by kernel_rfl)) (fun _ _ _ h => h) (Or.inl ⟨by rfl, ?_⟩) ?_ ?_
                rotate_left
                · intro w'
                  go_simp
                  with_reducible rfl
                rotate_left
                · simp only [Act.put, List.setIfInBounds_toArray, List.set_cons_zero, List.set_cons_succ, i64_w, i32_w]
                  rfl
                refine pure_ (i := 4) (N := some 21) (v := ?_) (a' := ?_) #[true, true, true, false, true, false, false, false, false, false] rfl rfl (any_of HT_.out (by kernel_rfl)) (fun _ _ _ h => h) (Or.inl ⟨by rfl, ?_⟩) ?_ ?_
                rotate_left
                · intro w'
                  go_simp
                  with_reducible rfl
                rotate_left
                · simp only [Act.put, List.setIfInBounds_toArray, List.set_cons_zero, List.set_cons_succ, i64_w, i32_w]
                  rfl
                refine pure_ (i := 5) (N := some 22) (v := ?_) (a' := ?_) #[true, true, true, false, true, true, false, false, false, false] rfl rfl (any_of HT_.out (by kernel_rfl)) (fun _ _ _ h => h) (Or.inl ⟨by rfl, ?_⟩) ?_ ?_
                rotate_left
                · intro w'
                  go_simp
                  with_reducible rfl
                rotate_left
                · simp only [Act.put, List.setIfInBounds_toArray, List.set_cons_zero, List.set_cons_succ, i64_w, i32_w]
                  rfl
                refine pure_ (i := 6) (N := some 23) (v := ?_) (a' := ?_) #[true, true, true, false, true, true, true, false, false, false] rfl rfl (any_of HT_.out (by kernel_rfl)) (fun _ _ _ h => h) (Or.inl ⟨by rfl, ?_⟩) ?_ ?_
                rotate_left
                · intro w'
                  go_simp
                  with_reducible rfl
                rotate_left
                · simp only [Act.put, List.setIfInBounds_toArray, List.set_cons_zero, List.set_cons_succ, i64_w, i32_w]
                  rfl
                refine take_ (i := 3) (N := some 20) (v := ?_) (a' := ?_) #[true, true, true, true, true, true, true, false, false, false] rfl rfl (take_ofW HT_.out HW_.out (by kernel_rfl)) (fun _ _ _ h => h) (Or.inl ⟨by rfl, ?_⟩) hHeld ?_ ?_
                rotate_left
                · rintro w' ⟨s0, s1, s2, s3, s4, s5, s6, s7, s8, s9, s10, s11, s12, s13, s14, s15, s16, s17⟩
                  go_simp
                  with_reducible rfl
                rotate_left
                · simp only [Act.put, List.setIfInBounds_toArray, List.set_cons_zero, List.set_cons_succ, i64_w, i32_w]
                  rfl
                refine take_ (i := 7) (N := some 24) (v := ?_) (a' := ?_) #[true, true, true, true, true, true, true, true, false, false] rfl rfl (take_ofW HT_.out HW_.out (by kernel_rfl)) (fun _ _ _ h => h) (Or.inl ⟨by rfl, ?_⟩) hHeld ?_ ?_
                rotate_left
                · rintro w' ⟨s0, s1, s2, s3, s4, s5, s6, s7, s8, s9, s10, s11, s12, s13, s14, s15, s16, s17⟩
                  go_simp
                  with_reducible rfl
                rotate_left
                · simp only [Act.put, List.setIfInBounds_toArray, List.set_cons_zero, List.set_cons_succ, i64_w, i32_w]
                  rfl
                refine one_ (i := 8) (N := some 25) #[true, true, true, true, true, true, true, true, true, false] rfl rfl (one_of HT_.out (by kernel_rfl)) (by decide) (fun K hK => ?_)
                refine goes_ Tryd.func29 (by kernel_rfl) rfl #[.agg #[.int .i64 ((rd_T41 l0 x5_1).f0), .int .i64 ((rd_T41 l0 x5_1).f1), .int .i64 ((rd_T41 l0 x5_1).f2), .int .i64 ((rd_T41 l0 x5_1).f3), .int .i64 ((rd_T41 l0 x5_1).f4.f0), .int .i64 ((rd_T41 l0 x5_1).f4.f1), .int .i64 ((rd_T41 l0 x5_1).f5), .int .i64 ((rd_T41 l0 x5_1).f6), .int .i64 ((rd_T41 l0 x5_1).f7)], .agg #[.int .i64 ((rd_T41 l1 x5_1).f0), .int .i64 ((rd_T41 l1 x5_1).f1), .int .i64 ((rd_T41 l1 x5_1).f2), .int .i64 ((rd_T41 l1 x5_1).f3), .int .i64 ((rd_T41 l1 x5_1).f4.f0), .int .i64 ((rd_T41 l1 x5_1).f4.f1), .int .i64 ((rd_T41 l1 x5_1).f5), .int .i64 ((rd_T41 l1 x5_1).f6), .int .i64 ((rd_T41 l1 x5_1).f7)]] (by rfl) rfl rfl (by (try simp only [List.map_toArray, List.map_cons, List.map_nil]); first | done | rfl | (simp only [List.length_drop, List.length_take]; rfl)) ?_
                with_reducible refine (laws_eqDeed.calls ((rd_T41 l0 x5_1).f0) ((rd_T41 l0 x5_1).f1) ((rd_T41 l0 x5_1).f2) ((rd_T41 l0 x5_1).f3) ((rd_T41 l0 x5_1).f4.f0) ((rd_T41 l0 x5_1).f4.f1) ((rd_T41 l0 x5_1).f5) ((rd_T41 l0 x5_1).f6) ((rd_T41 l0 x5_1).f7) ((rd_T41 l1 x5_1).f0) ((rd_T41 l1 x5_1).f1) ((rd_T41 l1 x5_1).f2) ((rd_T41 l1 x5_1).f3) ((rd_T41 l1 x5_1).f4.f0) ((rd_T41 l1 x5_1).f4.f1) ((rd_T41 l1 x5_1).f5) ((rd_T41 l1 x5_1).f6) ((rd_T41 l1 x5_1).f7) true _ A7.out).mono ?_
                rintro e w10 ⟨rfl, hb⟩
                refine ⟨_, rfl, ?_⟩
                have n0_ := Aside0.mk (below_step (by repeat (first | (with_reducible first | exact HB.out | apply below_alloc | apply pw_below_drewN | apply below_drew1) | exact HB.out)) hb)
                clear HB
                have HB := n0_
                clear n0_
                (try clear hb)
                (try clear hb2)
                (try clear hk)
                (try clear hi)
                refine hK.out _ _ ⟨((HB.out.cell (World.block_lt_of_cell? w _ hw350_0)).trans hw350_0), ((HB.out.cell (World.block_lt_of_cell? w _ hw350_1)).trans hw350_1), ((HB.out.cell (World.block_lt_of_cell? w _ hw350_2)).trans hw350_2), ((HB.out.cell (World.block_lt_of_cell? w _ hw350_3)).trans hw350_3), ((HB.out.cell (World.block_lt_of_cell? w _ hw350_4)).trans hw350_4), ((HB.out.cell (World.block_lt_of_cell? w _ hw350_5)).trans hw350_5), ((HB.out.cell (World.block_lt_of_cell? w _ hw350_6)).trans hw350_6), ((HB.out.cell (World.block_lt_of_cell? w _ hw350_7)).trans hw350_7), ((HB.out.cell (World.block_lt_of_cell? w _ hw350_8)).trans hw350_8), ((HB.out.cell (World.block_lt_of_cell? w _ hw351_0)).trans hw351_0), ((HB.out.cell (World.block_lt_of_cell? w _ hw351_1)).trans hw351_1), ((HB.out.cell (World.block_lt_of_cell? w _ hw351_2)).trans hw351_2), ((HB.out.cell (World.block_lt_of_cell? w _ hw351_3)).trans hw351_3), ((HB.out.cell (World.block_lt_of_cell? w _ hw351_4)).trans hw351_4), ((HB.out.cell (World.block_lt_of_cell? w _ hw351_5)).trans hw351_5), ((HB.out.cell (World.block_lt_of_cell? w _ hw351_6)).trans hw351_6), ((HB.out.cell (World.block_lt_of_cell? w _ hw351_7)).trans hw351_7), ((HB.out.cell (World.block_lt_of_cell? w _ hw351_8)).trans hw351_8)⟩ (fun hHeld => ?_)
                clear hK K
                refine norm_ (a' := ?_) ?_ ?_
                rotate_left
                · show Act.put _ (some 25) _ = _
                  simp only [Act.put, List.setIfInBounds_toArray, List.set_cons_zero, List.set_cons_succ, i64_w, i32_w]
                  rfl
                refine pure_ (i := 9) (N := some 26) (v := ?_) (a' := ?_) #[true, true, true, true, true, true, true, true, true, true] rfl rfl (any_of HT_.out (by kernel_rfl)) (fun _ _ _ h => h) (Or.inl ⟨by rfl, ?_⟩) ?_ ?_
                rotate_left
                · intro w'
                  go_simp
                  with_reducible rfl
                rotate_left
                · simp only [Act.put, List.setIfInBounds_toArray, List.set_cons_zero, List.set_cons_succ, i64_w, i32_w]
                  rfl
                refine done_ (done_of HT_.out (by kernel_rfl)) ?_
                try go_wp2
                go_roundg k1
                case measure => have := HK1.out; omega
                case rel => exact ⟨(wrap64 (x5_1 + 1)), (by first | rfl | (simp; done) | (simp [*]; done)), H', ⟨by have := HK1.out; omega⟩, ⟨by repeat (first | (with_reducible first | exact HB.out | apply below_alloc | apply pw_below_drewN | apply below_drew1) | exact HB.out)⟩⟩
              · replace c8 := Bool.eq_false_iff.mpr c8
                subst c8
                have H1 : (some false) = some r := by rw [if_neg (show ¬ (false = true) by decide)] at H; exact H
                clear H
                have H := H1
                clear H1
                obtain rfl := Option.some.inj H
                try go_wp2
                have n0_ := Aside0.mk (below_drew1 HB.out)
                clear HB
                have HB := n0_
                clear n0_
                have p350 : 0 ≤ (x5_1 : Int) := of_decide_eq_true (by first | (with_reducible assumption) | assumption)
                have q350 : x5_1 < (l0.length : Int) := of_decide_eq_true (by first | (with_reducible assumption) | assumption)
                obtain ⟨ad350, e350, hx350_0, hx350_1, hx350_2, hx350_3, hx350_4, hx350_5, hx350_6, hx350_7, hx350_8⟩ := at_T41 HR0.out x5_1 p350 q350
                have hw350_8 := hx350_8
                have hw350_7 := hx350_7
                have hw350_6 := hx350_6
                have hw350_5 := hx350_5
                have hw350_4 := hx350_4
                have hw350_3 := hx350_3
                have hw350_2 := hx350_2
                have hw350_1 := hx350_1
                have hw350_0 := hx350_0
                cases e350
                replace hx350_0 := (HB.out.cell (World.block_lt_of_cell? w _ hx350_0)).trans hx350_0
                replace hx350_1 := (HB.out.cell (World.block_lt_of_cell? w _ hx350_1)).trans hx350_1
                replace hx350_2 := (HB.out.cell (World.block_lt_of_cell? w _ hx350_2)).trans hx350_2
                replace hx350_3 := (HB.out.cell (World.block_lt_of_cell? w _ hx350_3)).trans hx350_3
                replace hx350_4 := (HB.out.cell (World.block_lt_of_cell? w _ hx350_4)).trans hx350_4
                replace hx350_5 := (HB.out.cell (World.block_lt_of_cell? w _ hx350_5)).trans hx350_5
                replace hx350_6 := (HB.out.cell (World.block_lt_of_cell? w _ hx350_6)).trans hx350_6
                replace hx350_7 := (HB.out.cell (World.block_lt_of_cell? w _ hx350_7)).trans hx350_7
                replace hx350_8 := (HB.out.cell (World.block_lt_of_cell? w _ hx350_8)).trans hx350_8
                replace p350 := eq_true p350
                replace q350 := eq_true q350
                have p351 : 0 ≤ (x5_1 : Int) := of_decide_eq_true (by first | (with_reducible assumption) | assumption)
                have q351 : x5_1 < (l1.length : Int) := of_decide_eq_true (by first | (with_reducible assumption) | assumption)
                obtain ⟨ad351, e351, hx351_0, hx351_1, hx351_2, hx351_3, hx351_4, hx351_5, hx351_6, hx351_7, hx351_8⟩ := at_T41 HR1.out x5_1 p351 q351
                have hw351_8 := hx351_8
                have hw351_7 := hx351_7
                have hw351_6 := hx351_6
                have hw351_5 := hx351_5
                have hw351_4 := hx351_4
                have hw351_3 := hx351_3
                have hw351_2 := hx351_2
                have hw351_1 := hx351_1
                have hw351_0 := hx351_0
                cases e351
                replace hx351_0 := (HB.out.cell (World.block_lt_of_cell? w _ hx351_0)).trans hx351_0
                replace hx351_1 := (HB.out.cell (World.block_lt_of_cell? w _ hx351_1)).trans hx351_1
                replace hx351_2 := (HB.out.cell (World.block_lt_of_cell? w _ hx351_2)).trans hx351_2
                replace hx351_3 := (HB.out.cell (World.block_lt_of_cell? w _ hx351_3)).trans hx351_3
                replace hx351_4 := (HB.out.cell (World.block_lt_of_cell? w _ hx351_4)).trans hx351_4
                replace hx351_5 := (HB.out.cell (World.block_lt_of_cell? w _ hx351_5)).trans hx351_5
                replace hx351_6 := (HB.out.cell (World.block_lt_of_cell? w _ hx351_6)).trans hx351_6
                replace hx351_7 := (HB.out.cell (World.block_lt_of_cell? w _ hx351_7)).trans hx351_7
                replace hx351_8 := (HB.out.cell (World.block_lt_of_cell? w _ hx351_8)).trans hx351_8
                replace p351 := eq_true p351
                replace q351 := eq_true q351
                refine start_ (n := 10) (S := fun w' => w'.cell? (ad350.add ((x5_1).toNat * 9)) = some (.int .i64 ((rd_T41 l0 x5_1).f0)) ∧ w'.cell? ⟨(ad350.add ((x5_1).toNat * 9)).block, (ad350.add ((x5_1).toNat * 9)).off + 1, none⟩ = some (.int .i64 ((rd_T41 l0 x5_1).f1)) ∧ w'.cell? ⟨(ad350.add ((x5_1).toNat * 9)).block, (ad350.add ((x5_1).toNat * 9)).off + 2, none⟩ = some (.int .i64 ((rd_T41 l0 x5_1).f2)) ∧ w'.cell? ⟨(ad350.add ((x5_1).toNat * 9)).block, (ad350.add ((x5_1).toNat * 9)).off + 3, none⟩ = some (.int .i64 ((rd_T41 l0 x5_1).f3)) ∧ w'.cell? ⟨(ad350.add ((x5_1).toNat * 9)).block, (ad350.add ((x5_1).toNat * 9)).off + 4, none⟩ = some (.int .i64 ((rd_T41 l0 x5_1).f4.f0)) ∧ w'.cell? ⟨(ad350.add ((x5_1).toNat * 9)).block, (ad350.add ((x5_1).toNat * 9)).off + 5, none⟩ = some (.int .i64 ((rd_T41 l0 x5_1).f4.f1)) ∧ w'.cell? ⟨(ad350.add ((x5_1).toNat * 9)).block, (ad350.add ((x5_1).toNat * 9)).off + 6, none⟩ = some (.int .i64 ((rd_T41 l0 x5_1).f5)) ∧ w'.cell? ⟨(ad350.add ((x5_1).toNat * 9)).block, (ad350.add ((x5_1).toNat * 9)).off + 7, none⟩ = some (.int .i64 ((rd_T41 l0 x5_1).f6)) ∧ w'.cell? ⟨(ad350.add ((x5_1).toNat * 9)).block, (ad350.add ((x5_1).toNat * 9)).off + 8, none⟩ = some (.int .i64 ((rd_T41 l0 x5_1).f7)) ∧ w'.cell? (ad351.add ((x5_1).toNat * 9)) = some (.int .i64 ((rd_T41 l1 x5_1).f0)) ∧ w'.cell? ⟨(ad351.add ((x5_1).toNat * 9)).block, (ad351.add ((x5_1).toNat * 9)).off + 1, none⟩ = some (.int .i64 ((rd_T41 l1 x5_1).f1)) ∧ w'.cell? ⟨(ad351.add ((x5_1).toNat * 9)).block, (ad351.add ((x5_1).toNat * 9)).off + 2, none⟩ = some (.int .i64 ((rd_T41 l1 x5_1).f2)) ∧ w'.cell? ⟨(ad351.add ((x5_1).toNat * 9)).block, (ad351.add ((x5_1).toNat * 9)).off + 3, none⟩ = some (.int .i64 ((rd_T41 l1 x5_1).f3)) ∧ w'.cell? ⟨(ad351.add ((x5_1).toNat * 9)).block, (ad351.add ((x5_1).toNat * 9)).off + 4, none⟩ = some (.int .i64 ((rd_T41 l1 x5_1).f4.f0)) ∧ w'.cell? ⟨(ad351.add ((x5_1).toNat * 9)).block, (ad351.add ((x5_1).toNat * 9)).off + 5, none⟩ = some (.int .i64 ((rd_T41 l1 x5_1).f4.f1)) ∧ w'.cell? ⟨(ad351.add ((x5_1).toNat * 9)).block, (ad351.add ((x5_1).toNat * 9)).off + 6, none⟩ = some (.int .i64 ((rd_T41 l1 x5_1).f5)) ∧ w'.cell? ⟨(ad351.add ((x5_1).toNat * 9)).block, (ad351.add ((x5_1).toNat * 9)).off + 7, none⟩ = some (.int .i64 ((rd_T41 l1 x5_1).f6)) ∧ w'.cell? ⟨(ad351.add ((x5_1).toNat * 9)).block, (ad351.add ((x5_1).toNat * 9)).off + 8, none⟩ = some (.int .i64 ((rd_T41 l1 x5_1).f7))) (ds := []) #[false, false, false, false, false, false, false, false, false, false] (by kernel_rfl) rfl rfl ⟨((HB.out.cell (World.block_lt_of_cell? w _ hw350_0)).trans hw350_0), ((HB.out.cell (World.block_lt_of_cell? w _ hw350_1)).trans hw350_1), ((HB.out.cell (World.block_lt_of_cell? w _ hw350_2)).trans hw350_2), ((HB.out.cell (World.block_lt_of_cell? w _ hw350_3)).trans hw350_3), ((HB.out.cell (World.block_lt_of_cell? w _ hw350_4)).trans hw350_4), ((HB.out.cell (World.block_lt_of_cell? w _ hw350_5)).trans hw350_5), ((HB.out.cell (World.block_lt_of_cell? w _ hw350_6)).trans hw350_6), ((HB.out.cell (World.block_lt_of_cell? w _ hw350_7)).trans hw350_7), ((HB.out.cell (World.block_lt_of_cell? w _ hw350_8)).trans hw350_8), ((HB.out.cell (World.block_lt_of_cell? w _ hw351_0)).trans hw351_0), ((HB.out.cell (World.block_lt_of_cell? w _ hw351_1)).trans hw351_1), ((HB.out.cell (World.block_lt_of_cell? w _ hw351_2)).trans hw351_2), ((HB.out.cell (World.block_lt_of_cell? w _ hw351_3)).trans hw351_3), ((HB.out.cell (World.block_lt_of_cell? w _ hw351_4)).trans hw351_4), ((HB.out.cell (World.block_lt_of_cell? w _ hw351_5)).trans hw351_5), ((HB.out.cell (World.block_lt_of_cell? w _ hw351_6)).trans hw351_6), ((HB.out.cell (World.block_lt_of_cell? w _ hw351_7)).trans hw351_7), ((HB.out.cell (World.block_lt_of_cell? w _ hw351_8)).trans hw351_8)⟩ (fun hHeld => ?_); refine with_tabW laws_eqDeedS.tab6 laws_eqDeedS.bits6 (fun HT_ HW_ => ?_)
                generalize wr.drew = w11 at HB hx350_0 hx350_1 hx350_2 hx350_3 hx350_4 hx350_5 hx350_6 hx350_7 hx350_8 hx351_0 hx351_1 hx351_2 hx351_3 hx351_4 hx351_5 hx351_6 hx351_7 hx351_8 hHeld ⊢
                refine pure_ (i := 0) (N := some 17) (v := ?_) (a' := ?_) #[true, false, false, false, false, false, false, false, false, false] rfl rfl (any_of HT_.out (by kernel_rfl)) (fun _ _ _ h => h) (Or.inl ⟨by rfl, ?_⟩) ?_ ?_
                rotate_left
                · intro w'
                  go_simp
                  with_reducible rfl
                rotate_left
                · simp only [Act.put, List.setIfInBounds_toArray, List.set_cons_zero, List.set_cons_succ, i64_w, i32_w]
                  rfl
                refine pure_ (i := 1) (N := some 18) (v := ?_) (a' := ?_) #[true, true, false, false, false, false, false, false, false, false] rfl rfl (any_of HT_.out (by kernel_rfl)) (fun _ _ _ h => h) (Or.inl ⟨by rfl, ?_⟩) ?_ ?_
                rotate_left
                · intro w'
                  go_simp
                  with_reducible rfl
                rotate_left
                · simp only [Act.put, List.setIfInBounds_toArray, List.set_cons_zero, List.set_cons_succ, i64_w, i32_w]
                  rfl
                refine pure_ (i := 2) (N := some 19) (v := ?_) (a' := ?_) #[true, true, true, false, false, false, false, false, false, false] rfl rfl (any_of HT_.out (by kernel_rfl)) (fun _ _ _ h => h) (Or.inl ⟨by rfl, ?_⟩) ?_ ?_
                rotate_left
                · intro w'
                  go_simp
                  with_reducible rfl
                rotate_left
                · simp only [Act.put, List.setIfInBounds_toArray, List.set_cons_zero, List.set_cons_succ, i64_w, i32_w]
                  rfl
                refine pure_ (i := 4) (N := some 21) (v := ?_) (a' := ?_) #[true, true, true, false, true, false, false, false, false, false] rfl rfl (any_of HT_.out (by kernel_rfl)) (fun _ _ _ h => h) (Or.inl ⟨by rfl, ?_⟩) ?_ ?_
                rotate_left
                · intro w'
                  go_simp
                  with_reducible rfl
                rotate_left
                · simp only [Act.put, List.setIfInBounds_toArray, List.set_cons_zero, List.set_cons_succ, i64_w, i32_w]
                  rfl
                refine pure_ (i := 5) (N := some 22) (v := ?_) (a' := ?_) #[true, true, true, false, true, true, false, false, false, false] rfl rfl (any_of HT_.out (by kernel_rfl)) (fun _ _ _ h => h) (Or.inl ⟨by rfl, ?_⟩) ?_ ?_
                rotate_left
                · intro w'
                  go_simp
                  with_reducible rfl
                rotate_left
                · simp only [Act.put, List.setIfInBounds_toArray, List.set_cons_zero, List.set_cons_succ, i64_w, i32_w]
                  rfl
                refine pure_ (i := 6) (N := some 23) (v := ?_) (a' := ?_) #[true, true, true, false, true, true, true, false, false, false] rfl rfl (any_of HT_.out (by kernel_rfl)) (fun _ _ _ h => h) (Or.inl ⟨by rfl, ?_⟩) ?_ ?_
                rotate_left
                · intro w'
                  go_simp
                  with_reducible rfl
                rotate_left
                · simp only [Act.put, List.setIfInBounds_toArray, List.set_cons_zero, List.set_cons_succ, i64_w, i32_w]
                  rfl
                refine take_ (i := 3) (N := some 20) (v := ?_) (a' := ?_) #[true, true, true, true, true, true, true, false, false, false] rfl rfl (take_ofW HT_.out HW_.out (by kernel_rfl)) (fun _ _ _ h => h) (Or.inl ⟨by rfl, ?_⟩) hHeld ?_ ?_
                rotate_left
                · rintro w' ⟨s0, s1, s2, s3, s4, s5, s6, s7, s8, s9, s10, s11, s12, s13, s14, s15, s16, s17⟩
                  go_simp
                  with_reducible rfl
                rotate_left
                · simp only [Act.put, List.setIfInBounds_toArray, List.set_cons_zero, List.set_cons_succ, i64_w, i32_w]
                  rfl
                refine take_ (i := 7) (N := some 24) (v := ?_) (a' := ?_) #[true, true, true, true, true, true, true, true, false, false] rfl rfl (take_ofW HT_.out HW_.out (by kernel_rfl)) (fun _ _ _ h => h) (Or.inl ⟨by rfl, ?_⟩) hHeld ?_ ?_
                rotate_left
                · rintro w' ⟨s0, s1, s2, s3, s4, s5, s6, s7, s8, s9, s10, s11, s12, s13, s14, s15, s16, s17⟩
                  go_simp
                  with_reducible rfl
                rotate_left
                · simp only [Act.put, List.setIfInBounds_toArray, List.set_cons_zero, List.set_cons_succ, i64_w, i32_w]
                  rfl
                refine one_ (i := 8) (N := some 25) #[true, true, true, true, true, true, true, true, true, false] rfl rfl (one_of HT_.out (by kernel_rfl)) (by decide) (fun K hK => ?_)
                refine goes_ Tryd.func29 (by kernel_rfl) rfl #[.agg #[.int .i64 ((rd_T41 l0 x5_1).f0), .int .i64 ((rd_T41 l0 x5_1).f1), .int .i64 ((rd_T41 l0 x5_1).f2), .int .i64 ((rd_T41 l0 x5_1).f3), .int .i64 ((rd_T41 l0 x5_1).f4.f0), .int .i64 ((rd_T41 l0 x5_1).f4.f1), .int .i64 ((rd_T41 l0 x5_1).f5), .int .i64 ((rd_T41 l0 x5_1).f6), .int .i64 ((rd_T41 l0 x5_1).f7)], .agg #[.int .i64 ((rd_T41 l1 x5_1).f0), .int .i64 ((rd_T41 l1 x5_1).f1), .int .i64 ((rd_T41 l1 x5_1).f2), .int .i64 ((rd_T41 l1 x5_1).f3), .int .i64 ((rd_T41 l1 x5_1).f4.f0), .int .i64 ((rd_T41 l1 x5_1).f4.f1), .int .i64 ((rd_T41 l1 x5_1).f5), .int .i64 ((rd_T41 l1 x5_1).f6), .int .i64 ((rd_T41 l1 x5_1).f7)]] (by rfl) rfl rfl (by (try simp only [List.map_toArray, List.map_cons, List.map_nil]); first | done | rfl | (simp only [List.length_drop, List.length_take]; rfl)) ?_
                with_reducible refine (laws_eqDeed.calls ((rd_T41 l0 x5_1).f0) ((rd_T41 l0 x5_1).f1) ((rd_T41 l0 x5_1).f2) ((rd_T41 l0 x5_1).f3) ((rd_T41 l0 x5_1).f4.f0) ((rd_T41 l0 x5_1).f4.f1) ((rd_T41 l0 x5_1).f5) ((rd_T41 l0 x5_1).f6) ((rd_T41 l0 x5_1).f7) ((rd_T41 l1 x5_1).f0) ((rd_T41 l1 x5_1).f1) ((rd_T41 l1 x5_1).f2) ((rd_T41 l1 x5_1).f3) ((rd_T41 l1 x5_1).f4.f0) ((rd_T41 l1 x5_1).f4.f1) ((rd_T41 l1 x5_1).f5) ((rd_T41 l1 x5_1).f6) ((rd_T41 l1 x5_1).f7) false _ A7.out).mono ?_
                rintro e w12 ⟨rfl, hb⟩
                refine ⟨_, rfl, ?_⟩
                have n0_ := Aside0.mk (below_step (by repeat (first | (with_reducible first | exact HB.out | apply below_alloc | apply pw_below_drewN | apply below_drew1) | exact HB.out)) hb)
                clear HB
                have HB := n0_
                clear n0_
                (try clear hb)
                (try clear hb2)
                (try clear hk)
                (try clear hi)
                refine hK.out _ _ ⟨((HB.out.cell (World.block_lt_of_cell? w _ hw350_0)).trans hw350_0), ((HB.out.cell (World.block_lt_of_cell? w _ hw350_1)).trans hw350_1), ((HB.out.cell (World.block_lt_of_cell? w _ hw350_2)).trans hw350_2), ((HB.out.cell (World.block_lt_of_cell? w _ hw350_3)).trans hw350_3), ((HB.out.cell (World.block_lt_of_cell? w _ hw350_4)).trans hw350_4), ((HB.out.cell (World.block_lt_of_cell? w _ hw350_5)).trans hw350_5), ((HB.out.cell (World.block_lt_of_cell? w _ hw350_6)).trans hw350_6), ((HB.out.cell (World.block_lt_of_cell? w _ hw350_7)).trans hw350_7), ((HB.out.cell (World.block_lt_of_cell? w _ hw350_8)).trans hw350_8), ((HB.out.cell (World.block_lt_of_cell? w _ hw351_0)).trans hw351_0), ((HB.out.cell (World.block_lt_of_cell? w _ hw351_1)).trans hw351_1), ((HB.out.cell (World.block_lt_of_cell? w _ hw351_2)).trans hw351_2), ((HB.out.cell (World.block_lt_of_cell? w _ hw351_3)).trans hw351_3), ((HB.out.cell (World.block_lt_of_cell? w _ hw351_4)).trans hw351_4), ((HB.out.cell (World.block_lt_of_cell? w _ hw351_5)).trans hw351_5), ((HB.out.cell (World.block_lt_of_cell? w _ hw351_6)).trans hw351_6), ((HB.out.cell (World.block_lt_of_cell? w _ hw351_7)).trans hw351_7), ((HB.out.cell (World.block_lt_of_cell? w _ hw351_8)).trans hw351_8)⟩ (fun hHeld => ?_)
                clear hK K
                refine norm_ (a' := ?_) ?_ ?_
                rotate_left
                · show Act.put _ (some 25) _ = _
                  simp only [Act.put, List.setIfInBounds_toArray, List.set_cons_zero, List.set_cons_succ, i64_w, i32_w]
                  rfl
                refine pure_ (i := 9) (N := some 26) (v := ?_) (a' := ?_) #[true, true, true, true, true, true, true, true, true, true] rfl rfl (any_of HT_.out (by kernel_rfl)) (fun _ _ _ h => h) (Or.inl ⟨by rfl, ?_⟩) ?_ ?_
                rotate_left
                · intro w'
                  go_simp
                  with_reducible rfl
                rotate_left
                · simp only [Act.put, List.setIfInBounds_toArray, List.set_cons_zero, List.set_cons_succ, i64_w, i32_w]
                  rfl
                refine done_ (done_of HT_.out (by kernel_rfl)) ?_
                try go_wp2
                go_ret
                exact ⟨by first | rfl | (simp [errW_none, errW_some] <;> rfl) | (simp [*, errW_none, errW_some] <;> rfl), by repeat (first | (with_reducible first | exact HB.out | apply below_alloc | apply pw_below_drewN | apply below_drew1) | exact HB.out)⟩
            · rw [if_neg c6] at H
              exact absurd H (by simp)
          · rw [if_neg c5] at H
            exact absurd H (by simp)
        · rw [if_neg c4] at H
          have c4b0 : decide (x5_1 < (l0.length : Int)) = false := decide_eq_false c4
          clear c4
          obtain rfl := Option.some.inj H
          go_wp2
          go_ret
          exact ⟨by first | rfl | (simp [errW_none, errW_some] <;> rfl) | (simp [*, errW_none, errW_some] <;> rfl), by repeat (first | (with_reducible first | exact HB.out | apply below_alloc | apply pw_below_drewN | apply below_drew1) | exact HB.out)⟩
  · rw [if_neg c3] at H
    have c3b0 : ((l0.length : Int) == (l1.length : Int)) = false := beq_eq_false_iff_ne.mpr c3
    have c3b1 : ((l0.length : Int) != (l1.length : Int)) = true := bne_iff_ne.mpr c3
    have c3b2 : (l0.length == l1.length) = false := by first | simpa using c3 | (simp at c3 ⊢; omega)
    obtain rfl := Option.some.inj H
    go_enter Tryd.func22, Tryd.ntmps22
    go_wp2
    go_ret
    exact ⟨by first | rfl | (simp [errW_none, errW_some] <;> rfl) | (simp [*, errW_none, errW_some] <;> rfl), by repeat (first | (with_reducible first | exact HB.out | apply below_alloc | apply pw_below_drewN | apply below_drew1) | exact HB.out)⟩

end Go.Proofs.YtkbklocfdoofeaaDoor.Q

-- made by a patched copy of print.sh: this session's own
namespace Go.Proofs.YtkbklocfdoofeaaDoor.Q
open Go.RowKit Go.Proofs.YtkbklocfdoofeaaDoorW.PrintWords Go.Proofs.YtkbklocfdoofeaaDoorW.PrintLast Go.Proofs.YtkbklocfdoofeaaDoorW.PrintMore
attribute [local go_sem] max2_int min2_int max_two min_two max_three min_three max_four min_four   -- for this text's walks alone
set_option linter.unusedVariables false
set_option linter.unusedSimpArgs false

/-! ### spec_l11Deedlist: function 65 -/
def spec_l11Deedlist.f (k : Nat) (a0 : ByteArray) : Option ((List (S41)) × Bool) := if (a0.size : Int) > 4000 then (some (([] : List (S41)), false)) else ((spec_l11Recover.f k a0).bind fun bt313 => (if bt313.2 < (a0.size : Int) then (some (([] : List (S41)), false)) else (some (bt313.1, true))))
end Go.Proofs.YtkbklocfdoofeaaDoor.Q

-- made by a patched copy of print.sh: this session's own
namespace Go.Proofs.YtkbklocfdoofeaaDoor.Q
open Go.RowKit Go.Proofs.YtkbklocfdoofeaaDoorW.PrintWords Go.Proofs.YtkbklocfdoofeaaDoorW.PrintLast Go.Proofs.YtkbklocfdoofeaaDoorW.PrintMore
attribute [local go_sem] max2_int min2_int max_two min_two max_three min_three max_four min_four   -- for this text's walks alone
set_option linter.unusedVariables false
set_option linter.unusedSimpArgs false

/-! ### spec_ReadJournal: function 34 -/
def spec_ReadJournal.f (k : Nat) (a0 : ByteArray) : Option ((List (S41)) × Bool) := (spec_l11Deedlist.f k a0).bind fun bt317 => (some (bt317.1, bt317.2))
end Go.Proofs.YtkbklocfdoofeaaDoor.Q

-- made by a patched copy of print.sh: this session's own
namespace Go.Proofs.YtkbklocfdoofeaaDoor.Q
open Go.RowKit Go.Proofs.YtkbklocfdoofeaaDoorW.PrintWords Go.Proofs.YtkbklocfdoofeaaDoorW.PrintLast Go.Proofs.YtkbklocfdoofeaaDoorW.PrintMore
attribute [local go_sem] max2_int min2_int max_two min_two max_three min_three max_four min_four   -- for this text's walks alone
set_option linter.unusedVariables false
set_option linter.unusedSimpArgs false

/-! ### impl_ReadJournal: function 35 -/
def impl_ReadJournal.f (k : Nat) (a0 : ByteArray) : Option ((List (S41)) × Bool) := if (a0.size : Int) > 4000 then (some (([] : List (S41)), false)) else ((impl_recovered.f k a0).bind fun bt346 => (if bt346.2 = (a0.size : Int) then (some (bt346.1, true)) else (some (([] : List (S41)), false))))
end Go.Proofs.YtkbklocfdoofeaaDoor.Q

/- The two readers of a deed hand back the same. -/
namespace Go.Proofs.YtkbklocfdoofeaaDoor.PuR
open Go.RowKit Go.Proofs.YtkbklocfdoofeaaDoorW.PrintWords Go.Proofs.YtkbklocfdoofeaaDoorW.PrintLast Go.Proofs.YtkbklocfdoofeaaDoorW.PrintMore Go.Proofs.YtkbklocfdoofeaaDoor.Q Go.Proofs.YtkbklocfdoofeaaDoor.Ha Go.Proofs.YtkbklocfdoofeaaDoor.Sp Go.Proofs.YtkbklocfdoofeaaDoor.PuD Go.Proofs.YtkbklocfdoofeaaDoor.PuV Go.Proofs.YtkbklocfdoofeaaDoor.PuW Go.Proofs.YtkbklocfdoofeaaDoor.PuVD Go.Proofs.YtkbklocfdoofeaaDoor.PuDT Go.Proofs.YtkbklocfdoofeaaDoor.Ni Go.Proofs.YtkbklocfdoofeaaDoor.Hr Go.Proofs.YtkbklocfdoofeaaDoor.Hs Go.Proofs.YtkbklocfdoofeaaDoor.Hd Go.Proofs.YtkbklocfdoofeaaDoor.Ht

theorem split1_ne (c : UInt8) (l : List UInt8) : split1 c l ≠ [] := by
  by_cases h : c ∈ l
  · obtain ⟨p, q, rfl, hp⟩ := first_at c l h
    rw [split1_some c p q hp]; simp
  · rw [split1_none c l h]; simp
theorem split1_one {c : UInt8} {l a : List UInt8} (h : split1 c l = [a]) : l = a ∧ c ∉ l := by
  by_cases hc : c ∈ l
  · obtain ⟨p, q, rfl, hp⟩ := first_at c l hc
    rw [split1_some c p q hp] at h
    exact absurd (List.cons.inj h).2 (split1_ne c q)
  · rw [split1_none c l hc] at h
    exact ⟨(List.cons.inj h).1, hc⟩
theorem split1_more {c : UInt8} {l a b : List UInt8} {r : List (List UInt8)} (h : split1 c l = a :: b :: r) : ∃ q, l = a ++ c :: q ∧ c ∉ a ∧ split1 c q = b :: r := by
  by_cases hc : c ∈ l
  · obtain ⟨p, q, rfl, hp⟩ := first_at c l hc
    rw [split1_some c p q hp] at h
    obtain ⟨rfl, h2⟩ := List.cons.inj h
    exact ⟨q, rfl, hp, h2⟩
  · rw [split1_none c l hc] at h
    cases (List.cons.inj h).2

theorem readIn_eq (l : List UInt8) (hl : l.length ≤ 281474976710656) (a b : Int) : impl_readIn.f (txt l) a b = some (readL l a b) := by
  unfold impl_readIn.f
  rw [if_pos (by simpa [txt, ByteArray.size] using hl)]; rfl
theorem split_eq (l : List UInt8) (hl : l.length ≤ 1048576) : strings_Split.f (txt l) (⟨#[32]⟩ : ByteArray) = some ((split1 32 l).map txt) := by
  show (if (txt l).size < 4294967281 then some ((split1 32 (txt l).data.toList).map tx) else none) = _
  rw [if_pos (by rw [txt_size]; omega)]; rfl

/-- The numbers of words, or none. -/
def nums : List (List UInt8) → Option (List Int)
  | [] => some []
  | w :: r => if (rdV w).2 = true then (nums r).map ((rdV w).1 :: ·) else none
theorem nums_len {ws : List (List UInt8)} {ns : List Int} (h : nums ws = some ns) : ns.length = ws.length := by
  induction ws generalizing ns with
  | nil => simp only [nums, Option.some.injEq] at h; subst h; rfl
  | cons w r ih =>
    simp only [nums] at h
    split at h
    · cases hn : nums r with
      | none => rw [hn] at h; cases h
      | some m => rw [hn] at h; simp only [Option.map_some, Option.some.injEq] at h; subst h; simp [ih hn]
    · cases h
theorem all_loop (ws : List (List UInt8)) (hw : ∀ w ∈ ws, w.length ≤ 281474976710656) (hn : ws.length < 17592186044416) : ∀ (d k i : Nat) (out : List Int), i + d = ws.length → d < k → out.length = i →
    impl_readAll.l0 k (-1000000000) 1000000000 out (ws.map txt) (ws.length : Int) (i : Int) = some (match nums (ws.drop i) with | some m => (out ++ m, true) | none => ([], false)) := by
  intro d
  induction d with
  | zero =>
    intro k i out hi hk ho
    obtain ⟨k, rfl⟩ : ∃ m, k = m + 1 := ⟨k - 1, by omega⟩
    simp only [impl_readAll.l0]
    rw [if_neg (by omega), List.drop_eq_nil_of_le (by omega)]
    simp [nums]
  | succ d ih =>
    intro k i out hi hk ho
    obtain ⟨k, rfl⟩ : ∃ m, k = m + 1 := ⟨k - 1, by omega⟩
    have hlt : i < ws.length := by omega
    have e1 : rdOf ByteArray.empty (ws.map txt) (i : Int) = txt ws[i] := by
      simp [rdOf, hlt]
    have e2 : wrap64 ((i : Int) + 1) = ((i + 1 : Nat) : Int) := by rw [PuV.wrap_id (by omega) (by omega)]; omega
    simp only [impl_readAll.l0, List.length_map]
    rw [if_pos (by omega), if_pos (by omega), if_pos (by omega), e1, readIn_eq _ (hw _ (List.getElem_mem hlt)), Option.bind_some, e2, List.drop_eq_getElem_cons hlt]
    simp only [nums]
    by_cases h : (rdV ws[i]).2 = true
    · rw [if_pos h, if_pos h, if_pos (by omega), ih k (i + 1) _ (by omega) (by omega) (by simp [ho])]
      cases nums (ws.drop (i + 1)) <;> simp
    · rw [if_neg h, if_neg h]
theorem all_eq (l : List UInt8) (hl : l.length ≤ 1048576) (k : Nat) (hk : l.length + 1 < k) : impl_readAll.f k (txt l) (⟨#[32]⟩ : ByteArray) (-1000000000) 1000000000 = some (match nums (split1 32 l) with | some m => (m, true) | none => ([], false)) := by
  have hr := split_eq l hl
  have hle : ∀ w ∈ split1 32 l, w.length ≤ l.length := split1_len 32 l
  have hc : (split1 32 l).length ≤ l.length + 1 := by
    clear hle hr hk hl
    induction l with
    | nil => simp [split1]
    | cons b l ih =>
      simp only [split1]
      split
      · simp; omega
      · split
        · simp
        · rename_i w0 ws he
          rw [he] at ih; simp at ih ⊢; omega
  simp only [impl_readAll.f, hr, Option.bind_some, List.length_map]
  have := all_loop (split1 32 l) (fun w hw => by have := hle w hw; omega) (by omega) (split1 32 l).length k 0 [] (by omega) (by omega) rfl
  simpa using this

theorem reads_itoa {w : List UInt8} (h : (rdV w).2 = true) : w = Lib.itoa (rdV w).1 := by
  rcases readL_cases w (-1000000000) 1000000000 with e | ⟨n, hn, e⟩
  · rw [show rdV w = readL w (-1000000000) 1000000000 from rfl, e] at h; cases h
  · rw [show rdV w = readL w (-1000000000) 1000000000 from rfl, e]; exact hn.1

theorem itoa_no32 (n : Int) : 32 ∉ Lib.itoa n := by
  have hd : ∀ u : Nat, 32 ∉ Lib.decDigits u := by
    intro u hm
    have := List.all_eq_true.1 (decDigits_val u).2.1 32 hm
    exact absurd this (by decide)
  unfold Lib.itoa
  split
  · intro h
    rcases List.mem_cons.1 h with h | h
    · cases h
    · exact hd _ h
  · exact hd _

/-- The ring that the program reads, whatever stands there. -/
def ringV : List UInt8 → Int × Int
  | [] => (0, 0)
  | c :: r => if c = 115 then (0, (rdV r).1) else if c = 116 then (1, (rdV r).1) else (0, 0)
theorem ringR_eq (l : List UInt8) (hl : l.length ≤ 1048576) (k : Nat) : ∃ ok, impl_readRing.f (k + 1) (txt l) = some ((ringV l).1, (ringV l).2, ok) := by
  cases l with
  | nil => exact ⟨false, by simp only [impl_readRing.f, ByteArray.toList_eq]; rfl⟩
  | cons c r =>
    have hx : (txt (c :: r)).extract 1 (r.length + 1) = txt r := by rw [extract_txt, ← List.length_cons (a := c), List.take_length]; rfl
    have hb := bt_txt (c :: r) 0 (by simp)
    rw [show ((0 : Nat) : Int) = 0 from rfl] at hb
    have e1 : ((c.toNat : Int) = 115) = (c = 115) := propext ⟨fun h => u8_eq _ 115 h, fun h => by rw [h]; rfl⟩
    have e2 : ((c.toNat : Int) = 116) = (c = 116) := propext ⟨fun h => u8_eq _ 116 h, fun h => by rw [h]; rfl⟩
    have hne : ((txt (c :: r)).toList = []) = False := by rw [ByteArray.toList_eq]; exact eq_false (by simp [txt])
    have hd : impl_ReadDecimal.f (txt r) = some (rdV r) := by
      simp only [impl_ReadDecimal.f, readIn_eq r (by simp at hl; omega), Option.bind_some]
    have j0 : impl_readRing.j0 (k + 1) (txt (c :: r)) false = (if c = 116 then (if (rdV r).2 = true then ((impl_ValidRing.f 1 (rdV r).1).bind fun t553 => (some (1, (rdV r).1, t553))) else (some (1, (rdV r).1, false))) else (if (rdV r).2 = true then ((impl_ValidRing.f 0 (rdV r).1).bind fun t554 => (some (0, (rdV r).1, t554))) else (some (0, (rdV r).1, false)))) := by
      simp only [impl_readRing.j0, txt_size, List.length_cons, hx, hd, hb, List.getElem_cons_zero, e2, Option.bind_some, Bool.false_eq_true, if_false]
      rw [if_pos (by omega), if_pos (by omega)]
    simp only [impl_readRing.f, hne, if_false, txt_size, List.length_cons, hb, List.getElem_cons_zero, e1]
    rw [if_pos (by omega)]
    by_cases h1 : c = 115
    · subst h1
      rw [if_pos rfl, j0, if_neg (by decide)]
      simp only [ringV, if_true, ring2_eq, Option.bind_some]
      split <;> exact ⟨_, rfl⟩
    · rw [if_neg h1]
      by_cases h2 : c = 116
      · subst h2
        rw [show ((((116 : UInt8).toNat : Int)) != 116) = false from rfl, j0, if_pos rfl]
        have e3 : ((116 : UInt8) = 115) = False := eq_false (by decide)
        simp only [ringV, e3, if_true, if_false, ring2_eq, Option.bind_some]
        split <;> exact ⟨_, rfl⟩
      · rw [show (((c.toNat : Int)) != 116) = true from by rw [bne_iff_ne]; intro h; exact h2 (e2.mp h)]
        simp only [ringV, h1, h2, if_false]
        exact ⟨false, by simp only [impl_readRing.j0, if_true]⟩

theorem n0_no : okN n0 = (n0, false) := rfl
theorem okI_yes {l : List UInt8} {x : Nine} (h : textN x = l) : okI l x = okN x := by
  unfold okI okN
  by_cases hd : deedN x = true
  · rw [if_pos ⟨hd, h⟩, if_pos hd]
  · rw [if_neg (fun y => hd y.1), if_neg hd]
theorem okI_no {l : List UInt8} {x : Nine} (h : textN x ≠ l) : okI l x = (n0, false) := by
  unfold okI; rw [if_neg (fun y => h y.2)]
theorem ring_text (a b : Int) : textN (2, 0, 0, 0, a, b, 0, 0, 0) = wBuild ++ 32 :: ringT a b := by
  show deedT 2 0 0 0 a b 0 0 0 = _
  unfold deedT; rw [if_neg (by decide), if_pos rfl]; rfl
theorem ring_eq (q : List UInt8) (h32 : 32 ∉ q) : okI (wBuild ++ 32 :: q) (2, 0, 0, 0, (ringV q).1, (ringV q).2, 0, 0, 0) = okN (2, 0, 0, 0, (wordR q).1, (wordR q).2, 0, 0, 0) := by
  have bad : okN (2, 0, 0, 0, -1, 0, 0, 0, 0) = (n0, false) := rfl
  have key : ∀ a b, ringT a b ≠ q → okI (wBuild ++ 32 :: q) (2, 0, 0, 0, a, b, 0, 0, 0) = (n0, false) := by
    intro a b h
    refine okI_no fun e => h ?_
    rw [ring_text] at e
    exact (List.cons.inj (List.append_cancel_left e)).2
  cases q with
  | nil =>
    simp only [wordR, ringV]
    rw [bad]
    refine key _ _ fun e => ?_
    have := congrArg List.length e
    simp [ringT] at this
  | cons c r =>
    rcases readL_cases r (-1000000000) 1000000000 with e | ⟨n, hn, e⟩
    · simp only [wordR, e, ringV, rdV, Bool.false_eq_true, if_false]
      rw [bad]
      have h0 : Lib.itoa 0 ≠ r := by
        rintro rfl
        rw [readL_yes (n := 0) ⟨rfl, by decide, by decide⟩ (by decide) (by decide)] at e
        cases e
      split
      · exact key _ _ fun e => h0 (List.cons.inj e).2
      · split
        · exact key _ _ fun e => h0 (List.cons.inj e).2
        · exact key _ _ fun e => h0 (List.cons.inj e).2
    · simp only [wordR, e, ringV, rdV, if_true]
      by_cases h1 : c = 115
      · rw [if_pos h1, if_pos h1]
        exact okI_yes (by rw [ring_text, h1, hn.1]; rfl)
      · rw [if_neg h1, if_neg h1]
        by_cases h2 : c = 116
        · rw [if_pos h2, if_pos h2]
          exact okI_yes (by rw [ring_text, h2, hn.1]; rfl)
        · rw [if_neg h2, if_neg h2, bad]
          exact key _ _ fun e => h1 (List.cons.inj e).1.symm
theorem three_text (a b c : Int) : textN (1, a, b, c, 0, 0, 0, 0, 0) = wPush ++ 32 :: threeT a b c := by
  show deedT 1 a b c 0 0 0 0 0 = _
  unfold deedT; rw [if_pos rfl]; rfl
theorem three_text' (a b c : Int) : textN (3, 0, 0, 0, 0, 0, a, b, c) = wGrout ++ 32 :: threeT a b c := by
  show deedT 3 0 0 0 0 0 a b c = _
  unfold deedT; rw [if_neg (by decide), if_neg (by decide)]; rfl
theorem wEmpty : (rdV []).2 = false := by
  rcases readL_cases [] (-1000000000) 1000000000 with e | ⟨n, hn, e⟩
  · rw [rdV, e]
  · exact absurd hn.1.symm (itoa_ne n)

theorem read_eq (l : List UInt8) (hl : l.length ≤ 1048576) : readI l = some (readS l) := by
  unfold readI readS
  rcases h : split1 32 l with _ | ⟨a, _ | ⟨b, r⟩⟩
  · exact absurd h (split1_ne _ _)
  · obtain ⟨rfl, hn⟩ := split1_one h
    rw [cut1_none 32 l hn]
    show _ = some (okN n0)
    rw [n0_no]
    by_cases hb : l = wBuild
    · rw [if_pos hb, show l.length + 100 = (l.length + 99) + 1 from rfl]
      obtain ⟨ok, e⟩ := ringR_eq [] (by simp) (l.length + 99)
      simp only [e, Option.bind_some, ringV]
      rw [okI_no]
      rw [ring_text, hb]
      intro e; have := congrArg List.length e; simp at this
    · rw [if_neg hb, all_eq [] (by simp) _ (by simp)]
      simp only [split1, nums, wEmpty, Bool.false_eq_true, if_false, Option.bind_some, deedI]
  · obtain ⟨q, rfl, ha, hq⟩ := split1_more h
    rw [cut1_some 32 a q ha]
    have hql : q.length ≤ 1048576 := by simp at hl; omega
    by_cases hb : a = wBuild
    · simp only [hb, if_true]
      obtain ⟨ok, e⟩ := ringR_eq q hql ((wBuild ++ 32 :: q).length + 99)
      rw [show (wBuild ++ 32 :: q).length + 100 = ((wBuild ++ 32 :: q).length + 99) + 1 from rfl]
      simp only [e, Option.bind_some]
      cases r with
      | nil =>
        obtain ⟨rfl, h32⟩ := split1_one hq
        simp only [deedW, if_true]
        rw [ring_eq q h32]
      | cons c r =>
        obtain ⟨q2, hq2, _, _⟩ := split1_more hq
        have hw : deedW (wBuild :: b :: c :: r) = n0 := by
          match r with
          | [] => rfl
          | [d] => simp [deedW]
          | _ :: _ :: _ => rfl
        rw [hw, n0_no, okI_no]
        intro e
        rw [ring_text] at e
        have e2 := (List.cons.inj (List.append_cancel_left e)).2
        have hm : 32 ∈ ringT (ringV q).1 (ringV q).2 := by rw [e2, hq2]; simp
        unfold ringT at hm
        rcases List.mem_append.1 hm with hm | hm
        · split at hm <;> simp at hm
        · exact itoa_no32 _ hm
    · simp only [hb, if_false]
      rw [all_eq q hql _ (by simp; omega), hq, Option.bind_some]
      cases hn : nums (b :: r) with
      | none =>
        have hw : deedW (a :: b :: r) = n0 := by
          match r with
          | [] => simp only [deedW]; rw [if_neg hb]
          | [c] => rfl
          | [c, d] =>
            simp only [deedW]
            by_cases ho : ((rdV b).2 && (rdV c).2 && (rdV d).2) = true
            · simp only [Bool.and_eq_true] at ho
              simp [nums, ho.1.1, ho.1.2, ho.2] at hn
            · rw [if_neg ho]
          | _ :: _ :: _ :: _ => rfl
        rw [hw, n0_no]; rfl
      | some ns =>
        have hlen := nums_len hn
        match r, hlen, hn, hq with
        | [], hlen, hn, hq =>
          simp only [deedW]; rw [if_neg hb, n0_no]
          match ns, hlen with
          | [x], _ => rfl
        | [c], hlen, hn, hq =>
          show _ = some (okN n0)
          rw [n0_no]
          match ns, hlen with
          | [x, y], _ => rfl
        | c :: d :: e :: r, hlen, hn, hq =>
          show _ = some (okN n0)
          rw [n0_no]
          match ns, hlen with
          | x :: y :: z :: u :: r, _ => rfl
        | [c, d], hlen, hn, hq =>
          obtain ⟨q2, rfl, _, hq2⟩ := split1_more hq
          obtain ⟨q3, rfl, _, hq3⟩ := split1_more hq2
          obtain ⟨rfl, _⟩ := split1_one hq3
          simp only [nums] at hn
          by_cases h1 : (rdV b).2 = true
          · by_cases h2 : (rdV c).2 = true
            · by_cases h3 : (rdV q3).2 = true
              · simp only [h1, h2, h3, if_true, Option.map_some, Option.some.injEq] at hn
                subst hn
                have ht : b ++ 32 :: (c ++ 32 :: q3) = threeT (rdV b).1 (rdV c).1 (rdV q3).1 := by
                  unfold threeT
                  rw [← reads_itoa h1, ← reads_itoa h2, ← reads_itoa h3]; simp
                simp only [deedW, h1, h2, h3, Bool.and_self, if_true, deedI]
                by_cases hp : a = wPush
                · rw [if_pos hp, if_neg (by rw [hp]; decide)]
                  rw [okI_yes (by rw [three_text, ht, hp])]
                · rw [if_neg hp]
                  by_cases hg : a = wGrout
                  · rw [if_pos hg, if_pos hg]
                    rw [okI_yes (by rw [three_text', ht, hg])]
                  · rw [if_neg hg, if_neg hg, n0_no, okI_no]
                    rw [three_text]
                    intro e
                    have := congrArg (fun z => (cut1 32 z).1) e
                    simp only [cut1_some 32 a _ ha, cut1_some 32 wPush _ (by decide)] at this
                    exact hp this.symm
              · simp [h1, h2, h3] at hn
            · simp [h1, h2] at hn
          · simp [h1] at hn
end Go.Proofs.YtkbklocfdoofeaaDoor.PuR

/- strings.Builder at this translation. -/
namespace Go.Proofs
open Go.Shelf
def Tryd.lays166_ren : Go.Shelf.Ren := ⟨fun | 166 => 52 | 240 => 86 | 276 => 100 | n => n, fun | 0 => 0 | 3 => 3 | 4 => 4 | 5 => 5 | 9 => 9 | 20 => 20 | 37 => 82 | 70 => 81 | 72 => 84 | 164 => 134 | 75 => 87 | 80 => 90 | n => n, fun | n => n⟩
end Go.Proofs

namespace Go.Proofs.YtkbklocfdoofeaaDoor.Hb
open Go.RowKit Go.Proofs.YtkbklocfdoofeaaDoorW.PrintWords Go.Proofs.YtkbklocfdoofeaaDoorW.PrintLast Go.Proofs.YtkbklocfdoofeaaDoorW.PrintMore Go.Proofs.YtkbklocfdoofeaaDoor.Q Go.Proofs.YtkbklocfdoofeaaDoor.Ha

/-- a sight is as the survey's rules ask. -/
def sightB (pts : Int) (s : S71) : Bool :=
  inB 0 (wrap64 (pts - 1)) s.f0 && inB 0 (wrap64 (pts - 1)) s.f1 && !(s.f0 == s.f1) && inB (-100) 100 s.f2 && inB 1 3 s.f3

def surveyB (pts : Int) (l : List S71) : Bool := inB 2 5 pts && decide ((l.length : Int) ≤ 8) && l.all (sightB pts)

end Go.Proofs.YtkbklocfdoofeaaDoor.Hb

/- spec_l11Deed at whatever address (made out of the printed contract). -/
namespace Go.Proofs.YtkbklocfdoofeaaDoor.Q
open Go.RowKit Go.Proofs.YtkbklocfdoofeaaDoorW.PrintWords Go.Proofs.YtkbklocfdoofeaaDoorW.PrintLast Go.Proofs.YtkbklocfdoofeaaDoorW.PrintMore
attribute [local go_sem] max2_int min2_int max_two min_two max_three min_three max_four min_four
attribute [local go_sem high] eqA39
set_option linter.unusedVariables false
set_option linter.unusedSimpArgs false
/-- Values that stand one behind the other from an address on. -/
def BlkA (W : World) (g : Addr) (us : List Value) : Prop := g.block < W.heap.size ∧ ∀ j u, us[j]? = some u → W.cell? (g.add j) = some u
theorem BlkA.below {W W1 : World} {g : Addr} {us : List Value} (h : BlkA W g us) (hb : Below W.heap.size W W1) : BlkA W1 g us :=
  ⟨Nat.lt_of_lt_of_le h.1 hb.size, fun j u hu => by rw [hb.cell (p := g.add j) (by rw [add_block]; exact h.1)]; exact h.2 j u hu⟩
theorem BlkA.alloc {W : World} {g : Addr} {us : List Value} (h : BlkA W g us) (o : Obj) : BlkA (W.alloc o) g us := h.below (below_alloc (Below.refl _ _) o)
def IsA41 (w0 W : World) (g : Addr) (f0 : Int) (f1 : Int) (f2 : Int) (f3 : Int) (f4 : Int) (f5 : Int) (f6 : Int) (f7 : Int) (f8 : Int) : Prop := BlkA W g [.int .i64 f0, .int .i64 f1, .int .i64 f2, .int .i64 f3, .int .i64 f4, .int .i64 f5, .int .i64 f6, .int .i64 f7, .int .i64 f8] ∧ w0.heap.size ≤ W.heap.size
theorem IsA41.below {w0 W : World} {g : Addr} {f0 : Int} {f1 : Int} {f2 : Int} {f3 : Int} {f4 : Int} {f5 : Int} {f6 : Int} {f7 : Int} {f8 : Int} {W1 : World} (h : IsA41 w0 W g f0 f1 f2 f3 f4 f5 f6 f7 f8) (hw : Below W.heap.size W W1) : IsA41 w0 W1 g f0 f1 f2 f3 f4 f5 f6 f7 f8 := ⟨h.1.below hw, Nat.le_trans h.2 hw.size⟩
theorem IsA41.alloc {w0 W : World} {g : Addr} {f0 : Int} {f1 : Int} {f2 : Int} {f3 : Int} {f4 : Int} {f5 : Int} {f6 : Int} {f7 : Int} {f8 : Int} (h : IsA41 w0 W g f0 f1 f2 f3 f4 f5 f6 f7 f8) (o : Obj) : IsA41 w0 (W.alloc o) g f0 f1 f2 f3 f4 f5 f6 f7 f8 := h.below (below_alloc (Below.refl _ _) o)
theorem IsA41.drewN {w0 W : World} {g : Addr} {f0 : Int} {f1 : Int} {f2 : Int} {f3 : Int} {f4 : Int} {f5 : Int} {f6 : Int} {f7 : Int} {f8 : Int} (h : IsA41 w0 W g f0 f1 f2 f3 f4 f5 f6 f7 f8) (m : Nat) : IsA41 w0 (W.drewN m) g f0 f1 f2 f3 f4 f5 f6 f7 f8 := h
theorem IsA41.drew {w0 W : World} {g : Addr} {f0 : Int} {f1 : Int} {f2 : Int} {f3 : Int} {f4 : Int} {f5 : Int} {f6 : Int} {f7 : Int} {f8 : Int} (h : IsA41 w0 W g f0 f1 f2 f3 f4 f5 f6 f7 f8) : IsA41 w0 W.drew g f0 f1 f2 f3 f4 f5 f6 f7 f8 := h
theorem IsA41.at_ {w0 W : World} {g : Addr} {f0 : Int} {f1 : Int} {f2 : Int} {f3 : Int} {f4 : Int} {f5 : Int} {f6 : Int} {f7 : Int} {f8 : Int} {w' : World} {m : Nat} (hq : W.drewN m = w') (h : IsA41 w0 W g f0 f1 f2 f3 f4 f5 f6 f7 f8) : IsA41 w0 w' g f0 f1 f2 f3 f4 f5 f6 f7 f8 := by subst hq; exact h
end Go.Proofs.YtkbklocfdoofeaaDoor.Q

/- spec_l11Text at whatever address (made out of the printed contract). -/
namespace Go.Proofs.YtkbklocfdoofeaaDoor.Q
open Go.RowKit Go.Proofs.YtkbklocfdoofeaaDoorW.PrintWords Go.Proofs.YtkbklocfdoofeaaDoorW.PrintLast Go.Proofs.YtkbklocfdoofeaaDoorW.PrintMore
attribute [local go_sem] max2_int min2_int max_two min_two max_three min_three max_four min_four
set_option linter.unusedVariables false
set_option linter.unusedSimpArgs false
end Go.Proofs.YtkbklocfdoofeaaDoor.Q

/- The reference's l11Deeds: whether all deeds are valid, each looked at where it lies. -/
namespace Go.Proofs.YtkbklocfdoofeaaDoor.Hk
open Go.RowKit Go.Proofs.YtkbklocfdoofeaaDoorW.PrintWords Go.Proofs.YtkbklocfdoofeaaDoorW.PrintLast Go.Proofs.YtkbklocfdoofeaaDoorW.PrintMore Go.Proofs.YtkbklocfdoofeaaDoor.Q Go.Proofs.YtkbklocfdoofeaaDoor.Ha Go.Proofs.YtkbklocfdoofeaaDoor.PuVD Go.Proofs.YtkbklocfdoofeaaDoor.PuDT

abbrev Dd := S41
def deedS (x : Dd) : Bool := deedB x.f0 x.f1 x.f2 x.f3 x.f4.f0 x.f4.f1 x.f5 x.f6 x.f7
def cellsD (x : Dd) : List Value := [.int .i64 x.f0, .int .i64 x.f1, .int .i64 x.f2, .int .i64 x.f3, .int .i64 x.f4.f0, .int .i64 x.f4.f1, .int .i64 x.f5, .int .i64 x.f6, .int .i64 x.f7]

end Go.Proofs.YtkbklocfdoofeaaDoor.Hk

/- areDeeds: whether deeds are few and all valid. -/
namespace Go.Proofs.YtkbklocfdoofeaaDoor.Hm
open Go.RowKit Go.Proofs.YtkbklocfdoofeaaDoorW.PrintWords Go.Proofs.YtkbklocfdoofeaaDoorW.PrintLast Go.Proofs.YtkbklocfdoofeaaDoorW.PrintMore Go.Proofs.YtkbklocfdoofeaaDoor.Q Go.Proofs.YtkbklocfdoofeaaDoor.Ha Go.Proofs.YtkbklocfdoofeaaDoor.PuVD Go.Proofs.YtkbklocfdoofeaaDoor.PuDT Go.Proofs.YtkbklocfdoofeaaDoor.Hk

def idxD (p : Dd → Bool) : List Dd → Int → Int
  | [], _ => -1
  | x :: xs, k => if p x then k else idxD p xs (k + 1)
theorem idxD_neg (p : Dd → Bool) (l : List Dd) (k : Int) (hk : 0 ≤ k) : decide (idxD p l k ≥ 0) = l.any p := by
  induction l generalizing k with
  | nil => simp [idxD]
  | cons x xs ih =>
    by_cases h : p x = true
    · simp [idxD, h, hk]
    · simp only [idxD, h]; simp [ih (k + 1) (by omega), h]

theorem lit_any (x : Dd) (w : World) :
    Calls Tryd.prog 85 #[.agg #[.int .i64 x.f0, .int .i64 x.f1, .int .i64 x.f2, .int .i64 x.f3, .int .i64 x.f4.f0, .int .i64 x.f4.f1, .int .i64 x.f5, .int .i64 x.f6, .int .i64 x.f7]] w fun e w' => e = .returned (.bool (!deedS x)) ∧ Below w.heap.size w w' := by
  have hu := Tryd.underlying41
  have HV := Aside0.mk (impl_eq x.f0 x.f1 x.f2 x.f3 x.f4.f0 x.f4.f1 x.f5 x.f6 x.f7)
  go_enter Tryd.func85, Tryd.ntmps85
  go_wp2_with (go_at_call 46; refine (impl_ValidDeed.calls _ _ _ _ _ _ _ _ _ _ _ HV.out).mono ?_; rintro e w' ⟨rfl, hb1⟩)
  go_ret
  exact ⟨rfl, below_step (below_alloc (Below.refl _ _) _) hb1⟩

set_option maxRecDepth 100000 in
theorem idx_any (A : Option Addr) (c : Nat) (l : List Dd) (w : World) (hr : Kd.C k41 w A l.length l) :
    Calls Tryd.prog 99 #[.slice A l.length c, .func (.func 85) #[] #[]] w fun e w' => e = .returned (.int .i64 (idxD (fun x => !deedS x) l 0)) ∧ Below w.heap.size w w' := by
  have hlen : l.length ≤ 9223372036854775807 := hr.2.1
  have hu := Tryd.underlying41
  have HR := Aside0.mk hr
  clear hr
  go_enter Tryd.func99, Tryd.ntmps99
  go_wp2
  go_loopw [8, 5] (fun i _ wr => ∃ k : Nat, k ≤ l.length ∧ i = .int .i64 k ∧ Aside0 (idxD (fun x => !deedS x) l 0 = idxD (fun x => !deedS x) (l.drop k) k) ∧ Aside0 (Below w.heap.size w wr)) (fun i _ _ => l.length - (intOf i).toNat)
  case atStart => exact ⟨0, by omega, rfl, ⟨by simp⟩, ⟨Below.refl _ _⟩⟩
  case round =>
    rename_i wr _
    obtain ⟨k, hk, rfl, HI, hbw⟩ := hrel
    by_cases hlt : k < l.length
    · obtain ⟨ad, rfl, hx0, hx1, hx2, hx3, hx4, hx5, hx6, hx7, hx8⟩ := at_T41 (Kd.C_below HR.out hbw.out) (k : Int) (by omega) (by omega)
      simp only [Int.toNat_natCast] at hx0 hx1 hx2 hx3 hx4 hx5 hx6 hx7 hx8
      have hd : l.drop k = rd_T41 l k :: l.drop (k + 1) := by rw [List.drop_eq_getElem_cons hlt]; simp [rd_T41, hlt]
      have HD := Lib.hid hd
      clear hd
      by_cases hin : deedS (rd_T41 l k) = true
      · have HA := Aside0.mk (show idxD (fun x => !deedS x) l 0 = idxD (fun x => !deedS x) (l.drop (k + 1)) ((k + 1 : Nat) : Int) by rw [HI.out, HD.out]; simp [idxD, hin])
        have hq : (!deedS (rd_T41 l k)) = false := by simp [hin]
        clear hin
        go_wp2_with (go_at_call 85; refine (lit_any (rd_T41 l k) _).mono ?_; rintro e w' ⟨rfl, hb1⟩)
        go_roundw
        case rel => exact ⟨k + 1, by omega, by go_num, HA, ⟨below_step hbw.out hb1⟩⟩
        case measure => simp [intOf]; omega
      · have HA := Aside0.mk (show idxD (fun x => !deedS x) l 0 = k by rw [HI.out, HD.out]; simp [idxD, hin])
        have hq : (!deedS (rd_T41 l k)) = true := by simp [hin]
        clear hin
        go_wp2_with (go_at_call 85; refine (lit_any (rd_T41 l k) _).mono ?_; rintro e w' ⟨rfl, hb1⟩)
        go_ret
        exact ⟨ret_int HA.out.symm, below_step hbw.out hb1⟩
    · obtain rfl : k = l.length := by omega
      have HF := Aside0.mk (show idxD (fun x => !deedS x) l 0 = -1 by rw [HI.out, List.drop_length]; rfl)
      go_wp2
      go_ret
      exact ⟨ret_int (by rw [HF.out]), hbw.out⟩

theorem contains_any (A : Option Addr) (c : Nat) (l : List Dd) (w : World) (hr : Kd.C k41 w A l.length l) :
    Calls Tryd.prog 84 #[.slice A l.length c, .func (.func 85) #[] #[]] w fun e w' => e = .returned (.bool (l.any fun x => !deedS x)) ∧ Below w.heap.size w w' := by
  have HR := Lib.hid (idxD_neg (fun x => !deedS x) l 0 (by omega))
  go_enter Tryd.func84, Tryd.ntmps84
  go_wp2_with (go_at_call 99; refine (idx_any _ _ _ _ hr).mono ?_; rintro e w' ⟨rfl, hb1⟩)
  go_ret
  exact ⟨ret_bool HR.out, hb1⟩

def deedsB (l : List Dd) : Bool := decide ((l.length : Int) ≤ 60) && l.all deedS
end Go.Proofs.YtkbklocfdoofeaaDoor.Hm

/- The reference's l11Journal: the journal of valid deeds. -/
namespace Go.Proofs.YtkbklocfdoofeaaDoor.Hl
open Go.RowKit Go.Proofs.YtkbklocfdoofeaaDoorW.PrintWords Go.Proofs.YtkbklocfdoofeaaDoorW.PrintLast Go.Proofs.YtkbklocfdoofeaaDoorW.PrintMore Go.Proofs.YtkbklocfdoofeaaDoor.Q Go.Proofs.YtkbklocfdoofeaaDoor.Ha Go.Proofs.YtkbklocfdoofeaaDoor.PuVD Go.Proofs.YtkbklocfdoofeaaDoor.PuDT Go.Proofs.YtkbklocfdoofeaaDoor.PuD Go.Proofs.YtkbklocfdoofeaaDoor.Hk

/-- The check number of a text. -/
def chk (n : Int) (t : List UInt8) : Int := t.foldl (fun n b => (257 * n + (b.toNat : Int) + 1) % 99991) n
theorem chk_in (n : Int) (t : List UInt8) (h : 0 ≤ n ∧ n < 99991) : 0 ≤ chk n t ∧ chk n t < 99991 := by
  induction t generalizing n with
  | nil => exact h
  | cons b t ih =>
    refine ih _ ⟨?_, ?_⟩
    · exact Int.emod_nonneg _ (by decide)
    · exact Int.emod_lt_of_pos _ (by decide)

theorem check_loop (t : List UInt8) (ht : t.length ≤ 1000000) : ∀ (d k i : Nat) (n : Int), i + d = t.length → d < k → 0 ≤ n → n < 99991 → spec_l01Check.l0 k (txt t) n i = some (chk n (t.drop i)) := by
  intro d
  induction d with
  | zero =>
    intro k i n hi hk h0 h1
    obtain ⟨k, rfl⟩ : ∃ m, k = m + 1 := ⟨k - 1, by omega⟩
    simp only [spec_l01Check.l0, txt_size]
    rw [if_neg (by omega), List.drop_eq_nil_of_le (by omega)]; rfl
  | succ d ih =>
    intro k i n hi hk h0 h1
    obtain ⟨k, rfl⟩ : ∃ m, k = m + 1 := ⟨k - 1, by omega⟩
    have hlt : i < t.length := by omega
    have hb : bt (txt t) (i : Int) = (t[i].toNat : Int) := by
      have h1 : (i : Int).toNat < (txt t).size := by rw [txt_size]; omega
      unfold bt
      rw [dif_pos h1]
      rfl
    have hb2 := t[i].toNat_lt
    simp only [spec_l01Check.l0, txt_size]
    rw [if_pos (by omega), if_pos (by omega), hb]
    have e : Int.tmod (wrap64 ((wrap64 ((wrap64 (257 * n)) + (wrap64 (t[i].toNat : Int)))) + 1)) 99991 = (257 * n + (t[i].toNat : Int) + 1) % 99991 := by
      rw [wrap_id (x := 257 * n) (by omega) (by omega), wrap_id (x := (t[i].toNat : Int)) (by omega) (by omega), wrap_id (x := 257 * n + _) (by omega) (by omega), wrap_id (by omega) (by omega)]
      exact Int.tmod_eq_emod_of_nonneg (by omega)
    rw [e, wrap_id (by omega) (by omega), show (i : Int) + 1 = ((i + 1 : Nat) : Int) by omega, ih k (i + 1) _ (by omega) (by omega) (Int.emod_nonneg _ (by decide)) (Int.emod_lt_of_pos _ (by decide))]
    rw [List.drop_eq_getElem_cons hlt]; rfl

theorem specCheck_eq (n : Int) (h0 : 0 ≤ n) (h1 : n < 99991) (t : List UInt8) (ht : t.length ≤ 1000000) (k : Nat) (hk : t.length < k) : spec_l01Check.f k n (txt t) = some (chk n t) := by
  have := check_loop t ht t.length k 0 n (by omega) hk h0 h1
  simpa [spec_l01Check.f] using this

def textS (x : Dd) : List UInt8 := deedT x.f0 x.f1 x.f2 x.f3 x.f4.f0 x.f4.f1 x.f5 x.f6 x.f7
def lineT (n : Int) (t : List UInt8) : List UInt8 := Lib.itoa n ++ [32] ++ t ++ [10]
/-- The check number behind deeds, and their journal. -/
def jn : List Dd → Int × List UInt8
  | l => l.foldl (fun s x => (chk s.1 (textS x), s.2 ++ lineT (chk s.1 (textS x)) (textS x))) (1, [])
theorem jn_snoc (l : List Dd) (x : Dd) : jn (l ++ [x]) = (chk (jn l).1 (textS x), (jn l).2 ++ lineT (chk (jn l).1 (textS x)) (textS x)) := by simp [jn, List.foldl_append]
theorem jn_in (l : List Dd) : 0 ≤ (jn l).1 ∧ (jn l).1 < 99991 := by
  rcases List.eq_nil_or_concat l with rfl | ⟨l', x, rfl⟩
  · decide
  · rw [List.concat_eq_append, jn_snoc]
    have := jn_in l'
    exact chk_in _ _ this
termination_by l.length
decreasing_by simp_all
theorem itoa_len5 (n : Int) (h0 : 0 ≤ n) (h1 : n < 99991) : (Lib.itoa n).length ≤ 20 := itoa_len n (by omega) (by omega)
theorem jn_len (l : List Dd) (h : l.all deedS = true) : (jn l).2.length ≤ 92 * l.length := by
  rcases List.eq_nil_or_concat l with rfl | ⟨l', x, rfl⟩
  · simp [jn]
  · rw [List.concat_eq_append] at h ⊢
    rw [List.all_append, Bool.and_eq_true] at h
    have h1 := jn_len l' h.1
    have h2 : deedS x = true := by simpa using h.2
    have h3 := deedT_len h2
    have h4 := chk_in (jn l').1 (textS x) (jn_in l')
    have h5 := itoa_len5 _ h4.1 h4.2
    rw [jn_snoc]
    simp only [lineT, List.length_append, List.length_singleton]
    have : (textS x).length ≤ 70 := h3
    omega
termination_by l.length
decreasing_by simp_all

end Go.Proofs.YtkbklocfdoofeaaDoor.Hl

/- The program's JournalText: a Builder is written deed by deed. -/
namespace Go.Proofs.YtkbklocfdoofeaaDoor.Hn
open Go.RowKit Go.Proofs.YtkbklocfdoofeaaDoorW.PrintWords Go.Proofs.YtkbklocfdoofeaaDoorW.PrintLast Go.Proofs.YtkbklocfdoofeaaDoorW.PrintMore Go.Proofs.YtkbklocfdoofeaaDoor.Q Go.Proofs.YtkbklocfdoofeaaDoor.Ha Go.Proofs.YtkbklocfdoofeaaDoor.PuVD Go.Proofs.YtkbklocfdoofeaaDoor.PuDT Go.Proofs.YtkbklocfdoofeaaDoor.PuD Go.Proofs.YtkbklocfdoofeaaDoor.Hk Go.Proofs.YtkbklocfdoofeaaDoor.Hl Go.Proofs.YtkbklocfdoofeaaDoor.Hm

theorem checkI_loop (t : List UInt8) (ht : t.length ≤ 1000000) : ∀ (d k i : Nat) (n : Int), i + d = t.length → d < k → 0 ≤ n → n < 99991 → impl_check.l0 k n (txt t) (t.length : Int) i = some (chk n (t.drop i)) := by
  intro d
  induction d with
  | zero =>
    intro k i n hi hk h0 h1
    obtain ⟨k, rfl⟩ : ∃ m, k = m + 1 := ⟨k - 1, by omega⟩
    simp only [impl_check.l0]
    rw [if_neg (by omega), List.drop_eq_nil_of_le (by omega)]; rfl
  | succ d ih =>
    intro k i n hi hk h0 h1
    obtain ⟨k, rfl⟩ : ∃ m, k = m + 1 := ⟨k - 1, by omega⟩
    have hlt : i < t.length := by omega
    have hb : bt (txt t) (i : Int) = (t[i].toNat : Int) := by
      have h1 : (i : Int).toNat < (txt t).size := by rw [txt_size]; omega
      unfold bt
      rw [dif_pos h1]
      rfl
    have hb2 := t[i].toNat_lt
    simp only [impl_check.l0, txt_size]
    rw [if_pos (by omega), if_pos (by omega), if_pos (by omega), hb]
    have e : Int.tmod (wrap64 ((wrap64 ((wrap64 (257 * n)) + (wrap64 (t[i].toNat : Int)))) + 1)) 99991 = (257 * n + (t[i].toNat : Int) + 1) % 99991 := by
      rw [wrap_id (x := 257 * n) (by omega) (by omega), wrap_id (x := (t[i].toNat : Int)) (by omega) (by omega), wrap_id (x := 257 * n + _) (by omega) (by omega), wrap_id (by omega) (by omega)]
      exact Int.tmod_eq_emod_of_nonneg (by omega)
    rw [e, wrap_id (by omega) (by omega), show (i : Int) + 1 = ((i + 1 : Nat) : Int) by omega, ih k (i + 1) _ (by omega) (by omega) (Int.emod_nonneg _ (by decide)) (Int.emod_lt_of_pos _ (by decide))]
    rw [List.drop_eq_getElem_cons hlt]; rfl
theorem implCheck_eq (n : Int) (h0 : 0 ≤ n) (h1 : n < 99991) (t : List UInt8) (ht : t.length ≤ 1000000) (k : Nat) (hk : t.length < k) : impl_check.f k n (txt t) = some (chk n t) := by
  have := checkI_loop t ht t.length k 0 n (by omega) hk h0 h1
  simpa [impl_check.f, txt_size] using this

theorem builder_below {T e : TypeId} {B b : Nat} {p : Value} {bs : List Value} {w w1 : World} (h : Lib.BuilderAt T e B b p bs w) (hb : Below w.heap.size w w1) : Lib.BuilderAt T e B b p bs w1 := by
  obtain ⟨h1, v, h2, h3, h4⟩ := h
  refine ⟨h1, v, ?_, own_move h3 (fun k hk => hb.block k (own_lt h3 k hk)), h4⟩
  rw [hb.block b ?_]
  · exact h2
  · rcases Nat.lt_or_ge b w.heap.size with h | h
    · exact h
    · rw [Array.getElem?_eq_none h] at h2; cases h2
/-- The builder in block b holds the bytes t, and what lay below is as it was. -/
def J (w : World) (b : Nat) (t : List UInt8) (W : World) : Prop := Below w.heap.size w W ∧ Lib.IsBuilder 84 5 w.heap.size b (Lib.byteCells t) W
theorem J.step {w : World} {b : Nat} {t : List UInt8} {W W1 : World} (h : J w b t W) (hb : Below W.heap.size W W1) : J w b t W1 :=
  ⟨below_step h.1 hb, h.2.imp (fun x => builder_below x hb) (fun x => builder_below x hb)⟩
theorem J.drew {w : World} {b : Nat} {t : List UInt8} {W : World} (h : J w b t W) : J w b t W.drew := h.step (below_drew1 (Below.refl _ _))
theorem J.drewN {w : World} {b : Nat} {t : List UInt8} {W : World} (h : J w b t W) (n : Nat) : J w b t (W.drewN n) := h.step (pw_below_drewN (Below.refl _ _) n)
theorem J.read {w : World} {b : Nat} {t : List UInt8} {W : World} (h : J w b t W) :
    Calls Tryd.prog 53 #[.pointer (some ⟨b, 0, none⟩)] W fun e W' => e = .returned (.string (txt t)) ∧ Below w.heap.size w W' := by
  refine (Tryd.Builder_String_any w.heap.size b t W h.2 h.1.size).mono ?_
  rintro e W' ⟨he, hb⟩
  exact ⟨he, h.1.trans hb⟩

/-- And block g holds the deed x. -/
def JB (w : World) (b : Nat) (t : List UInt8) (g : Nat) (x : Dd) (W : World) : Prop := J w b t W ∧ W.heap[g]? = some (.cells (cellsD x).toArray 41 (0, 0))
theorem JB.step {w : World} {b : Nat} {t : List UInt8} {g : Nat} {x : Dd} {W W1 : World} (h : JB w b t g x W) (hb : Below W.heap.size W W1) : JB w b t g x W1 := ⟨h.1.step hb, blk_below h.2 hb⟩
theorem JB.drewN {w : World} {b : Nat} {t : List UInt8} {g : Nat} {x : Dd} {W : World} (h : JB w b t g x W) (n : Nat) : JB w b t g x (W.drewN n) := h.step (pw_below_drewN (Below.refl _ _) n)
theorem JB.cells {w : World} {b : Nat} {t : List UInt8} {g : Nat} {x : Dd} {W : World} (h : JB w b t g x W) : W.cell? ⟨g, 0, none⟩ = some (.int .i64 x.f0) ∧ W.cell? ⟨g, 1, none⟩ = some (.int .i64 x.f1) ∧ W.cell? ⟨g, 2, none⟩ = some (.int .i64 x.f2) ∧ W.cell? ⟨g, 3, none⟩ = some (.int .i64 x.f3) ∧ W.cell? ⟨g, 4, none⟩ = some (.int .i64 x.f4.f0) ∧ W.cell? ⟨g, 5, none⟩ = some (.int .i64 x.f4.f1) ∧ W.cell? ⟨g, 6, none⟩ = some (.int .i64 x.f5) ∧ W.cell? ⟨g, 7, none⟩ = some (.int .i64 x.f6) ∧ W.cell? ⟨g, 8, none⟩ = some (.int .i64 x.f7) :=
  ⟨(blk_cell h.2 0).trans rfl, (blk_cell h.2 1).trans rfl, (blk_cell h.2 2).trans rfl, (blk_cell h.2 3).trans rfl, (blk_cell h.2 4).trans rfl, (blk_cell h.2 5).trans rfl, (blk_cell h.2 6).trans rfl, (blk_cell h.2 7).trans rfl, (blk_cell h.2 8).trans rfl⟩

end Go.Proofs.YtkbklocfdoofeaaDoor.Hn

/- What the two recoveries of a journal compute. -/
namespace Go.Proofs.YtkbklocfdoofeaaDoor.PuRc
open Go.Proofs.YtkbklocfdoofeaaDoor.PuD
open Go.RowKit Go.Proofs.YtkbklocfdoofeaaDoorW.PrintWords Go.Proofs.YtkbklocfdoofeaaDoorW.PrintLast Go.Proofs.YtkbklocfdoofeaaDoorW.PrintMore Go.Proofs.YtkbklocfdoofeaaDoor.Q Go.Proofs.YtkbklocfdoofeaaDoor.Sp Go.Proofs.YtkbklocfdoofeaaDoor.PuD Go.Proofs.YtkbklocfdoofeaaDoor.PuW Go.Proofs.YtkbklocfdoofeaaDoor.Ni Go.Proofs.YtkbklocfdoofeaaDoor.Ht Go.Proofs.YtkbklocfdoofeaaDoor.PuR
abbrev Dd := S41
def toD (x : Nine) : Dd := ⟨x.1, x.2.1, x.2.2.1, x.2.2.2.1, ⟨x.2.2.2.2.1, x.2.2.2.2.2.1⟩, x.2.2.2.2.2.2.1, x.2.2.2.2.2.2.2.1, x.2.2.2.2.2.2.2.2⟩
/-- The deeds of the greatest journal with which a text begins, and its length. -/
def recL : Nat → List UInt8 → List Dd → Int → Nat → List Dd × Nat
  | 0, _, out, _, n => (out, n)
  | f + 1, t, out, c, n =>
    if (cut1 10 t).2.2 = true ∧ (cut1 32 (cut1 10 t).1).2.2 = true ∧ (readS (cut1 32 (cut1 10 t).1).2.1).2 = true ∧ (cut1 32 (cut1 10 t).1).1 = Lib.itoa (Hl.chk c (cut1 32 (cut1 10 t).1).2.1) then
      recL f (cut1 10 t).2.1 (out ++ [toD (readS (cut1 32 (cut1 10 t).1).2.1).1]) (Hl.chk c (cut1 32 (cut1 10 t).1).2.1) (n + (cut1 10 t).1.length + 1)
    else (out, n)

theorem at_mid (q a r : List UInt8) (b : UInt8) : bt (txt (q ++ (b :: a) ++ r)) ((q.length : Nat) : Int) = (b.toNat : Int) := by
  rw [bt_txt _ _ (by simp)]; simp
theorem e10 (b : UInt8) : ((b.toNat : Int) = 10) = (b = 10) := propext ⟨fun h => u8_eq _ 10 h, fun h => by rw [h]; rfl⟩
theorem e32 (b : UInt8) : ((b.toNat : Int) = 32) = (b = 32) := propext ⟨fun h => u8_eq _ 32 h, fun h => by rw [h]; rfl⟩
theorem step_i (n : Nat) (h : n ≤ 100000) : wrap64 ((n : Int) + 1) = ((n + 1 : Nat) : Int) := by unfold wrap64; omega

theorem scanNL (out : List Dd) (c fr : Int) (ho : out.length < 60) (rest : List UInt8) : ∀ (a q : List UInt8) (k : Nat), 10 ∉ a → (q ++ a ++ 10 :: rest).length ≤ 100000 →
    spec_l11Recover.l0 (k + 2 * a.length + 2) (txt (q ++ a ++ 10 :: rest)) out c fr (q.length : Int) = spec_l11Recover.l1 k (txt (q ++ a ++ 10 :: rest)) out c fr ((q.length + a.length : Nat) : Int) fr := by
  intro a
  induction a with
  | nil =>
    intro q k ha hl
    have hb := at_mid q rest [] 10
    rw [List.append_nil] at hb
    simp only [List.append_nil, List.length_nil, Nat.add_zero, Nat.mul_zero] at hl ⊢
    have hs : (txt (q ++ 10 :: rest)).size = q.length + rest.length + 1 := by rw [txt_size]; simp; omega
    simp only [spec_l11Recover.l0, spec_l11Recover.j1, hs, hb]
    rw [if_pos (by omega), if_pos (by simp; omega), if_pos (by omega), if_pos (by omega), if_pos (by decide)]
  | cons b a ih =>
    intro q k ha hl
    have hb := at_mid q a (10 :: rest) b
    have e : q ++ (b :: a) ++ 10 :: rest = (q ++ [b]) ++ a ++ 10 :: rest := by simp
    have hs : (txt (q ++ (b :: a) ++ 10 :: rest)).size = q.length + a.length + rest.length + 2 := by rw [txt_size]; simp; omega
    have hl' := hl
    simp at hl
    obtain ⟨K, hK⟩ : ∃ K, K = k + 2 * a.length + 2 := ⟨_, rfl⟩
    rw [show k + 2 * (b :: a).length + 2 = K + 1 + 1 by simp; omega]
    simp only [spec_l11Recover.l0, spec_l11Recover.j1, hs, hb, e10]
    rw [if_pos (by omega), if_pos (by simp; omega), if_pos (by omega), if_pos (by omega), if_neg (by intro h; exact ha (by simp [h])), step_i _ (by omega)]
    have := ih (q ++ [b]) k (fun h => ha (by simp [h])) (by rw [← e]; exact hl')
    rw [e]
    rw [← hK] at this
    rw [show (q ++ [b]).length = q.length + 1 by simp] at this
    rw [this]
    congr 1
    simp; omega
theorem scanEnd (out : List Dd) (c fr : Int) (ho : out.length < 60) : ∀ (a q : List UInt8) (k : Nat), 10 ∉ a → (q ++ a).length ≤ 100000 →
    spec_l11Recover.l0 (k + 2 * a.length + 2) (txt (q ++ a)) out c fr (q.length : Int) = some (out, fr) := by
  intro a
  induction a with
  | nil =>
    intro q k ha hl
    have hs : (txt (q ++ [])).size = q.length := by rw [txt_size]; simp
    simp only [spec_l11Recover.l0, spec_l11Recover.j1, hs, List.length_nil, Nat.mul_zero, Nat.add_zero]
    rw [if_neg (by omega)]; simp
  | cons b a ih =>
    intro q k ha hl
    have hb := at_mid q a [] b
    rw [List.append_nil] at hb
    have e : q ++ (b :: a) = (q ++ [b]) ++ a := by simp
    have hs : (txt (q ++ (b :: a))).size = q.length + a.length + 1 := by rw [txt_size]; simp; omega
    have hl' := hl
    simp at hl
    obtain ⟨K, hK⟩ : ∃ K, K = k + 2 * a.length + 2 := ⟨_, rfl⟩
    rw [show k + 2 * (b :: a).length + 2 = K + 1 + 1 by simp; omega]
    simp only [spec_l11Recover.l0, spec_l11Recover.j1, hs, hb, e10]
    rw [if_pos (by omega), if_pos (by simp; omega), if_pos (by omega), if_pos (by omega), if_neg (by intro h; exact ha (by simp [h])), step_i _ (by omega)]
    have := ih (q ++ [b]) k (fun h => ha (by simp [h])) (by rw [← e]; exact hl')
    rw [e]
    rw [← hK] at this
    rw [show (q ++ [b]).length = q.length + 1 by simp] at this
    exact this
theorem scanSP (out : List Dd) (c fr : Int) (x7 : Nat) (rest : List UInt8) : ∀ (a q : List UInt8) (k : Nat), 32 ∉ a → (q ++ a ++ 32 :: rest).length ≤ 100000 → q.length + a.length < x7 →
    spec_l11Recover.l1 (k + a.length + 1) (txt (q ++ a ++ 32 :: rest)) out c fr (x7 : Int) (q.length : Int) = spec_l11Recover.j3 k (txt (q ++ a ++ 32 :: rest)) out c fr (x7 : Int) ((q.length + a.length : Nat) : Int) := by
  intro a
  induction a with
  | nil =>
    intro q k ha hl hx
    have hb := at_mid q rest [] 32
    rw [List.append_nil] at hb
    simp only [List.append_nil, List.length_nil, Nat.add_zero] at hl hx ⊢
    have hs : (txt (q ++ 32 :: rest)).size = q.length + rest.length + 1 := by rw [txt_size]; simp; omega
    simp only [spec_l11Recover.l1, hs, hb]
    rw [if_pos (by omega), if_pos (by omega), if_pos (by omega), if_pos (by decide)]
  | cons b a ih =>
    intro q k ha hl hx
    have hb := at_mid q a (32 :: rest) b
    have e : q ++ (b :: a) ++ 32 :: rest = (q ++ [b]) ++ a ++ 32 :: rest := by simp
    have hs : (txt (q ++ (b :: a) ++ 32 :: rest)).size = q.length + a.length + rest.length + 2 := by rw [txt_size]; simp; omega
    have hl' := hl
    simp at hl hx
    obtain ⟨K, hK⟩ : ∃ K, K = k + a.length + 1 := ⟨_, rfl⟩
    rw [show k + (b :: a).length + 1 = K + 1 by simp; omega]
    simp only [spec_l11Recover.l1, hs, hb, e32]
    rw [if_pos (by omega), if_pos (by omega), if_pos (by omega), if_neg (by intro h; exact ha (by simp [h])), step_i _ (by omega)]
    have := ih (q ++ [b]) k (fun h => ha (by simp [h])) (by rw [← e]; exact hl') (by simp; omega)
    rw [e]
    rw [← hK] at this
    rw [show (q ++ [b]).length = q.length + 1 by simp] at this
    rw [this]
    congr 1
    simp; omega
theorem scanNo (out : List Dd) (c fr : Int) (rest : List UInt8) : ∀ (a q : List UInt8) (k : Nat), 32 ∉ a → (q ++ a ++ rest).length ≤ 100000 →
    spec_l11Recover.l1 (k + a.length + 1) (txt (q ++ a ++ rest)) out c fr ((q.length + a.length : Nat) : Int) (q.length : Int) = spec_l11Recover.j3 k (txt (q ++ a ++ rest)) out c fr ((q.length + a.length : Nat) : Int) ((q.length + a.length : Nat) : Int) := by
  intro a
  induction a with
  | nil =>
    intro q k ha hl
    simp only [List.length_nil, Nat.add_zero, spec_l11Recover.l1]
    rw [if_neg (by omega)]
  | cons b a ih =>
    intro q k ha hl
    have hb := at_mid q a rest b
    have e : q ++ (b :: a) ++ rest = (q ++ [b]) ++ a ++ rest := by simp
    have hs : (txt (q ++ (b :: a) ++ rest)).size = q.length + a.length + rest.length + 1 := by rw [txt_size]; simp; omega
    have hl' := hl
    simp at hl
    obtain ⟨K, hK⟩ : ∃ K, K = k + a.length + 1 := ⟨_, rfl⟩
    rw [show k + (b :: a).length + 1 = K + 1 by simp; omega]
    simp only [spec_l11Recover.l1, hs, hb, e32]
    rw [if_pos (by simp; omega), if_pos (by omega), if_pos (by omega), if_neg (by intro h; exact ha (by simp [h])), step_i _ (by omega)]
    have := ih (q ++ [b]) k (fun h => ha (by simp [h])) (by rw [← e]; exact hl')
    rw [e]
    rw [← hK] at this
    rw [show (q ++ [b]).length = q.length + 1 by simp, show q.length + 1 + a.length = q.length + (b :: a).length by simp; omega] at this
    exact this
theorem readS_eq (l : List UInt8) (hl : l.length ≤ 100000) : spec_l11Read.f (txt l) = some (flat (readS l)) := by
  unfold spec_l11Read.f
  rw [if_pos (by rw [txt_size]; omega)]; rfl
theorem ex_eq (p a r : List UInt8) (x y : Int) (hx : x = (p.length : Int)) (hy : y = ((p.length + a.length : Nat) : Int)) : (txt (p ++ a ++ r)).extract x.toNat y.toNat = txt a := by
  subst hx hy
  rw [extract_txt]
  congr 1
  simp only [Int.toNat_natCast]
  rw [← List.length_append, List.take_left, List.drop_left]
theorem j3_eq (T text num : List UInt8) (out : List Dd) (c : Int) (fr x8 x7 k : Nat) (hT : T.length ≤ 100000) (h7 : x7 ≤ T.length) (h8 : x8 < x7) (hf : fr ≤ x8) (ho : out.length < 60) (h0 : 0 ≤ c) (h1 : c < 99991) (ht : text.length ≤ 100000) (hk : text.length + 100 ≤ k)
    (e3 : (txt T).extract (((x8 + 1 : Nat) : Int)).toNat ((x7 : Int)).toNat = txt text) (e4 : (txt T).extract ((fr : Int)).toNat ((x8 : Int)).toNat = txt num) :
    spec_l11Recover.j3 (k + 1) (txt T) out c (fr : Int) (x7 : Int) (x8 : Int) = if (readS text).2 = true ∧ num = Lib.itoa (Hl.chk c text) then spec_l11Recover.l0 k (txt T) (out ++ [toD (readS text).1]) (Hl.chk c text) ((x7 + 1 : Nat) : Int) ((x7 + 1 : Nat) : Int) else some (out, (fr : Int)) := by
  have w1 : wrap64 ((x8 : Int) + 1) = ((x8 + 1 : Nat) : Int) := step_i _ (by omega)
  have w2 : wrap64 ((x7 : Int) + 1) = ((x7 + 1 : Nat) : Int) := step_i _ (by omega)
  have hs : (txt T).size = T.length := txt_size T
  have hr := readS_eq text ht
  have hc := Hl.chk_in c text ⟨h0, h1⟩
  have hk2 := Hl.specCheck_eq c h0 h1 text (by omega) k (by omega)
  have hd := l01Dec_any (Hl.chk c text) (by omega) (by omega) k (by omega)
  have p1 : ¬ (x8 : Int) = (x7 : Int) := by omega
  have p2 : (0 : Int) ≤ ((x8 + 1 : Nat) : Int) := by omega
  have p3 : ((x8 + 1 : Nat) : Int) ≤ (x7 : Int) := by omega
  have p4 : (x7 : Int) ≤ (T.length : Int) := by omega
  have p5 : (0 : Int) ≤ (fr : Int) := by omega
  have p6 : (fr : Int) ≤ (x8 : Int) := by omega
  have p7 : (x8 : Int) ≤ (T.length : Int) := by omega
  have p8 : out.length < 1954687338268 := by omega
  have ht : ((txt num).toList = (txt (Lib.itoa (Hl.chk c text))).toList) = (num = Lib.itoa (Hl.chk c text)) := by rw [ByteArray.toList_eq, ByteArray.toList_eq]; simp [txt]
  clear h0 h1 hc hk hT h7 h8 hf ho
  simp only [spec_l11Recover.j3, w1, w2, hs]
  rw [if_neg p1, if_pos p2, if_pos p3, if_pos p4, e3, hr, Option.bind_some]
  generalize readS text = y
  obtain ⟨x, b⟩ := y
  cases b with
  | false => simp [flat]
  | true =>
    simp only [flat, if_true]
    rw [hk2, Option.bind_some, if_pos p5, if_pos p6, if_pos p7, hd, Option.bind_some, e4]
    by_cases hq : num = Lib.itoa (Hl.chk c text)
    · rw [if_pos (by rw [ht]; exact hq), if_pos p8, if_pos ⟨trivial, hq⟩]; rfl
    · rw [if_neg (by rw [ht]; exact hq), if_neg (fun z => hq z.2)]
theorem spec_rec : ∀ (d : Nat) (p s : List UInt8) (k : Nat) (out : List Dd) (c : Int), (p ++ s).length ≤ 100000 → out.length + d = 60 → 0 ≤ c → c < 99991 → 4 * s.length + 4 * d + 100 ≤ k →
    spec_l11Recover.l0 k (txt (p ++ s)) out c (p.length : Int) (p.length : Int) = some ((recL d s out c p.length).1, ((recL d s out c p.length).2 : Int)) := by
  intro d
  induction d with
  | zero =>
    intro p s k out c hl ho h0 h1 hk
    obtain ⟨k, rfl⟩ : ∃ m, k = m + 1 + 1 := ⟨k - 2, by omega⟩
    have hd : decide ((out.length : Int) < 60) = false := decide_eq_false (by omega)
    simp only [spec_l11Recover.l0, spec_l11Recover.j1, hd, Bool.false_eq_true, if_false, ite_self, recL]
  | succ d ih =>
    intro p s k out c hl ho h0 h1 hk
    simp only [recL]
    by_cases h10 : 10 ∈ s
    · obtain ⟨line, rest, rfl, hn⟩ := first_at 10 s h10
      rw [cut1_some 10 line rest hn]
      simp only [true_and]
      obtain ⟨k1, rfl⟩ : ∃ m, k = m + 2 * line.length + 2 := ⟨k - (2 * line.length + 2), by simp at hk; omega⟩
      have e1 : p ++ (line ++ 10 :: rest) = p ++ line ++ 10 :: rest := by simp
      have s1 := scanNL out c p.length (by omega) rest line p k1 hn (by rw [← e1]; exact hl)
      rw [e1, s1]
      simp at hl hk
      by_cases h32 : 32 ∈ line
      · obtain ⟨num, text, rfl, hm⟩ := first_at 32 line h32
        rw [cut1_some 32 num text hm]
        simp only [true_and]
        simp at hl hk
        obtain ⟨k2, rfl⟩ : ∃ m, k1 = (m + 1) + num.length + 1 := ⟨k1 - (num.length + 2), by omega⟩
        have e2 : p ++ (num ++ 32 :: text) ++ 10 :: rest = p ++ num ++ 32 :: (text ++ 10 :: rest) := by simp
        have s2 := scanSP out c p.length (p.length + (num ++ 32 :: text).length) (text ++ 10 :: rest) num p (k2 + 1) hm (by simp; omega) (by simp)
        rw [e2, s2]
        have x7 : p.length + (num ++ 32 :: text).length = p.length + num.length + 1 + text.length := by simp; omega
        have hTl : (p ++ num ++ 32 :: (text ++ 10 :: rest)).length = p.length + num.length + 1 + text.length + 1 + rest.length := by simp; omega
        have e3 : (txt (p ++ num ++ 32 :: (text ++ 10 :: rest))).extract (((p.length + num.length + 1 : Nat) : Int)).toNat (((p.length + num.length + 1 + text.length : Nat) : Int)).toNat = txt text := by
          have := ex_eq (p ++ num ++ [32]) text (10 :: rest) ((p.length + num.length + 1 : Nat) : Int) ((p.length + num.length + 1 + text.length : Nat) : Int) (by simp; omega) (by simp; omega)
          rw [show p ++ num ++ [32] ++ text ++ 10 :: rest = p ++ num ++ 32 :: (text ++ 10 :: rest) by simp] at this
          exact this
        have e4 : (txt (p ++ num ++ 32 :: (text ++ 10 :: rest))).extract ((p.length : Int)).toNat (((p.length + num.length : Nat) : Int)).toNat = txt num := ex_eq p num _ _ _ rfl rfl
        rw [x7, j3_eq _ text num out c p.length (p.length + num.length) (p.length + num.length + 1 + text.length) k2 (by omega) (by omega) (by omega) (by omega) (by omega) h0 h1 (by omega) (by omega) e3 e4]
        have hc := Hl.chk_in c text ⟨h0, h1⟩
        have := ih (p ++ (num ++ 32 :: text) ++ [10]) rest k2 (out ++ [toD (readS text).1]) (Hl.chk c text) (by simp; omega) (by simp; omega) hc.1 hc.2 (by omega)
        have hL : (p ++ (num ++ 32 :: text) ++ [(10 : UInt8)]).length = p.length + num.length + 1 + text.length + 1 := by simp; omega
        have hA : p ++ (num ++ 32 :: text) ++ [(10 : UInt8)] ++ rest = p ++ num ++ 32 :: (text ++ 10 :: rest) := by simp
        rw [hL, hA] at this
        by_cases hq : (readS text).2 = true ∧ num = Lib.itoa (Hl.chk c text)
        · rw [if_pos hq, if_pos hq]; exact this
        · rw [if_neg hq, if_neg hq]
      · rw [cut1_none 32 line h32]
        simp only [Bool.false_eq_true, false_and, if_false]
        obtain ⟨k2, rfl⟩ : ∃ m, k1 = (m + 1) + line.length + 1 := ⟨k1 - (line.length + 2), by omega⟩
        have s2 := scanNo out c p.length (10 :: rest) line p (k2 + 1) h32 (by simp; omega)
        rw [s2]
        simp only [spec_l11Recover.j3, if_true]
    · rw [cut1_none 10 s h10]
      simp only [Bool.false_eq_true, false_and, if_false]
      obtain ⟨k1, rfl⟩ : ∃ m, k = m + 2 * s.length + 2 := ⟨k - (2 * s.length + 2), by omega⟩
      exact scanEnd out c p.length (by omega) s p k1 h10 hl
theorem spec_recover (l : List UInt8) (hl : l.length ≤ 4000) : spec_l11Recover.f 20000 (txt l) = some ((recL 60 l [] 1 0).1, ((recL 60 l [] 1 0).2 : Int)) := by
  have := spec_rec 60 [] l 20000 [] 1 (by simp; omega) rfl (by decide) (by decide) (by omega)
  simpa [spec_l11Recover.f] using this
end Go.Proofs.YtkbklocfdoofeaaDoor.PuRc

/- What the program's recovery of a journal computes. -/
namespace Go.Proofs.YtkbklocfdoofeaaDoor.PuRi
open Go.Proofs.YtkbklocfdoofeaaDoor.PuD
open Go.RowKit Go.Proofs.YtkbklocfdoofeaaDoorW.PrintWords Go.Proofs.YtkbklocfdoofeaaDoorW.PrintLast Go.Proofs.YtkbklocfdoofeaaDoorW.PrintMore Go.Proofs.YtkbklocfdoofeaaDoor.Q Go.Proofs.YtkbklocfdoofeaaDoor.Sp Go.Proofs.YtkbklocfdoofeaaDoor.PuD Go.Proofs.YtkbklocfdoofeaaDoor.PuW Go.Proofs.YtkbklocfdoofeaaDoor.Ni Go.Proofs.YtkbklocfdoofeaaDoor.Ht Go.Proofs.YtkbklocfdoofeaaDoor.PuR Go.Proofs.YtkbklocfdoofeaaDoor.PuRc
theorem cut1_len (c : UInt8) (l : List UInt8) : (cut1 c l).1.length ≤ l.length ∧ (cut1 c l).2.1.length ≤ l.length := by
  induction l with
  | nil => simp [cut1]
  | cons b l ih =>
    simp only [cut1]
    split
    · simp
    · simp; omega
theorem cutB_eq (c : UInt8) (l : List UInt8) (hl : l.length ≤ 100000) : strings_Cut.f (txt l) (⟨#[c]⟩ : ByteArray) = some (txt (cut1 c l).1, txt (cut1 c l).2.1, (cut1 c l).2.2) := by
  show (if (txt l).size < 4294967281 then some (tx (cut1 c (txt l).data.toList).1, tx (cut1 c (txt l).data.toList).2.1, (cut1 c (txt l).data.toList).2.2) else none) = _
  rw [if_pos (by rw [txt_size]; omega)]; rfl
theorem readB_eq (l : List UInt8) (hl : l.length ≤ 100000) : impl_readDeed.f (txt l) = some (flat (readS l)) := by
  unfold impl_readDeed.f
  rw [if_pos (by rw [txt_size]; omega)]
  show (readI l).map flat = _
  rw [read_eq l (by omega)]; rfl
theorem decB_eq (n : Int) (h0 : 0 ≤ n) (h1 : n < 99991) : impl_Decimal.f n = some (txt (Lib.itoa n)) := by
  unfold impl_Decimal.f
  rw [if_pos (by omega)]; rfl
theorem impl_one (T : ByteArray) (n k : Nat) (out : List Dd) (c ck : Int) (line rest num text : List UInt8) (f1 f2 : Bool) (y : Nine × Bool)
    (q1 : strings_Cut.f (T.extract ((n : Int)).toNat T.size) (⟨#[10]⟩ : ByteArray) = some (txt line, txt rest, f1)) (q2 : strings_Cut.f (txt line) (⟨#[32]⟩ : ByteArray) = some (txt num, txt text, f2))
    (q3 : impl_readDeed.f (txt text) = some (flat y)) (q4 : impl_check.f k c (txt text) = some ck) (q5 : impl_Decimal.f ck = some (txt (Lib.itoa ck))) (p1 : ((out.length : Nat) : Int) < 60) (p3 : (n : Int) ≤ (T.size : Int)) (p8 : out.length < 1954687338268) (hn : n + line.length ≤ 100000) :
    impl_recovered.l0 (k + 1) T out c (n : Int) = if f1 = true ∧ f2 = true ∧ y.2 = true ∧ num = Lib.itoa ck then impl_recovered.l0 k T (out ++ [toD y.1]) ck ((n + line.length + 1 : Nat) : Int) else some (out, (n : Int)) := by
  have hz : (txt line).size = line.length := txt_size line
  have w1 : wrap64 ((n : Int) + (line.length : Int)) = ((n + line.length : Nat) : Int) := by rw [PuV.wrap_id (by omega) (by omega)]; omega
  have w2 : wrap64 (((n + line.length : Nat) : Int) + 1) = ((n + line.length + 1 : Nat) : Int) := step_i _ hn
  have p2 : (0 : Int) ≤ (n : Int) := by omega
  have ht : ((txt num).toList = (txt (Lib.itoa ck)).toList) = (num = Lib.itoa ck) := by rw [ByteArray.toList_eq, ByteArray.toList_eq]; simp [txt]
  clear hn
  simp only [impl_recovered.l0, p1, p2, p3, if_true, q1, Option.bind_some, q2, q3, q4, hz, w1, w2]
  obtain ⟨x, b⟩ := y
  cases f1 with
  | false => simp
  | true =>
    cases f2 with
    | false => simp
    | true =>
      cases b with
      | false => simp [flat]
      | true =>
        simp only [flat, if_true, true_and, q5, Option.bind_some, ht, p8]
        by_cases hq : num = Lib.itoa ck
        · simp only [hq, if_true]; rfl
        · simp only [hq, if_false]
theorem impl_step (p s : List UInt8) (k : Nat) (out : List Dd) (c : Int) (hl : (p ++ s).length ≤ 100000) (ho : out.length < 60) (h0 : 0 ≤ c) (h1 : c < 99991) (hk : s.length + 1 < k) :
    impl_recovered.l0 (k + 1) (txt (p ++ s)) out c (p.length : Int) = if (cut1 10 s).2.2 = true ∧ (cut1 32 (cut1 10 s).1).2.2 = true ∧ (readS (cut1 32 (cut1 10 s).1).2.1).2 = true ∧ (cut1 32 (cut1 10 s).1).1 = Lib.itoa (Hl.chk c (cut1 32 (cut1 10 s).1).2.1) then
      impl_recovered.l0 k (txt (p ++ s)) (out ++ [toD (readS (cut1 32 (cut1 10 s).1).2.1).1]) (Hl.chk c (cut1 32 (cut1 10 s).1).2.1) ((p.length + (cut1 10 s).1.length + 1 : Nat) : Int) else some (out, (p.length : Int)) := by
  have l1 := cut1_len 10 s
  have l2 := cut1_len 32 (cut1 10 s).1
  have hs : (txt (p ++ s)).size = p.length + s.length := by rw [txt_size, List.length_append]
  rw [List.length_append] at hl
  have e1 : (txt (p ++ s)).extract ((p.length : Int)).toNat (txt (p ++ s)).size = txt s := by
    have := ex_eq p s [] (p.length : Int) ((p.length + s.length : Nat) : Int) rfl rfl
    rw [List.append_nil] at this
    rw [hs]; exact this
  have hc := Hl.chk_in c (cut1 32 (cut1 10 s).1).2.1 ⟨h0, h1⟩
  exact impl_one (txt (p ++ s)) p.length k out c (Hl.chk c (cut1 32 (cut1 10 s).1).2.1) (cut1 10 s).1 (cut1 10 s).2.1 (cut1 32 (cut1 10 s).1).1 (cut1 32 (cut1 10 s).1).2.1 (cut1 10 s).2.2 (cut1 32 (cut1 10 s).1).2.2 (readS (cut1 32 (cut1 10 s).1).2.1)
    (by rw [e1]; exact cutB_eq 10 s (by omega)) (cutB_eq 32 (cut1 10 s).1 (by omega)) (readB_eq _ (by omega)) (Hn.implCheck_eq c h0 h1 _ (by omega) k (by omega)) (decB_eq _ hc.1 hc.2) (by omega) (by rw [hs]; omega) (by omega) (by omega)
theorem impl_rec : ∀ (d : Nat) (p s : List UInt8) (k : Nat) (out : List Dd) (c : Int), (p ++ s).length ≤ 100000 → out.length + d = 60 → 0 ≤ c → c < 99991 → (p ++ s).length + d + 10 ≤ k →
    impl_recovered.l0 k (txt (p ++ s)) out c (p.length : Int) = some ((recL d s out c p.length).1, ((recL d s out c p.length).2 : Int)) := by
  intro d
  induction d with
  | zero =>
    intro p s k out c hl ho h0 h1 hk
    obtain ⟨k, rfl⟩ : ∃ m, k = m + 1 := ⟨k - 1, by omega⟩
    simp only [impl_recovered.l0, recL]
    rw [if_neg (by omega)]
  | succ d ih =>
    intro p s k out c hl ho h0 h1 hk
    obtain ⟨k, rfl⟩ : ∃ m, k = m + 1 := ⟨k - 1, by omega⟩
    have hpl : s.length ≤ (p ++ s).length := by simp
    rw [impl_step p s k out c hl (by omega) h0 h1 (by omega)]
    simp only [recL]
    split
    · rename_i hq
      have hc := Hl.chk_in c (cut1 32 (cut1 10 s).1).2.1 ⟨h0, h1⟩
      by_cases h10 : 10 ∈ s
      · obtain ⟨line, rest, rfl, hn⟩ := first_at 10 s h10
        rw [cut1_some 10 line rest hn] at hc ⊢
        have e : p ++ (line ++ 10 :: rest) = (p ++ line ++ [10]) ++ rest := by simp
        have := ih (p ++ line ++ [10]) rest k (out ++ [toD (readS (cut1 32 line).2.1).1]) (Hl.chk c (cut1 32 line).2.1) (by rw [← e]; exact hl) (by simp; omega) hc.1 hc.2 (by rw [← e]; omega)
        have hL : (p ++ line ++ [(10 : UInt8)]).length = p.length + line.length + 1 := by simp; omega
        rw [hL, ← e] at this
        exact this
      · rw [cut1_none 10 s h10] at hq
        exact absurd hq.1 (by simp)
    · rfl
theorem impl_recover (l : List UInt8) (hl : l.length ≤ 4000) : impl_recovered.f 20000 (txt l) = some ((recL 60 l [] 1 0).1, ((recL 60 l [] 1 0).2 : Int)) := by
  have := impl_rec 60 [] l 20000 [] 1 (by simp; omega) rfl (by decide) (by decide) (by simp; omega)
  simpa [impl_recovered.f] using this
end Go.Proofs.YtkbklocfdoofeaaDoor.PuRi

/- What the readings and the recoveries of a journal hand back. -/
namespace Go.Proofs.YtkbklocfdoofeaaDoor.PuRj
open Go.RowKit Go.Proofs.YtkbklocfdoofeaaDoorW.PrintWords Go.Proofs.YtkbklocfdoofeaaDoor.Q Go.Proofs.YtkbklocfdoofeaaDoor.Sp Go.Proofs.YtkbklocfdoofeaaDoor.PuD Go.Proofs.YtkbklocfdoofeaaDoor.PuRc
theorem recL_len : ∀ (f : Nat) (t : List UInt8) (out : List Dd) (c : Int) (n : Nat), (recL f t out c n).1.length ≤ out.length + f := by
  intro f
  induction f with
  | zero => intro t out c n; simp [recL]
  | succ f ih =>
    intro t out c n
    rw [recL]
    split
    · refine Nat.le_trans (ih _ _ _ _) ?_
      simp; omega
    · show out.length ≤ _
      omega
/-- The journal's beginning: the deeds and the length. -/
def jn (a : ByteArray) : List Dd × Nat := recL 60 a.data.toList [] 1 0
theorem jn_len (a : ByteArray) : (jn a).1.length ≤ 60 := by have := recL_len 60 a.data.toList [] 1 0; simp only [List.length_nil, Nat.zero_add] at this; exact this
theorem spec_jn (a : ByteArray) (h : ¬ (a.size : Int) > 4000) : spec_l11Recover.f 20000 a = some ((jn a).1, ((jn a).2 : Int)) :=
  spec_recover a.data.toList (by rw [Array.length_toList]; show a.size ≤ 4000; omega)
theorem impl_jn (a : ByteArray) (h : ¬ (a.size : Int) > 4000) : impl_recovered.f 20000 a = some ((jn a).1, ((jn a).2 : Int)) :=
  PuRi.impl_recover a.data.toList (by rw [Array.length_toList]; show a.size ≤ 4000; omega)
def rdJ (a : ByteArray) : List Dd × Bool := if (a.size : Int) > 4000 ∨ (jn a).2 < a.size then ([], false) else ((jn a).1, true)
def rcJ (a : ByteArray) : List Dd × Int × Bool := if (a.size : Int) > 4000 then ([], 0, false) else ((jn a).1, ((jn a).2 : Int), true)
theorem rcJ_len (a : ByteArray) : (rcJ a).1.length ≤ 60 := by
  unfold rcJ; split
  · exact Nat.zero_le _
  · exact jn_len a
theorem spec_rc (a : ByteArray) : spec_RecoverJournal.f 20000 a = some ((rcJ a).1, (rcJ a).2.1, (rcJ a).2.2) := by
  unfold spec_RecoverJournal.f rcJ
  by_cases h : (a.size : Int) > 4000
  · rw [if_pos h, if_pos h]
  · rw [if_neg h, if_neg h, spec_jn a h]; rfl
theorem impl_rc (a : ByteArray) : impl_RecoverJournal.f 20000 a = some ((rcJ a).1, (rcJ a).2.1, (rcJ a).2.2) := by
  unfold impl_RecoverJournal.f rcJ
  by_cases h : (a.size : Int) > 4000
  · rw [if_pos h, if_pos h]
  · rw [if_neg h, if_neg h, impl_jn a h]; rfl
end Go.Proofs.YtkbklocfdoofeaaDoor.PuRj

-- made by a patched copy of print.sh: this session's own
namespace Go.Proofs.YtkbklocfdoofeaaDoor.Q
open Go.RowKit Go.Proofs.YtkbklocfdoofeaaDoorW.PrintWords Go.Proofs.YtkbklocfdoofeaaDoorW.PrintLast Go.Proofs.YtkbklocfdoofeaaDoorW.PrintMore
attribute [local go_sem] max2_int min2_int max_two min_two max_three min_three max_four min_four   -- for this text's walks alone
set_option linter.unusedVariables false
set_option linter.unusedSimpArgs false

/-! ### laws_heldDeedS: function 33 -/
def laws_heldDeedS.l0 : Nat → List (S41) → Int → Int → Option (Int)
  | 0, _, _, _ => none
  | k + 1, x0, x1, x5 => if x5 < (x0.length : Int) then (if 0 ≤ x5 then (if ((rd_T41 x0 x5).f0) = x1 then (if ((rd_T41 x0 x5).f1) = (wrap64 (x1 + 1)) then (if ((rd_T41 x0 x5).f2) = (wrap64 ((wrap64 (x1 + 1)) + 1)) then (if ((rd_T41 x0 x5).f3) = (wrap64 ((wrap64 ((wrap64 (x1 + 1)) + 1)) + 1)) then (if ((rd_T41 x0 x5).f4.f0) = (wrap64 ((wrap64 ((wrap64 ((wrap64 (x1 + 1)) + 1)) + 1)) + 1)) then (if ((rd_T41 x0 x5).f4.f1) = (wrap64 ((wrap64 ((wrap64 ((wrap64 ((wrap64 (x1 + 1)) + 1)) + 1)) + 1)) + 1)) then (if ((rd_T41 x0 x5).f5) = (wrap64 ((wrap64 ((wrap64 ((wrap64 ((wrap64 ((wrap64 (x1 + 1)) + 1)) + 1)) + 1)) + 1)) + 1)) then (if ((rd_T41 x0 x5).f6) = (wrap64 ((wrap64 ((wrap64 ((wrap64 ((wrap64 ((wrap64 ((wrap64 (x1 + 1)) + 1)) + 1)) + 1)) + 1)) + 1)) + 1)) then (if ((rd_T41 x0 x5).f7) = (wrap64 ((wrap64 ((wrap64 ((wrap64 ((wrap64 ((wrap64 ((wrap64 ((wrap64 (x1 + 1)) + 1)) + 1)) + 1)) + 1)) + 1)) + 1)) + 1)) then (laws_heldDeedS.l0 k x0 (wrap64 ((wrap64 ((wrap64 ((wrap64 ((wrap64 ((wrap64 ((wrap64 ((wrap64 ((wrap64 (x1 + 1)) + 1)) + 1)) + 1)) + 1)) + 1)) + 1)) + 1)) + 1)) (wrap64 (x5 + 1))) else (some (-1))) else (some (-1))) else (some (-1))) else (some (-1))) else (some (-1))) else (some (-1))) else (some (-1))) else (some (-1))) else (some (-1))) else (none)) else (some x1)
def laws_heldDeedS.f (k : Nat) (l0 : List (S41)) (a1 : Int) : Option (Int) := laws_heldDeedS.l0 k l0 a1 0
set_option maxHeartbeats 8000000 in
set_option maxRecDepth 100000 in
theorem laws_heldDeedS.calls (k : Nat) (A0 : Option Addr) (c0 : Nat) (l0 : List (S41)) (a1 : Int) (r : Int) (w : World) (hr0 : Kd.C k41 w A0 l0.length l0) (hc0 : l0.length ≤ c0) (h : laws_heldDeedS.f k l0 a1 = some r) :
    Calls Tryd.prog 33 #[.slice A0 l0.length c0, .int .i64 a1] w fun e w' => e = .returned (.int .i64 r) ∧ Drawn0 w w' := by
  have HR0 := Aside0.mk hr0
  have HC0 := Aside0.mk hc0
  clear hr0 hc0
  have H : (laws_heldDeedS.l0 k l0 a1 0) = some r := h
  clear h
  have H' := Aside0.mk H
  clear H
  go_enter Tryd.func33, Tryd.ntmps33
  go_wp2
  go_loopg [1, 5] k (fun kq v1 v5 w' => ∃ (x1_1 : Int) (x5_1 : Int), v1 = .int .i64 x1_1 ∧ v5 = .int .i64 x5_1 ∧ Aside0 (laws_heldDeedS.l0 kq l0 x1_1 x5_1 = some r) ∧ Aside0 (kq ≤ k) ∧ Drawn0 w w')
  case atStart => exact ⟨(a1), (0), (by first | rfl | (simp; done) | (simp [*]; done)), (by first | rfl | (simp; done) | (simp [*]; done)), H', ⟨Nat.le_refl _⟩, by repeat (first | exact Drawn0.refl _ | apply Drawn0.step)⟩
  case round =>
    clear H'
    try clear p2
    obtain ⟨x1_1, x5_1, rfl, rfl, HA, HK1, ⟨m1, rfl⟩⟩ := hrel
    cases gk with
    | zero => exact absurd HA.out (by simp [laws_heldDeedS.l0])
    | succ k1 =>
      have H := HA.out
      clear HA
      simp only [laws_heldDeedS.l0] at H
      by_cases c3 : x5_1 < (l0.length : Int)
      · rw [if_pos c3] at H
        have c3b0 : decide (x5_1 < (l0.length : Int)) = true := decide_eq_true c3
        clear c3
        by_cases c4 : 0 ≤ x5_1
        · rw [if_pos c4] at H
          have c4b0 : decide (0 ≤ x5_1) = true := decide_eq_true c4
          clear c4
          by_cases c5 : ((rd_T41 l0 x5_1).f0) = x1_1
          · rw [if_pos c5] at H
            have c5b0 : (((rd_T41 l0 x5_1).f0) == x1_1) = true := beq_iff_eq.mpr c5
            have c5b1 : (((rd_T41 l0 x5_1).f0) != x1_1) = false := bne_eq_false_iff_eq.mpr c5
            clear c5
            by_cases c6 : ((rd_T41 l0 x5_1).f1) = (wrap64 (x1_1 + 1))
            · rw [if_pos c6] at H
              have c6b0 : (((rd_T41 l0 x5_1).f1) == (wrap64 (x1_1 + 1))) = true := beq_iff_eq.mpr c6
              have c6b1 : (((rd_T41 l0 x5_1).f1) != (wrap64 (x1_1 + 1))) = false := bne_eq_false_iff_eq.mpr c6
              clear c6
              by_cases c7 : ((rd_T41 l0 x5_1).f2) = (wrap64 ((wrap64 (x1_1 + 1)) + 1))
              · rw [if_pos c7] at H
                have c7b0 : (((rd_T41 l0 x5_1).f2) == (wrap64 ((wrap64 (x1_1 + 1)) + 1))) = true := beq_iff_eq.mpr c7
                have c7b1 : (((rd_T41 l0 x5_1).f2) != (wrap64 ((wrap64 (x1_1 + 1)) + 1))) = false := bne_eq_false_iff_eq.mpr c7
                clear c7
                by_cases c8 : ((rd_T41 l0 x5_1).f3) = (wrap64 ((wrap64 ((wrap64 (x1_1 + 1)) + 1)) + 1))
                · rw [if_pos c8] at H
                  have c8b0 : (((rd_T41 l0 x5_1).f3) == (wrap64 ((wrap64 ((wrap64 (x1_1 + 1)) + 1)) + 1))) = true := beq_iff_eq.mpr c8
                  have c8b1 : (((rd_T41 l0 x5_1).f3) != (wrap64 ((wrap64 ((wrap64 (x1_1 + 1)) + 1)) + 1))) = false := bne_eq_false_iff_eq.mpr c8
                  clear c8
                  by_cases c9 : ((rd_T41 l0 x5_1).f4.f0) = (wrap64 ((wrap64 ((wrap64 ((wrap64 (x1_1 + 1)) + 1)) + 1)) + 1))
                  · rw [if_pos c9] at H
                    have c9b0 : (((rd_T41 l0 x5_1).f4.f0) == (wrap64 ((wrap64 ((wrap64 ((wrap64 (x1_1 + 1)) + 1)) + 1)) + 1))) = true := beq_iff_eq.mpr c9
                    have c9b1 : (((rd_T41 l0 x5_1).f4.f0) != (wrap64 ((wrap64 ((wrap64 ((wrap64 (x1_1 + 1)) + 1)) + 1)) + 1))) = false := bne_eq_false_iff_eq.mpr c9
                    clear c9
                    by_cases c10 : ((rd_T41 l0 x5_1).f4.f1) = (wrap64 ((wrap64 ((wrap64 ((wrap64 ((wrap64 (x1_1 + 1)) + 1)) + 1)) + 1)) + 1))
                    · rw [if_pos c10] at H
                      have c10b0 : (((rd_T41 l0 x5_1).f4.f1) == (wrap64 ((wrap64 ((wrap64 ((wrap64 ((wrap64 (x1_1 + 1)) + 1)) + 1)) + 1)) + 1))) = true := beq_iff_eq.mpr c10
                      have c10b1 : (((rd_T41 l0 x5_1).f4.f1) != (wrap64 ((wrap64 ((wrap64 ((wrap64 ((wrap64 (x1_1 + 1)) + 1)) + 1)) + 1)) + 1))) = false := bne_eq_false_iff_eq.mpr c10
                      clear c10
                      by_cases c11 : ((rd_T41 l0 x5_1).f5) = (wrap64 ((wrap64 ((wrap64 ((wrap64 ((wrap64 ((wrap64 (x1_1 + 1)) + 1)) + 1)) + 1)) + 1)) + 1))
                      · rw [if_pos c11] at H
                        have c11b0 : (((rd_T41 l0 x5_1).f5) == (wrap64 ((wrap64 ((wrap64 ((wrap64 ((wrap64 ((wrap64 (x1_1 + 1)) + 1)) + 1)) + 1)) + 1)) + 1))) = true := beq_iff_eq.mpr c11
                        have c11b1 : (((rd_T41 l0 x5_1).f5) != (wrap64 ((wrap64 ((wrap64 ((wrap64 ((wrap64 ((wrap64 (x1_1 + 1)) + 1)) + 1)) + 1)) + 1)) + 1))) = false := bne_eq_false_iff_eq.mpr c11
                        clear c11
                        by_cases c12 : ((rd_T41 l0 x5_1).f6) = (wrap64 ((wrap64 ((wrap64 ((wrap64 ((wrap64 ((wrap64 ((wrap64 (x1_1 + 1)) + 1)) + 1)) + 1)) + 1)) + 1)) + 1))
                        · rw [if_pos c12] at H
                          have c12b0 : (((rd_T41 l0 x5_1).f6) == (wrap64 ((wrap64 ((wrap64 ((wrap64 ((wrap64 ((wrap64 ((wrap64 (x1_1 + 1)) + 1)) + 1)) + 1)) + 1)) + 1)) + 1))) = true := beq_iff_eq.mpr c12
                          have c12b1 : (((rd_T41 l0 x5_1).f6) != (wrap64 ((wrap64 ((wrap64 ((wrap64 ((wrap64 ((wrap64 ((wrap64 (x1_1 + 1)) + 1)) + 1)) + 1)) + 1)) + 1)) + 1))) = false := bne_eq_false_iff_eq.mpr c12
                          clear c12
                          by_cases c13 : ((rd_T41 l0 x5_1).f7) = (wrap64 ((wrap64 ((wrap64 ((wrap64 ((wrap64 ((wrap64 ((wrap64 ((wrap64 (x1_1 + 1)) + 1)) + 1)) + 1)) + 1)) + 1)) + 1)) + 1))
                          · rw [if_pos c13] at H
                            have c13b0 : (((rd_T41 l0 x5_1).f7) == (wrap64 ((wrap64 ((wrap64 ((wrap64 ((wrap64 ((wrap64 ((wrap64 ((wrap64 (x1_1 + 1)) + 1)) + 1)) + 1)) + 1)) + 1)) + 1)) + 1))) = true := beq_iff_eq.mpr c13
                            have c13b1 : (((rd_T41 l0 x5_1).f7) != (wrap64 ((wrap64 ((wrap64 ((wrap64 ((wrap64 ((wrap64 ((wrap64 ((wrap64 (x1_1 + 1)) + 1)) + 1)) + 1)) + 1)) + 1)) + 1)) + 1))) = false := bne_eq_false_iff_eq.mpr c13
                            clear c13
                            have H' := Aside0.mk H
                            clear H
                            have p500 : 0 ≤ (x5_1 : Int) := of_decide_eq_true (by first | (with_reducible assumption) | assumption)
                            have q500 : x5_1 < (l0.length : Int) := of_decide_eq_true (by first | (with_reducible assumption) | assumption)
                            obtain ⟨ad500, e500, hx500_0, hx500_1, hx500_2, hx500_3, hx500_4, hx500_5, hx500_6, hx500_7, hx500_8⟩ := at_T41 HR0.out x5_1 p500 q500
                            cases e500
                            replace p500 := eq_true p500
                            replace q500 := eq_true q500
                            have p501 : 0 ≤ (x5_1 : Int) := of_decide_eq_true (by first | (with_reducible assumption) | assumption)
                            have q501 : x5_1 < (l0.length : Int) := of_decide_eq_true (by first | (with_reducible assumption) | assumption)
                            obtain ⟨ad501, e501, hx501_0, hx501_1, hx501_2, hx501_3, hx501_4, hx501_5, hx501_6, hx501_7, hx501_8⟩ := at_T41 HR0.out x5_1 p501 q501
                            obtain rfl : ad500 = ad501 := (by injection e501)
                            replace p501 := eq_true p501
                            replace q501 := eq_true q501
                            have p502 : 0 ≤ (x5_1 : Int) := of_decide_eq_true (by first | (with_reducible assumption) | assumption)
                            have q502 : x5_1 < (l0.length : Int) := of_decide_eq_true (by first | (with_reducible assumption) | assumption)
                            obtain ⟨ad502, e502, hx502_0, hx502_1, hx502_2, hx502_3, hx502_4, hx502_5, hx502_6, hx502_7, hx502_8⟩ := at_T41 HR0.out x5_1 p502 q502
                            obtain rfl : ad500 = ad502 := (by injection e502)
                            replace p502 := eq_true p502
                            replace q502 := eq_true q502
                            have p503 : 0 ≤ (x5_1 : Int) := of_decide_eq_true (by first | (with_reducible assumption) | assumption)
                            have q503 : x5_1 < (l0.length : Int) := of_decide_eq_true (by first | (with_reducible assumption) | assumption)
                            obtain ⟨ad503, e503, hx503_0, hx503_1, hx503_2, hx503_3, hx503_4, hx503_5, hx503_6, hx503_7, hx503_8⟩ := at_T41 HR0.out x5_1 p503 q503
                            obtain rfl : ad500 = ad503 := (by injection e503)
                            replace p503 := eq_true p503
                            replace q503 := eq_true q503
                            have p504 : 0 ≤ (x5_1 : Int) := of_decide_eq_true (by first | (with_reducible assumption) | assumption)
                            have q504 : x5_1 < (l0.length : Int) := of_decide_eq_true (by first | (with_reducible assumption) | assumption)
                            obtain ⟨ad504, e504, hx504_0, hx504_1, hx504_2, hx504_3, hx504_4, hx504_5, hx504_6, hx504_7, hx504_8⟩ := at_T41 HR0.out x5_1 p504 q504
                            obtain rfl : ad500 = ad504 := (by injection e504)
                            replace p504 := eq_true p504
                            replace q504 := eq_true q504
                            have p505 : 0 ≤ (x5_1 : Int) := of_decide_eq_true (by first | (with_reducible assumption) | assumption)
                            have q505 : x5_1 < (l0.length : Int) := of_decide_eq_true (by first | (with_reducible assumption) | assumption)
                            obtain ⟨ad505, e505, hx505_0, hx505_1, hx505_2, hx505_3, hx505_4, hx505_5, hx505_6, hx505_7, hx505_8⟩ := at_T41 HR0.out x5_1 p505 q505
                            obtain rfl : ad500 = ad505 := (by injection e505)
                            replace p505 := eq_true p505
                            replace q505 := eq_true q505
                            have p506 : 0 ≤ (x5_1 : Int) := of_decide_eq_true (by first | (with_reducible assumption) | assumption)
                            have q506 : x5_1 < (l0.length : Int) := of_decide_eq_true (by first | (with_reducible assumption) | assumption)
                            obtain ⟨ad506, e506, hx506_0, hx506_1, hx506_2, hx506_3, hx506_4, hx506_5, hx506_6, hx506_7, hx506_8⟩ := at_T41 HR0.out x5_1 p506 q506
                            obtain rfl : ad500 = ad506 := (by injection e506)
                            replace p506 := eq_true p506
                            replace q506 := eq_true q506
                            have p507 : 0 ≤ (x5_1 : Int) := of_decide_eq_true (by first | (with_reducible assumption) | assumption)
                            have q507 : x5_1 < (l0.length : Int) := of_decide_eq_true (by first | (with_reducible assumption) | assumption)
                            obtain ⟨ad507, e507, hx507_0, hx507_1, hx507_2, hx507_3, hx507_4, hx507_5, hx507_6, hx507_7, hx507_8⟩ := at_T41 HR0.out x5_1 p507 q507
                            obtain rfl : ad500 = ad507 := (by injection e507)
                            replace p507 := eq_true p507
                            replace q507 := eq_true q507
                            have p508 : 0 ≤ (x5_1 : Int) := of_decide_eq_true (by first | (with_reducible assumption) | assumption)
                            have q508 : x5_1 < (l0.length : Int) := of_decide_eq_true (by first | (with_reducible assumption) | assumption)
                            obtain ⟨ad508, e508, hx508_0, hx508_1, hx508_2, hx508_3, hx508_4, hx508_5, hx508_6, hx508_7, hx508_8⟩ := at_T41 HR0.out x5_1 p508 q508
                            obtain rfl : ad500 = ad508 := (by injection e508)
                            replace p508 := eq_true p508
                            replace q508 := eq_true q508
                            go_wp2
                            go_roundg k1
                            case measure => have := HK1.out; omega
                            case rel => exact ⟨(wrap64 ((wrap64 ((wrap64 ((wrap64 ((wrap64 ((wrap64 ((wrap64 ((wrap64 ((wrap64 (x1_1 + 1)) + 1)) + 1)) + 1)) + 1)) + 1)) + 1)) + 1)) + 1)), (wrap64 (x5_1 + 1)), (by first | rfl | (simp; done) | (simp [*]; done)), (by first | rfl | (simp; done) | (simp [*]; done)), H', ⟨by have := HK1.out; omega⟩, by repeat (first | exact Drawn0.refl _ | apply Drawn0.step)⟩
                          · rw [if_neg c13] at H
                            have c13b0 : (((rd_T41 l0 x5_1).f7) == (wrap64 ((wrap64 ((wrap64 ((wrap64 ((wrap64 ((wrap64 ((wrap64 ((wrap64 (x1_1 + 1)) + 1)) + 1)) + 1)) + 1)) + 1)) + 1)) + 1))) = false := beq_eq_false_iff_ne.mpr c13
                            have c13b1 : (((rd_T41 l0 x5_1).f7) != (wrap64 ((wrap64 ((wrap64 ((wrap64 ((wrap64 ((wrap64 ((wrap64 ((wrap64 (x1_1 + 1)) + 1)) + 1)) + 1)) + 1)) + 1)) + 1)) + 1))) = true := bne_iff_ne.mpr c13
                            obtain rfl := Option.some.inj H
                            have p500 : 0 ≤ (x5_1 : Int) := of_decide_eq_true (by first | (with_reducible assumption) | assumption)
                            have q500 : x5_1 < (l0.length : Int) := of_decide_eq_true (by first | (with_reducible assumption) | assumption)
                            obtain ⟨ad500, e500, hx500_0, hx500_1, hx500_2, hx500_3, hx500_4, hx500_5, hx500_6, hx500_7, hx500_8⟩ := at_T41 HR0.out x5_1 p500 q500
                            cases e500
                            replace p500 := eq_true p500
                            replace q500 := eq_true q500
                            have p501 : 0 ≤ (x5_1 : Int) := of_decide_eq_true (by first | (with_reducible assumption) | assumption)
                            have q501 : x5_1 < (l0.length : Int) := of_decide_eq_true (by first | (with_reducible assumption) | assumption)
                            obtain ⟨ad501, e501, hx501_0, hx501_1, hx501_2, hx501_3, hx501_4, hx501_5, hx501_6, hx501_7, hx501_8⟩ := at_T41 HR0.out x5_1 p501 q501
                            obtain rfl : ad500 = ad501 := (by injection e501)
                            replace p501 := eq_true p501
                            replace q501 := eq_true q501
                            have p502 : 0 ≤ (x5_1 : Int) := of_decide_eq_true (by first | (with_reducible assumption) | assumption)
                            have q502 : x5_1 < (l0.length : Int) := of_decide_eq_true (by first | (with_reducible assumption) | assumption)
                            obtain ⟨ad502, e502, hx502_0, hx502_1, hx502_2, hx502_3, hx502_4, hx502_5, hx502_6, hx502_7, hx502_8⟩ := at_T41 HR0.out x5_1 p502 q502
                            obtain rfl : ad500 = ad502 := (by injection e502)
                            replace p502 := eq_true p502
                            replace q502 := eq_true q502
                            have p503 : 0 ≤ (x5_1 : Int) := of_decide_eq_true (by first | (with_reducible assumption) | assumption)
                            have q503 : x5_1 < (l0.length : Int) := of_decide_eq_true (by first | (with_reducible assumption) | assumption)
                            obtain ⟨ad503, e503, hx503_0, hx503_1, hx503_2, hx503_3, hx503_4, hx503_5, hx503_6, hx503_7, hx503_8⟩ := at_T41 HR0.out x5_1 p503 q503
                            obtain rfl : ad500 = ad503 := (by injection e503)
                            replace p503 := eq_true p503
                            replace q503 := eq_true q503
                            have p504 : 0 ≤ (x5_1 : Int) := of_decide_eq_true (by first | (with_reducible assumption) | assumption)
                            have q504 : x5_1 < (l0.length : Int) := of_decide_eq_true (by first | (with_reducible assumption) | assumption)
                            obtain ⟨ad504, e504, hx504_0, hx504_1, hx504_2, hx504_3, hx504_4, hx504_5, hx504_6, hx504_7, hx504_8⟩ := at_T41 HR0.out x5_1 p504 q504
                            obtain rfl : ad500 = ad504 := (by injection e504)
                            replace p504 := eq_true p504
                            replace q504 := eq_true q504
                            have p505 : 0 ≤ (x5_1 : Int) := of_decide_eq_true (by first | (with_reducible assumption) | assumption)
                            have q505 : x5_1 < (l0.length : Int) := of_decide_eq_true (by first | (with_reducible assumption) | assumption)
                            obtain ⟨ad505, e505, hx505_0, hx505_1, hx505_2, hx505_3, hx505_4, hx505_5, hx505_6, hx505_7, hx505_8⟩ := at_T41 HR0.out x5_1 p505 q505
                            obtain rfl : ad500 = ad505 := (by injection e505)
                            replace p505 := eq_true p505
                            replace q505 := eq_true q505
                            have p506 : 0 ≤ (x5_1 : Int) := of_decide_eq_true (by first | (with_reducible assumption) | assumption)
                            have q506 : x5_1 < (l0.length : Int) := of_decide_eq_true (by first | (with_reducible assumption) | assumption)
                            obtain ⟨ad506, e506, hx506_0, hx506_1, hx506_2, hx506_3, hx506_4, hx506_5, hx506_6, hx506_7, hx506_8⟩ := at_T41 HR0.out x5_1 p506 q506
                            obtain rfl : ad500 = ad506 := (by injection e506)
                            replace p506 := eq_true p506
                            replace q506 := eq_true q506
                            have p507 : 0 ≤ (x5_1 : Int) := of_decide_eq_true (by first | (with_reducible assumption) | assumption)
                            have q507 : x5_1 < (l0.length : Int) := of_decide_eq_true (by first | (with_reducible assumption) | assumption)
                            obtain ⟨ad507, e507, hx507_0, hx507_1, hx507_2, hx507_3, hx507_4, hx507_5, hx507_6, hx507_7, hx507_8⟩ := at_T41 HR0.out x5_1 p507 q507
                            obtain rfl : ad500 = ad507 := (by injection e507)
                            replace p507 := eq_true p507
                            replace q507 := eq_true q507
                            have p508 : 0 ≤ (x5_1 : Int) := of_decide_eq_true (by first | (with_reducible assumption) | assumption)
                            have q508 : x5_1 < (l0.length : Int) := of_decide_eq_true (by first | (with_reducible assumption) | assumption)
                            obtain ⟨ad508, e508, hx508_0, hx508_1, hx508_2, hx508_3, hx508_4, hx508_5, hx508_6, hx508_7, hx508_8⟩ := at_T41 HR0.out x5_1 p508 q508
                            obtain rfl : ad500 = ad508 := (by injection e508)
                            replace p508 := eq_true p508
                            replace q508 := eq_true q508
                            go_wp2
                            go_ret
                            exact ⟨by first | rfl | (simp; done) | (simp [*]; done), by repeat (first | exact Drawn0.refl _ | apply Drawn0.step)⟩
                        · rw [if_neg c12] at H
                          have c12b0 : (((rd_T41 l0 x5_1).f6) == (wrap64 ((wrap64 ((wrap64 ((wrap64 ((wrap64 ((wrap64 ((wrap64 (x1_1 + 1)) + 1)) + 1)) + 1)) + 1)) + 1)) + 1))) = false := beq_eq_false_iff_ne.mpr c12
                          have c12b1 : (((rd_T41 l0 x5_1).f6) != (wrap64 ((wrap64 ((wrap64 ((wrap64 ((wrap64 ((wrap64 ((wrap64 (x1_1 + 1)) + 1)) + 1)) + 1)) + 1)) + 1)) + 1))) = true := bne_iff_ne.mpr c12
                          obtain rfl := Option.some.inj H
                          have p500 : 0 ≤ (x5_1 : Int) := of_decide_eq_true (by first | (with_reducible assumption) | assumption)
                          have q500 : x5_1 < (l0.length : Int) := of_decide_eq_true (by first | (with_reducible assumption) | assumption)
                          obtain ⟨ad500, e500, hx500_0, hx500_1, hx500_2, hx500_3, hx500_4, hx500_5, hx500_6, hx500_7, hx500_8⟩ := at_T41 HR0.out x5_1 p500 q500
                          cases e500
                          replace p500 := eq_true p500
                          replace q500 := eq_true q500
                          have p501 : 0 ≤ (x5_1 : Int) := of_decide_eq_true (by first | (with_reducible assumption) | assumption)
                          have q501 : x5_1 < (l0.length : Int) := of_decide_eq_true (by first | (with_reducible assumption) | assumption)
                          obtain ⟨ad501, e501, hx501_0, hx501_1, hx501_2, hx501_3, hx501_4, hx501_5, hx501_6, hx501_7, hx501_8⟩ := at_T41 HR0.out x5_1 p501 q501
                          obtain rfl : ad500 = ad501 := (by injection e501)
                          replace p501 := eq_true p501
                          replace q501 := eq_true q501
                          have p502 : 0 ≤ (x5_1 : Int) := of_decide_eq_true (by first | (with_reducible assumption) | assumption)
                          have q502 : x5_1 < (l0.length : Int) := of_decide_eq_true (by first | (with_reducible assumption) | assumption)
                          obtain ⟨ad502, e502, hx502_0, hx502_1, hx502_2, hx502_3, hx502_4, hx502_5, hx502_6, hx502_7, hx502_8⟩ := at_T41 HR0.out x5_1 p502 q502
                          obtain rfl : ad500 = ad502 := (by injection e502)
                          replace p502 := eq_true p502
                          replace q502 := eq_true q502
                          have p503 : 0 ≤ (x5_1 : Int) := of_decide_eq_true (by first | (with_reducible assumption) | assumption)
                          have q503 : x5_1 < (l0.length : Int) := of_decide_eq_true (by first | (with_reducible assumption) | assumption)
                          obtain ⟨ad503, e503, hx503_0, hx503_1, hx503_2, hx503_3, hx503_4, hx503_5, hx503_6, hx503_7, hx503_8⟩ := at_T41 HR0.out x5_1 p503 q503
                          obtain rfl : ad500 = ad503 := (by injection e503)
                          replace p503 := eq_true p503
                          replace q503 := eq_true q503
                          have p504 : 0 ≤ (x5_1 : Int) := of_decide_eq_true (by first | (with_reducible assumption) | assumption)
                          have q504 : x5_1 < (l0.length : Int) := of_decide_eq_true (by first | (with_reducible assumption) | assumption)
                          obtain ⟨ad504, e504, hx504_0, hx504_1, hx504_2, hx504_3, hx504_4, hx504_5, hx504_6, hx504_7, hx504_8⟩ := at_T41 HR0.out x5_1 p504 q504
                          obtain rfl : ad500 = ad504 := (by injection e504)
                          replace p504 := eq_true p504
                          replace q504 := eq_true q504
                          have p505 : 0 ≤ (x5_1 : Int) := of_decide_eq_true (by first | (with_reducible assumption) | assumption)
                          have q505 : x5_1 < (l0.length : Int) := of_decide_eq_true (by first | (with_reducible assumption) | assumption)
                          obtain ⟨ad505, e505, hx505_0, hx505_1, hx505_2, hx505_3, hx505_4, hx505_5, hx505_6, hx505_7, hx505_8⟩ := at_T41 HR0.out x5_1 p505 q505
                          obtain rfl : ad500 = ad505 := (by injection e505)
                          replace p505 := eq_true p505
                          replace q505 := eq_true q505
                          have p506 : 0 ≤ (x5_1 : Int) := of_decide_eq_true (by first | (with_reducible assumption) | assumption)
                          have q506 : x5_1 < (l0.length : Int) := of_decide_eq_true (by first | (with_reducible assumption) | assumption)
                          obtain ⟨ad506, e506, hx506_0, hx506_1, hx506_2, hx506_3, hx506_4, hx506_5, hx506_6, hx506_7, hx506_8⟩ := at_T41 HR0.out x5_1 p506 q506
                          obtain rfl : ad500 = ad506 := (by injection e506)
                          replace p506 := eq_true p506
                          replace q506 := eq_true q506
                          have p507 : 0 ≤ (x5_1 : Int) := of_decide_eq_true (by first | (with_reducible assumption) | assumption)
                          have q507 : x5_1 < (l0.length : Int) := of_decide_eq_true (by first | (with_reducible assumption) | assumption)
                          obtain ⟨ad507, e507, hx507_0, hx507_1, hx507_2, hx507_3, hx507_4, hx507_5, hx507_6, hx507_7, hx507_8⟩ := at_T41 HR0.out x5_1 p507 q507
                          obtain rfl : ad500 = ad507 := (by injection e507)
                          replace p507 := eq_true p507
                          replace q507 := eq_true q507
                          go_wp2
                          go_ret
                          exact ⟨by first | rfl | (simp; done) | (simp [*]; done), by repeat (first | exact Drawn0.refl _ | apply Drawn0.step)⟩
                      · rw [if_neg c11] at H
                        have c11b0 : (((rd_T41 l0 x5_1).f5) == (wrap64 ((wrap64 ((wrap64 ((wrap64 ((wrap64 ((wrap64 (x1_1 + 1)) + 1)) + 1)) + 1)) + 1)) + 1))) = false := beq_eq_false_iff_ne.mpr c11
                        have c11b1 : (((rd_T41 l0 x5_1).f5) != (wrap64 ((wrap64 ((wrap64 ((wrap64 ((wrap64 ((wrap64 (x1_1 + 1)) + 1)) + 1)) + 1)) + 1)) + 1))) = true := bne_iff_ne.mpr c11
                        obtain rfl := Option.some.inj H
                        have p500 : 0 ≤ (x5_1 : Int) := of_decide_eq_true (by first | (with_reducible assumption) | assumption)
                        have q500 : x5_1 < (l0.length : Int) := of_decide_eq_true (by first | (with_reducible assumption) | assumption)
                        obtain ⟨ad500, e500, hx500_0, hx500_1, hx500_2, hx500_3, hx500_4, hx500_5, hx500_6, hx500_7, hx500_8⟩ := at_T41 HR0.out x5_1 p500 q500
                        cases e500
                        replace p500 := eq_true p500
                        replace q500 := eq_true q500
                        have p501 : 0 ≤ (x5_1 : Int) := of_decide_eq_true (by first | (with_reducible assumption) | assumption)
                        have q501 : x5_1 < (l0.length : Int) := of_decide_eq_true (by first | (with_reducible assumption) | assumption)
                        obtain ⟨ad501, e501, hx501_0, hx501_1, hx501_2, hx501_3, hx501_4, hx501_5, hx501_6, hx501_7, hx501_8⟩ := at_T41 HR0.out x5_1 p501 q501
                        obtain rfl : ad500 = ad501 := (by injection e501)
                        replace p501 := eq_true p501
                        replace q501 := eq_true q501
                        have p502 : 0 ≤ (x5_1 : Int) := of_decide_eq_true (by first | (with_reducible assumption) | assumption)
                        have q502 : x5_1 < (l0.length : Int) := of_decide_eq_true (by first | (with_reducible assumption) | assumption)
                        obtain ⟨ad502, e502, hx502_0, hx502_1, hx502_2, hx502_3, hx502_4, hx502_5, hx502_6, hx502_7, hx502_8⟩ := at_T41 HR0.out x5_1 p502 q502
                        obtain rfl : ad500 = ad502 := (by injection e502)
                        replace p502 := eq_true p502
                        replace q502 := eq_true q502
                        have p503 : 0 ≤ (x5_1 : Int) := of_decide_eq_true (by first | (with_reducible assumption) | assumption)
                        have q503 : x5_1 < (l0.length : Int) := of_decide_eq_true (by first | (with_reducible assumption) | assumption)
                        obtain ⟨ad503, e503, hx503_0, hx503_1, hx503_2, hx503_3, hx503_4, hx503_5, hx503_6, hx503_7, hx503_8⟩ := at_T41 HR0.out x5_1 p503 q503
                        obtain rfl : ad500 = ad503 := (by injection e503)
                        replace p503 := eq_true p503
                        replace q503 := eq_true q503
                        have p504 : 0 ≤ (x5_1 : Int) := of_decide_eq_true (by first | (with_reducible assumption) | assumption)
                        have q504 : x5_1 < (l0.length : Int) := of_decide_eq_true (by first | (with_reducible assumption) | assumption)
                        obtain ⟨ad504, e504, hx504_0, hx504_1, hx504_2, hx504_3, hx504_4, hx504_5, hx504_6, hx504_7, hx504_8⟩ := at_T41 HR0.out x5_1 p504 q504
                        obtain rfl : ad500 = ad504 := (by injection e504)
                        replace p504 := eq_true p504
                        replace q504 := eq_true q504
                        have p505 : 0 ≤ (x5_1 : Int) := of_decide_eq_true (by first | (with_reducible assumption) | assumption)
                        have q505 : x5_1 < (l0.length : Int) := of_decide_eq_true (by first | (with_reducible assumption) | assumption)
                        obtain ⟨ad505, e505, hx505_0, hx505_1, hx505_2, hx505_3, hx505_4, hx505_5, hx505_6, hx505_7, hx505_8⟩ := at_T41 HR0.out x5_1 p505 q505
                        obtain rfl : ad500 = ad505 := (by injection e505)
                        replace p505 := eq_true p505
                        replace q505 := eq_true q505
                        have p506 : 0 ≤ (x5_1 : Int) := of_decide_eq_true (by first | (with_reducible assumption) | assumption)
                        have q506 : x5_1 < (l0.length : Int) := of_decide_eq_true (by first | (with_reducible assumption) | assumption)
                        obtain ⟨ad506, e506, hx506_0, hx506_1, hx506_2, hx506_3, hx506_4, hx506_5, hx506_6, hx506_7, hx506_8⟩ := at_T41 HR0.out x5_1 p506 q506
                        obtain rfl : ad500 = ad506 := (by injection e506)
                        replace p506 := eq_true p506
                        replace q506 := eq_true q506
                        go_wp2
                        go_ret
                        exact ⟨by first | rfl | (simp; done) | (simp [*]; done), by repeat (first | exact Drawn0.refl _ | apply Drawn0.step)⟩
                    · rw [if_neg c10] at H
                      have c10b0 : (((rd_T41 l0 x5_1).f4.f1) == (wrap64 ((wrap64 ((wrap64 ((wrap64 ((wrap64 (x1_1 + 1)) + 1)) + 1)) + 1)) + 1))) = false := beq_eq_false_iff_ne.mpr c10
                      have c10b1 : (((rd_T41 l0 x5_1).f4.f1) != (wrap64 ((wrap64 ((wrap64 ((wrap64 ((wrap64 (x1_1 + 1)) + 1)) + 1)) + 1)) + 1))) = true := bne_iff_ne.mpr c10
                      obtain rfl := Option.some.inj H
                      have p500 : 0 ≤ (x5_1 : Int) := of_decide_eq_true (by first | (with_reducible assumption) | assumption)
                      have q500 : x5_1 < (l0.length : Int) := of_decide_eq_true (by first | (with_reducible assumption) | assumption)
                      obtain ⟨ad500, e500, hx500_0, hx500_1, hx500_2, hx500_3, hx500_4, hx500_5, hx500_6, hx500_7, hx500_8⟩ := at_T41 HR0.out x5_1 p500 q500
                      cases e500
                      replace p500 := eq_true p500
                      replace q500 := eq_true q500
                      have p501 : 0 ≤ (x5_1 : Int) := of_decide_eq_true (by first | (with_reducible assumption) | assumption)
                      have q501 : x5_1 < (l0.length : Int) := of_decide_eq_true (by first | (with_reducible assumption) | assumption)
                      obtain ⟨ad501, e501, hx501_0, hx501_1, hx501_2, hx501_3, hx501_4, hx501_5, hx501_6, hx501_7, hx501_8⟩ := at_T41 HR0.out x5_1 p501 q501
                      obtain rfl : ad500 = ad501 := (by injection e501)
                      replace p501 := eq_true p501
                      replace q501 := eq_true q501
                      have p502 : 0 ≤ (x5_1 : Int) := of_decide_eq_true (by first | (with_reducible assumption) | assumption)
                      have q502 : x5_1 < (l0.length : Int) := of_decide_eq_true (by first | (with_reducible assumption) | assumption)
                      obtain ⟨ad502, e502, hx502_0, hx502_1, hx502_2, hx502_3, hx502_4, hx502_5, hx502_6, hx502_7, hx502_8⟩ := at_T41 HR0.out x5_1 p502 q502
                      obtain rfl : ad500 = ad502 := (by injection e502)
                      replace p502 := eq_true p502
                      replace q502 := eq_true q502
                      have p503 : 0 ≤ (x5_1 : Int) := of_decide_eq_true (by first | (with_reducible assumption) | assumption)
                      have q503 : x5_1 < (l0.length : Int) := of_decide_eq_true (by first | (with_reducible assumption) | assumption)
                      obtain ⟨ad503, e503, hx503_0, hx503_1, hx503_2, hx503_3, hx503_4, hx503_5, hx503_6, hx503_7, hx503_8⟩ := at_T41 HR0.out x5_1 p503 q503
                      obtain rfl : ad500 = ad503 := (by injection e503)
                      replace p503 := eq_true p503
                      replace q503 := eq_true q503
                      have p504 : 0 ≤ (x5_1 : Int) := of_decide_eq_true (by first | (with_reducible assumption) | assumption)
                      have q504 : x5_1 < (l0.length : Int) := of_decide_eq_true (by first | (with_reducible assumption) | assumption)
                      obtain ⟨ad504, e504, hx504_0, hx504_1, hx504_2, hx504_3, hx504_4, hx504_5, hx504_6, hx504_7, hx504_8⟩ := at_T41 HR0.out x5_1 p504 q504
                      obtain rfl : ad500 = ad504 := (by injection e504)
                      replace p504 := eq_true p504
                      replace q504 := eq_true q504
                      have p505 : 0 ≤ (x5_1 : Int) := of_decide_eq_true (by first | (with_reducible assumption) | assumption)
                      have q505 : x5_1 < (l0.length : Int) := of_decide_eq_true (by first | (with_reducible assumption) | assumption)
                      obtain ⟨ad505, e505, hx505_0, hx505_1, hx505_2, hx505_3, hx505_4, hx505_5, hx505_6, hx505_7, hx505_8⟩ := at_T41 HR0.out x5_1 p505 q505
                      obtain rfl : ad500 = ad505 := (by injection e505)
                      replace p505 := eq_true p505
                      replace q505 := eq_true q505
                      go_wp2
                      go_ret
                      exact ⟨by first | rfl | (simp; done) | (simp [*]; done), by repeat (first | exact Drawn0.refl _ | apply Drawn0.step)⟩
                  · rw [if_neg c9] at H
                    have c9b0 : (((rd_T41 l0 x5_1).f4.f0) == (wrap64 ((wrap64 ((wrap64 ((wrap64 (x1_1 + 1)) + 1)) + 1)) + 1))) = false := beq_eq_false_iff_ne.mpr c9
                    have c9b1 : (((rd_T41 l0 x5_1).f4.f0) != (wrap64 ((wrap64 ((wrap64 ((wrap64 (x1_1 + 1)) + 1)) + 1)) + 1))) = true := bne_iff_ne.mpr c9
                    obtain rfl := Option.some.inj H
                    have p500 : 0 ≤ (x5_1 : Int) := of_decide_eq_true (by first | (with_reducible assumption) | assumption)
                    have q500 : x5_1 < (l0.length : Int) := of_decide_eq_true (by first | (with_reducible assumption) | assumption)
                    obtain ⟨ad500, e500, hx500_0, hx500_1, hx500_2, hx500_3, hx500_4, hx500_5, hx500_6, hx500_7, hx500_8⟩ := at_T41 HR0.out x5_1 p500 q500
                    cases e500
                    replace p500 := eq_true p500
                    replace q500 := eq_true q500
                    have p501 : 0 ≤ (x5_1 : Int) := of_decide_eq_true (by first | (with_reducible assumption) | assumption)
                    have q501 : x5_1 < (l0.length : Int) := of_decide_eq_true (by first | (with_reducible assumption) | assumption)
                    obtain ⟨ad501, e501, hx501_0, hx501_1, hx501_2, hx501_3, hx501_4, hx501_5, hx501_6, hx501_7, hx501_8⟩ := at_T41 HR0.out x5_1 p501 q501
                    obtain rfl : ad500 = ad501 := (by injection e501)
                    replace p501 := eq_true p501
                    replace q501 := eq_true q501
                    have p502 : 0 ≤ (x5_1 : Int) := of_decide_eq_true (by first | (with_reducible assumption) | assumption)
                    have q502 : x5_1 < (l0.length : Int) := of_decide_eq_true (by first | (with_reducible assumption) | assumption)
                    obtain ⟨ad502, e502, hx502_0, hx502_1, hx502_2, hx502_3, hx502_4, hx502_5, hx502_6, hx502_7, hx502_8⟩ := at_T41 HR0.out x5_1 p502 q502
                    obtain rfl : ad500 = ad502 := (by injection e502)
                    replace p502 := eq_true p502
                    replace q502 := eq_true q502
                    have p503 : 0 ≤ (x5_1 : Int) := of_decide_eq_true (by first | (with_reducible assumption) | assumption)
                    have q503 : x5_1 < (l0.length : Int) := of_decide_eq_true (by first | (with_reducible assumption) | assumption)
                    obtain ⟨ad503, e503, hx503_0, hx503_1, hx503_2, hx503_3, hx503_4, hx503_5, hx503_6, hx503_7, hx503_8⟩ := at_T41 HR0.out x5_1 p503 q503
                    obtain rfl : ad500 = ad503 := (by injection e503)
                    replace p503 := eq_true p503
                    replace q503 := eq_true q503
                    have p504 : 0 ≤ (x5_1 : Int) := of_decide_eq_true (by first | (with_reducible assumption) | assumption)
                    have q504 : x5_1 < (l0.length : Int) := of_decide_eq_true (by first | (with_reducible assumption) | assumption)
                    obtain ⟨ad504, e504, hx504_0, hx504_1, hx504_2, hx504_3, hx504_4, hx504_5, hx504_6, hx504_7, hx504_8⟩ := at_T41 HR0.out x5_1 p504 q504
                    obtain rfl : ad500 = ad504 := (by injection e504)
                    replace p504 := eq_true p504
                    replace q504 := eq_true q504
                    go_wp2
                    go_ret
                    exact ⟨by first | rfl | (simp; done) | (simp [*]; done), by repeat (first | exact Drawn0.refl _ | apply Drawn0.step)⟩
                · rw [if_neg c8] at H
                  have c8b0 : (((rd_T41 l0 x5_1).f3) == (wrap64 ((wrap64 ((wrap64 (x1_1 + 1)) + 1)) + 1))) = false := beq_eq_false_iff_ne.mpr c8
                  have c8b1 : (((rd_T41 l0 x5_1).f3) != (wrap64 ((wrap64 ((wrap64 (x1_1 + 1)) + 1)) + 1))) = true := bne_iff_ne.mpr c8
                  obtain rfl := Option.some.inj H
                  have p500 : 0 ≤ (x5_1 : Int) := of_decide_eq_true (by first | (with_reducible assumption) | assumption)
                  have q500 : x5_1 < (l0.length : Int) := of_decide_eq_true (by first | (with_reducible assumption) | assumption)
                  obtain ⟨ad500, e500, hx500_0, hx500_1, hx500_2, hx500_3, hx500_4, hx500_5, hx500_6, hx500_7, hx500_8⟩ := at_T41 HR0.out x5_1 p500 q500
                  cases e500
                  replace p500 := eq_true p500
                  replace q500 := eq_true q500
                  have p501 : 0 ≤ (x5_1 : Int) := of_decide_eq_true (by first | (with_reducible assumption) | assumption)
                  have q501 : x5_1 < (l0.length : Int) := of_decide_eq_true (by first | (with_reducible assumption) | assumption)
                  obtain ⟨ad501, e501, hx501_0, hx501_1, hx501_2, hx501_3, hx501_4, hx501_5, hx501_6, hx501_7, hx501_8⟩ := at_T41 HR0.out x5_1 p501 q501
                  obtain rfl : ad500 = ad501 := (by injection e501)
                  replace p501 := eq_true p501
                  replace q501 := eq_true q501
                  have p502 : 0 ≤ (x5_1 : Int) := of_decide_eq_true (by first | (with_reducible assumption) | assumption)
                  have q502 : x5_1 < (l0.length : Int) := of_decide_eq_true (by first | (with_reducible assumption) | assumption)
                  obtain ⟨ad502, e502, hx502_0, hx502_1, hx502_2, hx502_3, hx502_4, hx502_5, hx502_6, hx502_7, hx502_8⟩ := at_T41 HR0.out x5_1 p502 q502
                  obtain rfl : ad500 = ad502 := (by injection e502)
                  replace p502 := eq_true p502
                  replace q502 := eq_true q502
                  have p503 : 0 ≤ (x5_1 : Int) := of_decide_eq_true (by first | (with_reducible assumption) | assumption)
                  have q503 : x5_1 < (l0.length : Int) := of_decide_eq_true (by first | (with_reducible assumption) | assumption)
                  obtain ⟨ad503, e503, hx503_0, hx503_1, hx503_2, hx503_3, hx503_4, hx503_5, hx503_6, hx503_7, hx503_8⟩ := at_T41 HR0.out x5_1 p503 q503
                  obtain rfl : ad500 = ad503 := (by injection e503)
                  replace p503 := eq_true p503
                  replace q503 := eq_true q503
                  go_wp2
                  go_ret
                  exact ⟨by first | rfl | (simp; done) | (simp [*]; done), by repeat (first | exact Drawn0.refl _ | apply Drawn0.step)⟩
              · rw [if_neg c7] at H
                have c7b0 : (((rd_T41 l0 x5_1).f2) == (wrap64 ((wrap64 (x1_1 + 1)) + 1))) = false := beq_eq_false_iff_ne.mpr c7
                have c7b1 : (((rd_T41 l0 x5_1).f2) != (wrap64 ((wrap64 (x1_1 + 1)) + 1))) = true := bne_iff_ne.mpr c7
                obtain rfl := Option.some.inj H
                have p500 : 0 ≤ (x5_1 : Int) := of_decide_eq_true (by first | (with_reducible assumption) | assumption)
                have q500 : x5_1 < (l0.length : Int) := of_decide_eq_true (by first | (with_reducible assumption) | assumption)
                obtain ⟨ad500, e500, hx500_0, hx500_1, hx500_2, hx500_3, hx500_4, hx500_5, hx500_6, hx500_7, hx500_8⟩ := at_T41 HR0.out x5_1 p500 q500
                cases e500
                replace p500 := eq_true p500
                replace q500 := eq_true q500
                have p501 : 0 ≤ (x5_1 : Int) := of_decide_eq_true (by first | (with_reducible assumption) | assumption)
                have q501 : x5_1 < (l0.length : Int) := of_decide_eq_true (by first | (with_reducible assumption) | assumption)
                obtain ⟨ad501, e501, hx501_0, hx501_1, hx501_2, hx501_3, hx501_4, hx501_5, hx501_6, hx501_7, hx501_8⟩ := at_T41 HR0.out x5_1 p501 q501
                obtain rfl : ad500 = ad501 := (by injection e501)
                replace p501 := eq_true p501
                replace q501 := eq_true q501
                have p502 : 0 ≤ (x5_1 : Int) := of_decide_eq_true (by first | (with_reducible assumption) | assumption)
                have q502 : x5_1 < (l0.length : Int) := of_decide_eq_true (by first | (with_reducible assumption) | assumption)
                obtain ⟨ad502, e502, hx502_0, hx502_1, hx502_2, hx502_3, hx502_4, hx502_5, hx502_6, hx502_7, hx502_8⟩ := at_T41 HR0.out x5_1 p502 q502
                obtain rfl : ad500 = ad502 := (by injection e502)
                replace p502 := eq_true p502
                replace q502 := eq_true q502
                go_wp2
                go_ret
                exact ⟨by first | rfl | (simp; done) | (simp [*]; done), by repeat (first | exact Drawn0.refl _ | apply Drawn0.step)⟩
            · rw [if_neg c6] at H
              have c6b0 : (((rd_T41 l0 x5_1).f1) == (wrap64 (x1_1 + 1))) = false := beq_eq_false_iff_ne.mpr c6
              have c6b1 : (((rd_T41 l0 x5_1).f1) != (wrap64 (x1_1 + 1))) = true := bne_iff_ne.mpr c6
              obtain rfl := Option.some.inj H
              have p500 : 0 ≤ (x5_1 : Int) := of_decide_eq_true (by first | (with_reducible assumption) | assumption)
              have q500 : x5_1 < (l0.length : Int) := of_decide_eq_true (by first | (with_reducible assumption) | assumption)
              obtain ⟨ad500, e500, hx500_0, hx500_1, hx500_2, hx500_3, hx500_4, hx500_5, hx500_6, hx500_7, hx500_8⟩ := at_T41 HR0.out x5_1 p500 q500
              cases e500
              replace p500 := eq_true p500
              replace q500 := eq_true q500
              have p501 : 0 ≤ (x5_1 : Int) := of_decide_eq_true (by first | (with_reducible assumption) | assumption)
              have q501 : x5_1 < (l0.length : Int) := of_decide_eq_true (by first | (with_reducible assumption) | assumption)
              obtain ⟨ad501, e501, hx501_0, hx501_1, hx501_2, hx501_3, hx501_4, hx501_5, hx501_6, hx501_7, hx501_8⟩ := at_T41 HR0.out x5_1 p501 q501
              obtain rfl : ad500 = ad501 := (by injection e501)
              replace p501 := eq_true p501
              replace q501 := eq_true q501
              go_wp2
              go_ret
              exact ⟨by first | rfl | (simp; done) | (simp [*]; done), by repeat (first | exact Drawn0.refl _ | apply Drawn0.step)⟩
          · rw [if_neg c5] at H
            have c5b0 : (((rd_T41 l0 x5_1).f0) == x1_1) = false := beq_eq_false_iff_ne.mpr c5
            have c5b1 : (((rd_T41 l0 x5_1).f0) != x1_1) = true := bne_iff_ne.mpr c5
            obtain rfl := Option.some.inj H
            have p500 : 0 ≤ (x5_1 : Int) := of_decide_eq_true (by first | (with_reducible assumption) | assumption)
            have q500 : x5_1 < (l0.length : Int) := of_decide_eq_true (by first | (with_reducible assumption) | assumption)
            obtain ⟨ad500, e500, hx500_0, hx500_1, hx500_2, hx500_3, hx500_4, hx500_5, hx500_6, hx500_7, hx500_8⟩ := at_T41 HR0.out x5_1 p500 q500
            cases e500
            replace p500 := eq_true p500
            replace q500 := eq_true q500
            go_wp2
            go_ret
            exact ⟨by first | rfl | (simp; done) | (simp [*]; done), by repeat (first | exact Drawn0.refl _ | apply Drawn0.step)⟩
        · rw [if_neg c4] at H
          exact absurd H (by simp)
      · rw [if_neg c3] at H
        have c3b0 : decide (x5_1 < (l0.length : Int)) = false := decide_eq_false c3
        clear c3
        obtain rfl := Option.some.inj H
        go_wp2
        go_ret
        exact ⟨by first | rfl | (simp; done) | (simp [*]; done), by repeat (first | exact Drawn0.refl _ | apply Drawn0.step)⟩

end Go.Proofs.YtkbklocfdoofeaaDoor.Q

-- made by a patched copy of print.sh: this session's own
namespace Go.Proofs.YtkbklocfdoofeaaDoor.Q
open Go.RowKit Go.Proofs.YtkbklocfdoofeaaDoorW.PrintWords Go.Proofs.YtkbklocfdoofeaaDoorW.PrintLast Go.Proofs.YtkbklocfdoofeaaDoorW.PrintMore
attribute [local go_sem] max2_int min2_int max_two min_two max_three min_three max_four min_four   -- for this text's walks alone
set_option linter.unusedVariables false
set_option linter.unusedSimpArgs false

/-! ### laws_szDeedS: function 18 -/
def laws_szDeedS.f (l0 : List (S37)) (a1 : Int) : Option (Int) := if (wrap64 (a1 - (l0.length : Int))) < 0 then (some (-1)) else (some (wrap64 (a1 - (l0.length : Int))))
end Go.Proofs.YtkbklocfdoofeaaDoor.Q

-- made by a patched copy of print.sh: this session's own
namespace Go.Proofs.YtkbklocfdoofeaaDoor.Q
open Go.RowKit Go.Proofs.YtkbklocfdoofeaaDoorW.PrintWords Go.Proofs.YtkbklocfdoofeaaDoorW.PrintLast Go.Proofs.YtkbklocfdoofeaaDoorW.PrintMore
attribute [local go_sem] max2_int min2_int max_two min_two max_three min_three max_four min_four   -- for this text's walks alone
set_option linter.unusedVariables false
set_option linter.unusedSimpArgs false

/-! ### laws_toRing: function 45 -/
def laws_toRing.f (a0_0 : Int) (a0_1 : Int) : Option (Int × Int) := some (a0_0, a0_1)
end Go.Proofs.YtkbklocfdoofeaaDoor.Q

-- made by a patched copy of print.sh: this session's own
namespace Go.Proofs.YtkbklocfdoofeaaDoor.Q
open Go.RowKit Go.Proofs.YtkbklocfdoofeaaDoorW.PrintWords Go.Proofs.YtkbklocfdoofeaaDoorW.PrintLast Go.Proofs.YtkbklocfdoofeaaDoorW.PrintMore
attribute [local go_sem] max2_int min2_int max_two min_two max_three min_three max_four min_four   -- for this text's walks alone
set_option linter.unusedVariables false
set_option linter.unusedSimpArgs false

/-! ### laws_toDeed: function 16 -/
def laws_toDeed.f (a0_0 : Int) (a0_1 : Int) (a0_2 : Int) (a0_3 : Int) (a0_4 : Int) (a0_5 : Int) (a0_6 : Int) (a0_7 : Int) (a0_8 : Int) : Option (Int × Int × Int × Int × Int × Int × Int × Int × Int) := (laws_toRing.f a0_4 a0_5).bind fun bt264 => (some (a0_0, a0_1, a0_2, a0_3, bt264.1, bt264.2, a0_6, a0_7, a0_8))
end Go.Proofs.YtkbklocfdoofeaaDoor.Q

-- made by a patched copy of print.sh: this session's own
namespace Go.Proofs.YtkbklocfdoofeaaDoor.Q
open Go.RowKit Go.Proofs.YtkbklocfdoofeaaDoorW.PrintWords Go.Proofs.YtkbklocfdoofeaaDoorW.PrintLast Go.Proofs.YtkbklocfdoofeaaDoorW.PrintMore
attribute [local go_sem] max2_int min2_int max_two min_two max_three min_three max_four min_four   -- for this text's walks alone
set_option linter.unusedVariables false
set_option linter.unusedSimpArgs false

/-! ### laws_toDeedS: function 20 -/
def laws_toDeedS.l0 : Nat → List (S37) → List (S41) → Int → Option ((List (S41)))
  | 0, _, _, _ => none
  | k + 1, x0, x3, x4 => if x4 < (x0.length : Int) then (if 0 ≤ x4 then ((laws_toDeed.f ((rd_T37 x0 x4).f0) ((rd_T37 x0 x4).f1) ((rd_T37 x0 x4).f2) ((rd_T37 x0 x4).f3) ((rd_T37 x0 x4).f4.f0) ((rd_T37 x0 x4).f4.f1) ((rd_T37 x0 x4).f5) ((rd_T37 x0 x4).f6) ((rd_T37 x0 x4).f7)).bind fun bt335 => (if x4 < (x3.length : Int) then (laws_toDeedS.l0 k x0 (x3.set (x4 : Int).toNat (⟨bt335.1, bt335.2.1, bt335.2.2.1, bt335.2.2.2.1, (⟨bt335.2.2.2.2.1, bt335.2.2.2.2.2.1⟩ : S39), bt335.2.2.2.2.2.2.1, bt335.2.2.2.2.2.2.2.1, bt335.2.2.2.2.2.2.2.2⟩ : S41)) (wrap64 (x4 + 1))) else (none))) else (none)) else (some x3)
def laws_toDeedS.f (k : Nat) (l0 : List (S37)) : Option ((List (S41))) := if 0 ≤ (l0.length : Int) then (if ((l0.length : Int) : Int).toNat ≤ 3909374676536 then (laws_toDeedS.l0 k l0 (List.replicate ((l0.length : Int) : Int).toNat z41) 0) else (none)) else (none)
end Go.Proofs.YtkbklocfdoofeaaDoor.Q

/- What the laws' own helpers compute on lists of deeds. -/
namespace Go.Proofs.YtkbklocfdoofeaaDoor.PuJ
open Go.RowKit Go.Proofs.YtkbklocfdoofeaaDoorW.PrintWords Go.Proofs.YtkbklocfdoofeaaDoor.Q
abbrev Dl := S37
abbrev Dd := S41
theorem wrap_id {x : Int} (h1 : -9223372036854775808 ≤ x) (h2 : x ≤ 9223372036854775807) : wrap64 x = x := by unfold wrap64; omega
theorem getD_nat {α : Type} (l : List α) (k : Nat) (z : α) (h : k < l.length) : l.getD (k : Int).toNat z = l[k] := by
  simp [List.getD_eq_getElem?_getD, h]
theorem rdD_at (l : List Dd) (k : Nat) (h : k < l.length) : rd_T41 l k = l[k] := getD_nat l k z41 h
def convD (x : Dl) : Dd := ⟨x.f0, x.f1, x.f2, x.f3, ⟨x.f4.f0, x.f4.f1⟩, x.f5, x.f6, x.f7⟩
theorem eqDeedS_loop (l : List Dd) (hl : l.length ≤ 1048576) : ∀ (d k i : Nat), i + d = l.length → d < k → laws_eqDeedS.l0 k l l i = some true := by
  intro d
  induction d with
  | zero =>
    intro k i hi hk
    obtain ⟨k, rfl⟩ : ∃ m, k = m + 1 := ⟨k - 1, by omega⟩
    simp only [laws_eqDeedS.l0]
    rw [if_neg (by omega)]
  | succ d ih =>
    intro k i hi hk
    obtain ⟨k, rfl⟩ : ∃ m, k = m + 1 := ⟨k - 1, by omega⟩
    simp only [laws_eqDeedS.l0, laws_eqDeed.f, laws_eqRing.f, if_true, Option.bind_some]
    rw [if_pos (by omega), if_pos (by omega), if_pos (by omega), wrap_id (by omega) (by omega), show (i : Int) + 1 = ((i + 1 : Nat) : Int) by omega]
    exact ih k (i + 1) (by omega) (by omega)
theorem eqDeedS_eq (l : List Dd) (hl : l.length ≤ 1048576) (k : Nat) (hk : l.length < k) : laws_eqDeedS.f k l l = some true := by
  simp only [laws_eqDeedS.f, if_true]
  exact eqDeedS_loop l hl l.length k 0 (by omega) hk
end Go.Proofs.YtkbklocfdoofeaaDoor.PuJ

/- markDeedS: each cell of a list of deeds gets a number of its own. -/
namespace Go.Proofs.YtkbklocfdoofeaaDoor.Mk
open Go.RowKit Go.Proofs.YtkbklocfdoofeaaDoorW.PrintWords Go.Proofs.YtkbklocfdoofeaaDoorW.PrintLast Go.Proofs.YtkbklocfdoofeaaDoorW.PrintMore Go.Proofs.YtkbklocfdoofeaaDoor.Q Go.Proofs.YtkbklocfdoofeaaDoor.Ha
/-- Memory behind some rounds: block g holds numbers at its first m cells, all else stands. -/
structure Mk (w : World) (g n : Nat) (m : Nat) (W : World) : Prop where
  blk : ∃ cs : Array Value, W.heap[g]? = some (.cells cs 41 (0, 0)) ∧ 9 * n ≤ cs.size ∧ ∀ j, j < m → cs[j]? = some (.int .i64 ((j : Int) + 1))
  far : ∀ b, b ≠ g → W.heap[b]? = w.heap[b]?
  same : W.os = w.os ∧ W.tape = w.tape ∧ W.output = w.output ∧ W.heap.size = w.heap.size
theorem Mk.cell {w W : World} {g n m : Nat} (h : Mk w g n m W) (j : Nat) (hj : j < 9 * n) : (∃ v, W.cell? ⟨g, j, none⟩ = some v) ∧ W.frozen? ⟨g, j, none⟩ = false := by
  obtain ⟨cs, hb, hs, _⟩ := h.blk
  exact ⟨⟨cs[j]'(by omega), (blk_cell hb j).trans (by simp [Array.getElem?_eq_getElem (show j < cs.size by omega)])⟩, blk_frozen hb j⟩
theorem Mk.put {w W : World} {g n m : Nat} (h : Mk w g n m W) (hm : m < 9 * n) : Mk w g n (m + 1) (W.setCell ⟨g, m, none⟩ (.int .i64 ((m : Int) + 1))) := by
  obtain ⟨cs, hb, hs, hv⟩ := h.blk
  refine ⟨⟨cs.setIfInBounds m (.int .i64 ((m : Int) + 1)), blk_set hb m _, by simpa using hs, fun j hj => ?_⟩, fun b hne => (Below.heap_setCell _ _ _ _ hne).trans (h.far b hne), ?_⟩
  · rw [Array.getElem?_setIfInBounds]
    by_cases hjm : m = j
    · subst hjm; rw [if_pos rfl, if_pos (by omega)]
    · rw [if_neg hjm]; exact hv j (by omega)
  · have := setCells_same g [(.int .i64 ((m : Int) + 1))] m W
    exact ⟨this.1.trans h.same.1, this.2.1.trans h.same.2.1, this.2.2.1.trans h.same.2.2.1, this.2.2.2.trans h.same.2.2.2⟩
theorem Mk.put' {w W : World} {g n m : Nat} (h : Mk w g n m W) (hm : m < 9 * n) {o : Nat} {v : Int} (ho : o = m) (hv : v = (m : Int) + 1) : Mk w g n (m + 1) (W.setCell ⟨g, o, none⟩ (.int .i64 v)) := by
  subst ho; subst hv; exact h.put hm
set_option maxRecDepth 100000 in
theorem mark_any (g n c : Nat) (w : World) (cs : Array Value) (hb : w.heap[g]? = some (.cells cs 41 (0, 0))) (hs : 9 * n ≤ cs.size) (hn : n ≤ 60) :
    Calls Tryd.prog 32 #[.slice (some ⟨g, 0, none⟩) n c, .int .i64 1] w fun e w' => e = .returned (.int .i64 ((9 * n : Nat) + 1)) ∧ Mk w g n (9 * n) w' := by
  have H0 := Aside0.mk (show Mk w g n 0 w from ⟨⟨cs, hb, hs, fun j hj => by omega⟩, fun _ _ => rfl, rfl, rfl, rfl, rfl⟩)
  clear hb hs
  have hu := Tryd.underlying41
  go_enter Tryd.func32, Tryd.ntmps32
  go_wp2
  go_loopw [1, 5] (fun k i wr => ∃ m : Nat, m ≤ n ∧ k = .int .i64 ((9 * m : Nat) + 1) ∧ i = .int .i64 m ∧ Aside0 (Mk w g n (9 * m) wr)) (fun _ i _ => n - (intOf i).toNat)
  case atStart => exact ⟨0, by omega, rfl, rfl, H0⟩
  case round =>
    obtain ⟨m, hm, rfl, rfl, HM⟩ := hrel
    by_cases hlt : m < n
    · have c0 : decide ((m : Int) < (n : Int)) = true := decide_eq_true (by omega)
      obtain ⟨⟨v0, x0⟩, f0⟩ := HM.out.cell (m * 9) (by omega)
      obtain ⟨⟨v1, x1⟩, f1⟩ := HM.out.cell (m * 9 + 1) (by omega)
      obtain ⟨⟨v2, x2⟩, f2⟩ := HM.out.cell (m * 9 + 2) (by omega)
      obtain ⟨⟨v3, x3⟩, f3⟩ := HM.out.cell (m * 9 + 3) (by omega)
      obtain ⟨⟨v4, x4⟩, f4⟩ := HM.out.cell (m * 9 + 4) (by omega)
      obtain ⟨⟨v5, x5⟩, f5⟩ := HM.out.cell (m * 9 + 5) (by omega)
      obtain ⟨⟨v6, x6⟩, f6⟩ := HM.out.cell (m * 9 + 6) (by omega)
      obtain ⟨⟨v7, x7⟩, f7⟩ := HM.out.cell (m * 9 + 7) (by omega)
      obtain ⟨⟨v8, x8⟩, f8⟩ := HM.out.cell (m * 9 + 8) (by omega)
      go_wp2
      have h0 := HM.out.put' (by omega) (o := m * 9) (v := 9 * (m : Int) + 1) (by omega) (by omega)
      have h1 := h0.put' (by omega) (o := m * 9 + 1) (v := 9 * (m : Int) + 1 + 1) (by omega) (by omega)
      have h2 := h1.put' (by omega) (o := m * 9 + 2) (v := 9 * (m : Int) + 1 + 1 + 1) (by omega) (by omega)
      have h3 := h2.put' (by omega) (o := m * 9 + 3) (v := 9 * (m : Int) + 1 + 1 + 1 + 1) (by omega) (by omega)
      have h4 := h3.put' (by omega) (o := m * 9 + 4) (v := 9 * (m : Int) + 1 + 1 + 1 + 1 + 1) (by omega) (by omega)
      have h5 := h4.put' (by omega) (o := m * 9 + 4 + 1) (v := 9 * (m : Int) + 1 + 1 + 1 + 1 + 1 + 1) (by omega) (by omega)
      have h6 := h5.put' (by omega) (o := m * 9 + 6) (v := 9 * (m : Int) + 1 + 1 + 1 + 1 + 1 + 1 + 1) (by omega) (by omega)
      have h7 := h6.put' (by omega) (o := m * 9 + 7) (v := 9 * (m : Int) + 1 + 1 + 1 + 1 + 1 + 1 + 1 + 1) (by omega) (by omega)
      have h8 := h7.put' (by omega) (o := m * 9 + 8) (v := 9 * (m : Int) + 1 + 1 + 1 + 1 + 1 + 1 + 1 + 1 + 1) (by omega) (by omega)
      refine ⟨⟨m + 1, by omega, ?_, ?_, ⟨?_⟩⟩, ?_⟩
      · congr 1 <;> omega
      · congr 1 <;> omega
      · rw [show 9 * (m + 1) = 9 * m + 1 + 1 + 1 + 1 + 1 + 1 + 1 + 1 + 1 by omega]; exact h8
      · show n - ((m : Int) + 1).toNat < n - ((m : Int)).toNat
        omega
    · have c0 : decide ((m : Int) < (n : Int)) = false := decide_eq_false (by omega)
      obtain rfl : m = n := by omega
      go_wp2
      go_ret
      exact ⟨rfl, HM.out⟩
end Go.Proofs.YtkbklocfdoofeaaDoor.Mk

/- The marked list of deeds is held to be marked. -/
namespace Go.Proofs.YtkbklocfdoofeaaDoor.PuH
open Go.RowKit Go.Proofs.YtkbklocfdoofeaaDoorW.PrintWords Go.Proofs.YtkbklocfdoofeaaDoor.Q Go.Proofs.YtkbklocfdoofeaaDoor.PuJ
def markD (i : Nat) : Dd := ⟨9 * (i : Int) + 1, 9 * (i : Int) + 1 + 1, 9 * (i : Int) + 1 + 1 + 1, 9 * (i : Int) + 1 + 1 + 1 + 1, ⟨9 * (i : Int) + 1 + 1 + 1 + 1 + 1, 9 * (i : Int) + 1 + 1 + 1 + 1 + 1 + 1⟩, 9 * (i : Int) + 1 + 1 + 1 + 1 + 1 + 1 + 1, 9 * (i : Int) + 1 + 1 + 1 + 1 + 1 + 1 + 1 + 1, 9 * (i : Int) + 1 + 1 + 1 + 1 + 1 + 1 + 1 + 1 + 1⟩
def markL (n : Nat) : List Dd := (List.range n).map markD
theorem markL_len (n : Nat) : (markL n).length = n := by simp [markL]
theorem markL_at (n i : Nat) (h : i < n) : rd_T41 (markL n) (i : Int) = markD i := by
  rw [rdD_at _ i (by rw [markL_len]; exact h)]; simp [markL]
theorem s1 (x : Int) (h0 : 0 ≤ x) (h1 : x ≤ 100000) : wrap64 (x + 1) = x + 1 := wrap_id (by omega) (by omega)
theorem held_loop (n : Nat) (hn : n ≤ 60) : ∀ (d k i : Nat), i + d = n → d < k → laws_heldDeedS.l0 k (markL n) (9 * (i : Int) + 1) (i : Int) = some (9 * (n : Int) + 1) := by
  intro d
  induction d with
  | zero =>
    intro k i hi hk
    obtain ⟨k, rfl⟩ : ∃ m, k = m + 1 := ⟨k - 1, by omega⟩
    simp only [laws_heldDeedS.l0, markL_len]
    rw [if_neg (by omega)]
    congr 1; omega
  | succ d ih =>
    intro k i hi hk
    obtain ⟨k, rfl⟩ : ∃ m, k = m + 1 := ⟨k - 1, by omega⟩
    have hr := markL_at n i (by omega)
    have p1 : ((i : Nat) : Int) < (n : Int) := by omega
    have p2 : (0 : Int) ≤ (i : Int) := by omega
    have e1 := s1 (9 * (i : Int) + 1) (by omega) (by omega)
    have e2 := s1 (9 * (i : Int) + 1 + 1) (by omega) (by omega)
    have e3 := s1 (9 * (i : Int) + 1 + 1 + 1) (by omega) (by omega)
    have e4 := s1 (9 * (i : Int) + 1 + 1 + 1 + 1) (by omega) (by omega)
    have e5 := s1 (9 * (i : Int) + 1 + 1 + 1 + 1 + 1) (by omega) (by omega)
    have e6 := s1 (9 * (i : Int) + 1 + 1 + 1 + 1 + 1 + 1) (by omega) (by omega)
    have e7 := s1 (9 * (i : Int) + 1 + 1 + 1 + 1 + 1 + 1 + 1) (by omega) (by omega)
    have e8 := s1 (9 * (i : Int) + 1 + 1 + 1 + 1 + 1 + 1 + 1 + 1) (by omega) (by omega)
    have e9 := s1 (9 * (i : Int) + 1 + 1 + 1 + 1 + 1 + 1 + 1 + 1 + 1) (by omega) (by omega)
    have ei := s1 (i : Int) (by omega) (by omega)
    have h := ih k (i + 1) (by omega) (by omega)
    rw [show 9 * ((i + 1 : Nat) : Int) + 1 = 9 * (i : Int) + 1 + 1 + 1 + 1 + 1 + 1 + 1 + 1 + 1 + 1 by omega, show ((i + 1 : Nat) : Int) = (i : Int) + 1 by omega] at h
    simp only [laws_heldDeedS.l0, markL_len, p1, p2, if_true, hr, markD, e1, e2, e3, e4, e5, e6, e7, e8, e9, ei, h]
theorem held_eq (n : Nat) (hn : n ≤ 60) : laws_heldDeedS.f 100 (markL n) 1 = some (9 * (n : Int) + 1) := by
  have := held_loop n hn n 100 0 (by omega) (by omega)
  simpa [laws_heldDeedS.f] using this
end Go.Proofs.YtkbklocfdoofeaaDoor.PuH

/- markDeedS on a list of the call's own: it reads as the marked list behind. -/
namespace Go.Proofs.YtkbklocfdoofeaaDoor.Ml
open Go.RowKit Go.Proofs.YtkbklocfdoofeaaDoorW.PrintWords Go.Proofs.YtkbklocfdoofeaaDoorW.PrintLast Go.Proofs.YtkbklocfdoofeaaDoorW.PrintMore Go.Proofs.YtkbklocfdoofeaaDoor.Q Go.Proofs.YtkbklocfdoofeaaDoor.PuJ Go.Proofs.YtkbklocfdoofeaaDoor.PuH Go.Proofs.YtkbklocfdoofeaaDoor.Mk
theorem mark_reads {w W : World} {g n : Nat} (h : Mk w g n (9 * n) W) (hn : n ≤ 60) : Kd.C k41 W (some ⟨g, 0, none⟩) n (markL n) := by
  refine ⟨markL_len n, by omega, fun _ => ⟨⟨g, 0, none⟩, rfl, fun j p hp => ?_⟩⟩
  obtain ⟨hj, rfl⟩ : j < n ∧ markD j = p := by
    rw [markL, List.getElem?_map] at hp
    rcases Nat.lt_or_ge j n with hj | hj
    · rw [List.getElem?_range hj] at hp; exact ⟨hj, Option.some.inj hp⟩
    · rw [List.getElem?_eq_none (by simpa using hj)] at hp; cases hp
  refine ⟨_, rfl, k41_mk W (markD j), fun i u hu => ?_⟩
  obtain ⟨cs, hb, hs, hv⟩ := h.blk
  have key : ∀ m, m < 9 * n → W.cell? ((⟨g, 0, none⟩ : Addr).add m) = some (.int .i64 ((m : Int) + 1)) := by
    intro m hm
    have ea : (⟨g, 0, none⟩ : Addr).add m = ⟨g, m, none⟩ := by
      unfold Addr.add; rw [Nat.zero_add]
      split
      · rename_i h0; rw [h0]
      · rfl
    rw [ea]
    exact (blk_cell hb m).trans (hv m hm)
  have c : ∀ (i : Nat) (x : Int), i < 9 → x = 9 * (j : Int) + (i : Int) + 1 → W.cell? ((⟨g, 0, none⟩ : Addr).add (j * 9 + i)) = some (.int .i64 x) := by
    intro i x hi hx
    rw [key (j * 9 + i) (by omega)]
    congr 2; omega
  match i, hu with
  | 0, hu => exact Option.some.inj hu ▸ c 0 _ (by omega) (by simp only [markD]; omega)
  | 1, hu => exact Option.some.inj hu ▸ c 1 _ (by omega) (by simp only [markD]; omega)
  | 2, hu => exact Option.some.inj hu ▸ c 2 _ (by omega) (by simp only [markD]; omega)
  | 3, hu => exact Option.some.inj hu ▸ c 3 _ (by omega) (by simp only [markD]; omega)
  | 4, hu => exact Option.some.inj hu ▸ c 4 _ (by omega) (by simp only [markD]; omega)
  | 5, hu => exact Option.some.inj hu ▸ c 5 _ (by omega) (by simp only [markD]; omega)
  | 6, hu => exact Option.some.inj hu ▸ c 6 _ (by omega) (by simp only [markD]; omega)
  | 7, hu => exact Option.some.inj hu ▸ c 7 _ (by omega) (by simp only [markD]; omega)
  | 8, hu => exact Option.some.inj hu ▸ c 8 _ (by omega) (by simp only [markD]; omega)
  | i + 9, hu => simp at hu
/-- markDeedS at no list at all. -/
theorem mark_nil (w : World) : Calls Tryd.prog 32 #[.slice none 0 0, .int .i64 1] w fun e w' => e = .returned (.int .i64 1) ∧ w' = w := by
  have c0 : decide ((0 : Int) < (0 : Int)) = false := rfl
  go_enter Tryd.func32, Tryd.ntmps32
  go_wp2
  go_loopw [1, 5] (fun k i wr => k = .int .i64 1 ∧ i = .int .i64 0 ∧ wr = w) (fun _ _ _ => 0)
  case atStart => exact ⟨rfl, rfl, rfl⟩
  case round =>
    obtain ⟨rfl, rfl, rfl⟩ := hrel
    go_wp2
    go_ret
    exact ⟨rfl, rfl⟩
/-- What is left of memory when an own list is marked. -/
theorem mark_R {w : World} {base : Nat} {v : Value} {xs : List Dd} (h : Kd.R k41 41 w base (fun _ => True) v xs) (hn : xs.length ≤ 60) :
    Calls Tryd.prog 32 #[v, .int .i64 1] w fun e w' => e = .returned (.int .i64 (9 * (xs.length : Int) + 1)) ∧ (∃ A c, v = .slice A xs.length c ∧ xs.length ≤ c ∧ Kd.C k41 w' A xs.length (markL xs.length)) ∧
      (∀ b, v.ownBlock ≠ some b → w'.heap[b]? = w.heap[b]?) ∧ w'.os = w.os ∧ w'.tape = w.tape ∧ w'.output = w.output ∧ w'.heap.size = w.heap.size := by
  obtain ⟨_, inner, ⟨_, ho⟩, _⟩ := h
  rcases ho with ⟨rfl, h0⟩ | ⟨g, cap, cur, rfl, hb, hc, hle, hmax, hsz, _⟩
  · refine (mark_nil w).mono ?_
    rintro e w' ⟨rfl, rfl⟩
    rw [h0]
    exact ⟨rfl, ⟨none, 0, rfl, Nat.le_refl _, rfl, by omega, fun h => absurd h (by omega)⟩, fun _ _ => rfl, rfl, rfl, rfl, rfl⟩
  · refine (mark_any g xs.length cap w cur hc (by have : cur.size = cap * 9 := hsz; omega) hn).mono ?_
    rintro e w' ⟨rfl, hM⟩
    refine ⟨by congr 2 <;> omega, ⟨_, cap, rfl, hle, mark_reads hM hn⟩, fun b hne => hM.far b (fun e => hne (by rw [e]; rfl)), hM.same⟩
end Go.Proofs.YtkbklocfdoofeaaDoor.Ml

/- The law on RecoverJournal, walked where both sides hand back the same list and length. -/
namespace Go.Proofs.YtkbklocfdoofeaaDoor.RcW
open Go.RowKit Go.Proofs.YtkbklocfdoofeaaDoorW.PrintWords Go.Proofs.YtkbklocfdoofeaaDoorW.PrintLast Go.Proofs.YtkbklocfdoofeaaDoorW.PrintMore Go.Proofs.YtkbklocfdoofeaaDoor.Q Go.Proofs.YtkbklocfdoofeaaDoor.PuJ Go.Proofs.YtkbklocfdoofeaaDoor.PuH Go.Proofs.YtkbklocfdoofeaaDoor.Mk Go.Proofs.YtkbklocfdoofeaaDoor.Ml
set_option linter.unusedVariables false
set_option linter.unusedSimpArgs false
theorem step_drewN {w W W' : World} {n : Nat} (h : Below w.heap.size w W) (hb : Below (W.drewN n).heap.size (W.drewN n) W') : Below w.heap.size w W' := below_step (pw_below_drewN h n) hb
theorem held_any {B : Option Addr} {cB n : Nat} {W : World} (hn : n ≤ 60) (hM : Kd.C k41 W B (markL n).length (markL n)) (hc : n ≤ cB) :
    Calls Tryd.prog 33 #[.slice B n cB, .int .i64 1] W fun e w' => e = .returned (.int .i64 (9 * (n : Int) + 1)) ∧ Drawn0 W w' := by
  have := laws_heldDeedS.calls 100 B cB (markL n) 1 _ W hM (by rw [markL_len]; exact hc) (held_eq n hn)
  rw [markL_len] at this
  exact this
theorem mark_below {w1 w3 w4 : World} {v : Value} {xs : List Dd} (hR : Kd.R k41 41 w3 w1.heap.size (fun _ => True) v xs) (hb : Below w1.heap.size w1 w3) (hf : ∀ b, v.ownBlock ≠ some b → w4.heap[b]? = w3.heap[b]?)
    (hs : w4.os = w3.os ∧ w4.tape = w3.tape ∧ w4.output = w3.output ∧ w4.heap.size = w3.heap.size) : Below w1.heap.size w1 w4 := by
  obtain ⟨b1, b2, b3, b4, b5⟩ := hb
  obtain ⟨_, inner, ho, _⟩ := hR
  refine ⟨hs.1.trans b1, hs.2.1.trans b2, hs.2.2.1.trans b3, by rw [hs.2.2.2]; exact b4, fun j hj => (hf j fun e => ?_).trans (b5 j hj)⟩
  have := own_base ho j e
  omega
set_option maxRecDepth 100000 in
set_option maxHeartbeats 2000000 in
theorem walk (a0 : ByteArray) (k k2 : Nat) (xs : List Dd) (z : Int) (b : Bool) (h1 : spec_RecoverJournal.f k a0 = some (xs, z, b)) (h2 : impl_RecoverJournal.f k2 a0 = some (xs, z, b)) (h60 : xs.length ≤ 60) (hs : ¬ (a0.size : Int) > 1048576) (w : World) (hT : Tb.TC w) :
    Calls Tryd.prog 8 #[.string a0] w fun e w' => e = .returned (.bool true) ∧ Below w.heap.size w w' := by
  have HT := Aside0.mk hT
  have H1 := Aside0.mk h1
  have H2 := Aside0.mk h2
  have H3 := Aside0.mk (eqDeedS_eq xs (by omega) 100 (by omega))
  have H60 := Aside0.mk h60
  have hb0 : (b != b) = false := bne_self_eq_false b
  have hz0 : (z != z) = false := bne_self_eq_false z
  have hz1 : decide (z = z) = true := decide_eq_true rfl
  have c2b0 : decide (1048576 < (a0.size : Int)) = false := decide_eq_false hs
  have c2b1 : decide (1048576 < a0.size) = false := decide_eq_false (by omega)
  have c3 : decide (9 * (xs.length : Int) + 1 < 0) = false := decide_eq_false (by omega)
  clear hs hT h1 h2 h60
  have F1 : True := trivial
  have F2 : True := trivial
  have F3 : True := trivial
  go_enter Tryd.func8, Tryd.ntmps8
  go_wp2_with (first
    | (go_at_call 30; refine (spec_RecoverJournal.calls k a0 xs z b _ H1.out).mono ?_; rintro e w1 ⟨v, rfl, hR, hb⟩; obtain ⟨A, cA, rfl, hcA, hC⟩ := Kd.R_reads hR; have HC := Aside0.mk hC; have HcA := Aside0.mk hcA; have HB := Aside0.mk hb; clear hb hR hC hcA)
    | (go_at_call 31; clear F1; refine (impl_RecoverJournal.calls k2 a0 xs z b _ (Tb.TC.below HT.out HB.out) H2.out).mono ?_; rintro e w2 ⟨v, rfl, hR, hb⟩; have HR := Aside0.mk hR; obtain ⟨B, cB, rfl, hcB, hCB⟩ := Kd.R_reads hR; have HCB := Aside0.mk hCB; have HcB := Aside0.mk hcB; have HB1 := Aside0.mk hb; clear hb hR hCB hcB)
    | (go_at_call 22; clear F2; refine (laws_eqDeedS.calls 100 B cB xs A cA xs true _ HCB.out HcB.out (Kd.C_below HC.out HB1.out) HcA.out H3.out).mono ?_; rintro e w3 ⟨rfl, hb⟩; have HR3 := Aside0.mk (Kd.R_below HR.out hb); have HB3 := Aside0.mk (below_step HB1.out hb); clear hb)
    | (go_at_call 32; refine (mark_R HR3.out H60.out).mono ?_; rintro e w4 ⟨rfl, ⟨B', cB', eB, hcB', hCM⟩, hf, hs⟩; obtain ⟨rfl, rfl⟩ : B = B' ∧ cB = cB' := by injection eB with x1 x2 x3; exact ⟨x1, x3⟩
       have HB4 := Aside0.mk (mark_below HR3.out HB3.out hf hs); have HM := Aside0.mk (show Kd.C k41 w4 B (markL xs.length).length (markL xs.length) from (markL_len xs.length).symm ▸ hCM); have HW4 := Aside0.mk (below_step HB.out HB4.out); clear hf hs hCM eB hcB')
    | (go_at_call 33; clear F3; refine (held_any (W := w4) H60.out HM.out HcB.out).mono ?_; rintro e w5 ⟨rfl, nd, rfl⟩)
    | (go_at_call 31; refine (impl_RecoverJournal.calls k2 a0 xs z b _ (Tb.TC.below HT.out (pw_below_drewN HW4.out nd)) H2.out).mono ?_; rintro e w6 ⟨v, rfl, hR, hb⟩; obtain ⟨D, cD, rfl, hcD, hCD⟩ := Kd.R_reads hR
       have HCD := Aside0.mk hCD; have HcD := Aside0.mk hcD; have HB6 := Aside0.mk (step_drewN HB4.out hb); have HW6 := Aside0.mk (step_drewN HW4.out hb); have HM5 : Below w4.heap.size w4 w6 := step_drewN (Below.refl w4.heap.size w4) hb; have HM6 := Aside0.mk (Kd.C_below HM.out HM5); clear HM5; clear hb hR hCD hcD)
    | (go_at_call 22; refine (laws_eqDeedS.calls 100 D cD xs A cA xs true _ HCD.out HcD.out (Kd.C_below HC.out HB6.out) HcA.out H3.out).mono ?_; rintro e w7 ⟨rfl, hb⟩; have HM7 := Aside0.mk (Kd.C_below HM6.out hb); have HW7 := Aside0.mk (below_step HW6.out hb); clear hb)
    | (go_at_call 33; refine (held_any (W := w7) H60.out HM7.out HcB.out).mono ?_; rintro e w8 ⟨rfl, nd2, rfl⟩))
  go_ret
  exact ⟨rfl, pw_below_drewN HW7.out nd2⟩
set_option maxRecDepth 100000 in
theorem calls (a0 : ByteArray) (w : World) (hT : Tb.TC w) : Calls Tryd.prog 8 #[.string a0] w fun e w' => e = .returned (.bool true) ∧ Below w.heap.size w w' := by
  by_cases hs : (a0.size : Int) > 1048576
  · have c2b0 : decide (1048576 < (a0.size : Int)) = true := decide_eq_true hs
    have c2b1 : decide (1048576 < a0.size) = true := decide_eq_true (by omega)
    clear hs
    go_enter Tryd.func8, Tryd.ntmps8
    go_wp2
    go_ret
    exact ⟨rfl, Below.refl _ _⟩
  · exact walk a0 20000 20000 _ _ _ (PuRj.spec_rc a0) (PuRj.impl_rc a0) (PuRj.rcJ_len a0) hs w hT
end Go.Proofs.YtkbklocfdoofeaaDoor.RcW

