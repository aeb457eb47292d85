/- Parts of the proof that the law of this seat holds: Q6, Hf, Dw, Pe, Pf, Q109, Q121, Pg, Dg. -/
import Derived.Test.YtkafbmanmffliaaGLpa
import Derived.Test.YtkafbmanmffliaaGLpn
import Derived.Test.YtkafbmanmffliaaGLph
import Derived.Test.YtkafbmanmffliaaGLpk
import Derived.Deep.RegionLaw
import Derived.Lib.EndianBits
import Derived.Laws.BitsLemmas
import Derived.Test.YtkafbmanmffliaaGLpm
import Derived.Test.YtkafbmanmffliaaGLpl
import Derived.Deep.CutRange
import Derived.Deep.DeepCutAuto
set_option linter.unusedVariables false
set_option linter.unusedSimpArgs false
namespace Go.Proofs.Ytkafbmanmffliaa.Q
open Go.RowKit Go.Proofs.YtkafbmanmffliaaW.PrintWords Go.Proofs.YtkafbmanmffliaaW.PrintLast Go.Proofs.YtkafbmanmffliaaW.PrintMore
attribute [local go_sem] max2_int min2_int max_two min_two max_three min_three max_four min_four   -- for this text's walks alone
/-! ### spec_l10DrawSight: function 123 -/
def spec_l10DrawSight.f (s0_0 : List Int) (s0_1 : Int) (s0_2 : Int) (a1 : Int) (l2 : List Int) : Option (Int × Int × Int × Int × Int × Int) := (spec_l00Src_pick.f s0_0 s0_1 s0_2 a1).bind fun bt113 => ((spec_l00Src_pick.f s0_0 bt113.2.1 bt113.2.2 (wrap64 (a1 - 1))).bind fun bt117 => (if a1 = 0 then (none) else ((spec_l00Src_pick.f s0_0 bt117.2.1 bt117.2.2 3).bind fun bt120 => (if 0 ≤ (Int.tmod (wrap64 ((wrap64 (bt113.1 + 1)) + bt117.1)) a1) then (if (Int.tmod (wrap64 ((wrap64 (bt113.1 + 1)) + bt117.1)) a1) < (l2.length : Int) then (if 0 ≤ bt113.1 then (if bt113.1 < (l2.length : Int) then (some (bt113.1, Int.tmod (wrap64 ((wrap64 (bt113.1 + 1)) + bt117.1)) a1, wrap64 ((rd l2 (Int.tmod (wrap64 ((wrap64 (bt113.1 + 1)) + bt117.1)) a1)) - (rd l2 bt113.1)), wrap64 (1 + bt120.1), bt120.2.1, bt120.2.2)) else (none)) else (none)) else (none)) else (none)))))
def spec_l10DrawSight.T2 : Bool × List (List Nat × List Nat) := (true, [([], []), ([0], [0]), ([1], [1]), ([], []), ([], []), ([4], [4]), ([3, 5], [3, 5]), ([2, 6], [2, 6]), ([], []), ([7, 8], [7, 8]), ([0, 1, 2, 3, 4, 5, 6, 7, 8, 9], []), ([10, 9, 6, 0, 1, 2, 3, 4, 5, 6, 7, 8, 9], [9, 10])])
def spec_l10DrawSight.B2 : List Nat := [0, 1, 3, 0, 0, 16, 56, 127, 0, 511, 1023, 2047]
theorem spec_l10DrawSight.tab2 : rtab .any (opsOf Try.f123 2) = spec_l10DrawSight.T2 := by kernel_rfl
theorem spec_l10DrawSight.bits2 : waitsOk spec_l10DrawSight.T2.2 spec_l10DrawSight.B2 = true := by kernel_rfl
def spec_l10DrawSight.T4 : Bool × List (List Nat × List Nat) := (true, [([], []), ([], []), ([1], [1]), ([0, 2], [0, 2]), ([3], [3]), ([], []), ([], []), ([6], [6]), ([5, 7], [5, 7]), ([8], [8]), ([4, 9], [4, 9]), ([0, 1, 2, 3, 4, 5, 6, 7, 8, 9, 10], []), ([11, 10, 0, 1, 2, 3, 4, 5, 6, 7, 8, 9, 10], [10, 11])])
def spec_l10DrawSight.B4 : List Nat := [0, 0, 2, 7, 15, 0, 0, 64, 224, 480, 1023, 2047, 4095]
theorem spec_l10DrawSight.tab4 : rtab .any (opsOf Try.f123 4) = spec_l10DrawSight.T4 := by kernel_rfl
theorem spec_l10DrawSight.bits4 : waitsOk spec_l10DrawSight.T4.2 spec_l10DrawSight.B4 = true := by kernel_rfl
set_option maxHeartbeats 8000000 in
set_option maxRecDepth 100000 in
theorem spec_l10DrawSight.calls (g : Nat) (s0_0 : List Int) (s0_1 : Int) (s0_2 : Int) (a1 : Int) (A2 : Option Addr) (c2 : Nat) (l2 : List Int) (r1 : Int) (r2 : Int) (r3 : Int) (r4 : Int) (r5 : Int) (r6 : Int) (w0 w : World) (hI : IsS102 w0 w g s0_0 s0_1 s0_2) (hB : Below w0.heap.size w0 w) (hr2 : Kd.C (Kd.int .i64) w A2 l2.length l2) (hc2 : l2.length ≤ c2) (hf2 : ∀ ad, A2 = some ad → 0 < l2.length → ad.block ≠ g) (h : spec_l10DrawSight.f s0_0 s0_1 s0_2 a1 l2 = some (r1, r2, r3, r4, r5, r6)) :
    Calls Try.prog 123 #[.pointer (some ⟨g, 0, none⟩), .int .i64 a1, .slice A2 l2.length c2] w fun e w' => e = .returned (.agg #[.int .i64 r1, .int .i64 r2, .int .i64 r3, .int .i64 r4]) ∧ IsS102 w0 w' g s0_0 r5 r6 ∧ Below w0.heap.size w0 w' ∧ KeepBut w w' g none := by
  have hu32 := Try.underlying32
  have HR2 := Aside0.mk hr2
  have HC2 := Aside0.mk hc2
  clear hr2 hc2
  have HI0 := Aside0.mk hI
  have HK := Aside0.mk (KeepBut.refl w g none)
  have HL := Aside0.mk hB.size
  clear hI
  have HW0 := Aside0.mk hB.size
  have HB := Aside0.mk hB
  clear hB
  have H : ((spec_l00Src_pick.f s0_0 s0_1 s0_2 a1).bind fun bt113 => ((spec_l00Src_pick.f s0_0 bt113.2.1 bt113.2.2 (wrap64 (a1 - 1))).bind fun bt117 => (if a1 = 0 then (none) else ((spec_l00Src_pick.f s0_0 bt117.2.1 bt117.2.2 3).bind fun bt120 => (if 0 ≤ (Int.tmod (wrap64 ((wrap64 (bt113.1 + 1)) + bt117.1)) a1) then (if (Int.tmod (wrap64 ((wrap64 (bt113.1 + 1)) + bt117.1)) a1) < (l2.length : Int) then (if 0 ≤ bt113.1 then (if bt113.1 < (l2.length : Int) then (some (bt113.1, Int.tmod (wrap64 ((wrap64 (bt113.1 + 1)) + bt117.1)) a1, wrap64 ((rd l2 (Int.tmod (wrap64 ((wrap64 (bt113.1 + 1)) + bt117.1)) a1)) - (rd l2 bt113.1)), wrap64 (1 + bt120.1), bt120.2.1, bt120.2.2)) else (none)) else (none)) else (none)) else (none)))))) = some (r1, r2, r3, r4, r5, r6) := h
  clear h
  replace H := Option.bind_eq_some_iff.mp H
  obtain ⟨⟨t113, t114, t115⟩, A40, H⟩ := H
  replace H : ((spec_l00Src_pick.f s0_0 t114 t115 (wrap64 (a1 - 1))).bind fun bt117 => (if a1 = 0 then (none) else ((spec_l00Src_pick.f s0_0 bt117.2.1 bt117.2.2 3).bind fun bt120 => (if 0 ≤ (Int.tmod (wrap64 ((wrap64 (t113 + 1)) + bt117.1)) a1) then (if (Int.tmod (wrap64 ((wrap64 (t113 + 1)) + bt117.1)) a1) < (l2.length : Int) then (if 0 ≤ t113 then (if t113 < (l2.length : Int) then (some (t113, Int.tmod (wrap64 ((wrap64 (t113 + 1)) + bt117.1)) a1, wrap64 ((rd l2 (Int.tmod (wrap64 ((wrap64 (t113 + 1)) + bt117.1)) a1)) - (rd l2 t113)), wrap64 (1 + bt120.1), bt120.2.1, bt120.2.2)) else (none)) else (none)) else (none)) else (none))))) = some (r1, r2, r3, r4, r5, r6) := H
  have A4 := Aside0.mk A40
  clear A40
  replace H := Option.bind_eq_some_iff.mp H
  obtain ⟨⟨t117, t118, t119⟩, A50, H⟩ := H
  replace H : (if a1 = 0 then (none) else ((spec_l00Src_pick.f s0_0 t118 t119 3).bind fun bt120 => (if 0 ≤ (Int.tmod (wrap64 ((wrap64 (t113 + 1)) + t117)) a1) then (if (Int.tmod (wrap64 ((wrap64 (t113 + 1)) + t117)) a1) < (l2.length : Int) then (if 0 ≤ t113 then (if t113 < (l2.length : Int) then (some (t113, Int.tmod (wrap64 ((wrap64 (t113 + 1)) + t117)) a1, wrap64 ((rd l2 (Int.tmod (wrap64 ((wrap64 (t113 + 1)) + t117)) a1)) - (rd l2 t113)), wrap64 (1 + bt120.1), bt120.2.1, bt120.2.2)) else (none)) else (none)) else (none)) else (none)))) = some (r1, r2, r3, r4, r5, r6) := H
  have A5 := Aside0.mk A50
  clear A50
  by_cases c6 : a1 = 0
  · rw [if_pos c6] at H
    exact absurd H (by simp)
  · rw [if_neg c6] at H
    have c6b0 : (a1 == 0) = false := beq_eq_false_iff_ne.mpr c6
    have c6b1 : (a1 != 0) = true := bne_iff_ne.mpr c6
    replace H := Option.bind_eq_some_iff.mp H
    obtain ⟨⟨t120, t121, t122⟩, A70, H⟩ := H
    replace H : (if 0 ≤ (Int.tmod (wrap64 ((wrap64 (t113 + 1)) + t117)) a1) then (if (Int.tmod (wrap64 ((wrap64 (t113 + 1)) + t117)) a1) < (l2.length : Int) then (if 0 ≤ t113 then (if t113 < (l2.length : Int) then (some (t113, Int.tmod (wrap64 ((wrap64 (t113 + 1)) + t117)) a1, wrap64 ((rd l2 (Int.tmod (wrap64 ((wrap64 (t113 + 1)) + t117)) a1)) - (rd l2 t113)), wrap64 (1 + t120), t121, t122)) else (none)) else (none)) else (none)) else (none)) = some (r1, r2, r3, r4, r5, r6) := H
    have A7 := Aside0.mk A70
    clear A70
    obtain ⟨ji8, hji8⟩ : ∃ j_ : Int, (Int.tmod (wrap64 ((wrap64 (t113 + 1)) + t117)) a1) = j_ := ⟨_, rfl⟩
    replace H : (if 0 ≤ (ji8) then (if (ji8) < (l2.length : Int) then (if 0 ≤ t113 then (if t113 < (l2.length : Int) then (some (t113, ji8, wrap64 ((rd l2 (ji8)) - (rd l2 t113)), wrap64 (1 + t120), t121, t122)) else (none)) else (none)) else (none)) else (none)) = some (r1, r2, r3, r4, r5, r6) := by first | (rw [hji8] at H; exact H) | (simp only [hji8] at H ⊢; exact H)
    (try rw [hji8] at A4)
    (try rw [hji8] at A5)
    (try rw [hji8] at A7)
    by_cases c9 : 0 ≤ (ji8)
    · rw [if_pos c9] at H
      have c9b0 : decide (0 ≤ (ji8)) = true := decide_eq_true c9
      clear c9
      by_cases c10 : (ji8) < (l2.length : Int)
      · rw [if_pos c10] at H
        have c10b0 : decide ((ji8) < (l2.length : Int)) = true := decide_eq_true c10
        clear c10
        by_cases c11 : 0 ≤ t113
        · rw [if_pos c11] at H
          have c11b0 : decide (0 ≤ t113) = true := decide_eq_true c11
          clear c11
          by_cases c12 : t113 < (l2.length : Int)
          · rw [if_pos c12] at H
            have c12b0 : decide (t113 < (l2.length : Int)) = true := decide_eq_true c12
            clear c12
            simp only [Option.some.injEq, Prod.mk.injEq] at H
            obtain ⟨rfl, rfl, rfl, rfl, rfl, rfl⟩ := H
            go_enter Try.func123, Try.ntmps123
            try go_wp2_with (first | ((with_reducible refine gate_dst (N := 6) rfl ?_); refine box_event ?hg (N := 6) ?hd (cs := #[.int .i64 0, .int .i64 0, .int .i64 0, .int .i64 0]) (t := 32) ?hr ?_; (case hd => rfl); (case hg => rfl); (case hr => first | (go_simp; done) | (go_simp; rfl)); intro gb112 hg w13 hbox hb; have n0_ := Aside0.mk (IsS102.below (by repeat (first | (with_reducible first | exact HI0.out | apply IsS102.alloc | apply IsS102.drewN | apply IsS102.drew | apply IsS102.set_1 | apply IsS102.set_2) | exact HI0.out)) hb); have n1_ := Aside0.mk (KeepBut.trans (by repeat (first | (with_reducible first | exact HK.out | apply KeepBut.set_ | apply keep_drewN | apply keep_drew | apply keep_alloc) | exact HK.out)) (KeepBut.of_below hb g none) (.inl rfl)); have n2_ := Aside0.mk (below_step (by repeat (first | (with_reducible first | exact HB.out | apply below_alloc | apply pw_below_drewN | apply below_drew1 | refine below_set ?_ (IsS102.ge HI0.out)) | exact HB.out)) hb); have n3_ := Aside0.mk (hbox); have n4_ := Aside0.mk ((by rw [hg]; exact (keep_size (w := w) (g := g) (row := none) (by repeat (first | (with_reducible first | exact HK.out | apply KeepBut.set_ | apply keep_drewN | apply keep_drew | apply keep_alloc) | exact HK.out))) : w.heap.size ≤ gb112)); have n5_ := Aside0.mk ((Nat.le_trans HW0.out (by rw [hg]; exact (keep_size (w := w) (g := g) (row := none) (by repeat (first | (with_reducible first | exact HK.out | apply KeepBut.set_ | apply keep_drewN | apply keep_drew | apply keep_alloc) | exact HK.out))) : w.heap.size ≤ gb112) : w0.heap.size ≤ gb112)); have n6_ := Aside0.mk ((by rw [hg]; exact Nat.ne_of_lt (IsS102.lt (show IsS102 w0 _ g s0_0 s0_1 s0_2 from by repeat (first | (with_reducible first | exact HI0.out | apply IsS102.alloc | apply IsS102.drewN | apply IsS102.drew | apply IsS102.set_1 | apply IsS102.set_2) | exact HI0.out))) : g ≠ gb112)); have n7_ := Aside0.mk ((by rw [hg]; exact Nat.ne_of_gt (IsS102.lt (show IsS102 w0 _ g s0_0 s0_1 s0_2 from by repeat (first | (with_reducible first | exact HI0.out | apply IsS102.alloc | apply IsS102.drewN | apply IsS102.drew | apply IsS102.set_1 | apply IsS102.set_2) | exact HI0.out))) : gb112 ≠ g)); clear HI0; clear HK; clear HB; have HI0 := n0_; have HK := n1_; have HB := n2_; have BK112 := n3_; have GW112 := n4_; have GE112 := n5_; have NB0_112 := n6_; have NB112_0 := n7_; clear n0_ n1_ n2_ n3_ n4_ n5_ n6_ n7_; clear hb hbox hg) | ((with_reducible refine gate_callee (f := 97) rfl ?_); refine goesL_ (some 10) rfl rfl Try.func97 (by kernel_rfl) rfl #[.pointer (some ⟨g, 0, none⟩), .int .i64 a1] rfl (by (try simp only [List.map_toArray, List.map_cons, List.map_nil]); first | done | rfl | (simp only [List.length_drop, List.length_take]; rfl)) ?_; (with_reducible refine (spec_l00Src_pick.calls g s0_0 s0_1 s0_2 a1 t113 t114 t115 w0 _ ?side1 ?side2 A4.out).mono ?_); (case side1 => repeat (first | (with_reducible first | exact HI0.out | apply IsS102.alloc | apply IsS102.drewN | apply IsS102.drew | apply IsS102.set_1 | apply IsS102.set_2 | refine IsS102.far ?_ NB0_112.out _) | exact HI0.out)); (case side2 => repeat (first | (with_reducible first | exact HB.out | apply below_alloc | apply pw_below_drewN | apply below_drew1 | refine below_set ?_ (IsS102.ge HI0.out) | refine below_set ?_ GE112.out) | exact HB.out)); rintro e w14 ⟨rfl, hi, hb, hk⟩; refine ⟨_, rfl, ?_⟩; have n0_ := Aside0.mk (KeepBut.blk hk (g' := gb112) (o := .cells #[.int .i64 0, .int .i64 0, .int .i64 0, .int .i64 0] 32 (0, 0)) (by (with_reducible repeat (first | refine blk_drewN ?_ _ | refine blk_drew ?_ | refine blk_alloc ?_ _)); exact BK112.out) NB112_0.out (by simp)); have n1_ := Aside0.mk (KeepBut.trans (by repeat (first | (with_reducible first | exact HK.out | apply KeepBut.set_ | apply keep_drewN | apply keep_drew | apply keep_alloc | refine keep_far ?_ GW112.out _) | exact HK.out)) hk (.inl rfl)); have n2_ := Aside0.mk (hb); have n3_ := Aside0.mk (hi); clear BK112; clear HK; clear HB; clear HI0; have BK112 := n0_; have HK := n1_; have HB := n2_; have HI0 := n3_; clear n0_ n1_ n2_ n3_; (try clear hb); (try clear hb2); (try clear hk); (try clear hi)) | ((with_reducible refine gate_dst (N := 7) rfl ?_); refine box_event ?hg (N := 7) ?hd (cs := #[.int .i64 0, .int .i64 0, .int .i64 0, .int .i64 0]) (t := 32) ?hr ?_; (case hd => rfl); (case hg => rfl); (case hr => first | (go_simp; done) | (go_simp; rfl)); intro gb116 hg w15 hbox hb; have n0_ := Aside0.mk (IsS102.below (by repeat (first | (with_reducible first | exact HI0.out | apply IsS102.alloc | apply IsS102.drewN | apply IsS102.drew | apply IsS102.set_1 | apply IsS102.set_2 | refine IsS102.far ?_ NB0_112.out _) | exact HI0.out)) hb); have n1_ := Aside0.mk (blk_below (g := gb112) (o := .cells #[.int .i64 0, .int .i64 0, .int .i64 0, .int .i64 0] 32 (0, 0)) (by (with_reducible repeat (first | refine blk_drewN ?_ _ | refine blk_drew ?_ | refine blk_alloc ?_ _)); exact BK112.out) hb); have n2_ := Aside0.mk (KeepBut.trans (by repeat (first | (with_reducible first | exact HK.out | apply KeepBut.set_ | apply keep_drewN | apply keep_drew | apply keep_alloc | refine keep_far ?_ GW112.out _) | exact HK.out)) (KeepBut.of_below hb g none) (.inl rfl)); have n3_ := Aside0.mk (below_step (by repeat (first | (with_reducible first | exact HB.out | apply below_alloc | apply pw_below_drewN | apply below_drew1 | refine below_set ?_ (IsS102.ge HI0.out) | refine below_set ?_ GE112.out) | exact HB.out)) hb); have n4_ := Aside0.mk (hbox); have n5_ := Aside0.mk ((by rw [hg]; exact (keep_size (w := w) (g := g) (row := none) (by repeat (first | (with_reducible first | exact HK.out | apply KeepBut.set_ | apply keep_drewN | apply keep_drew | apply keep_alloc | refine keep_far ?_ GW112.out _) | exact HK.out))) : w.heap.size ≤ gb116)); have n6_ := Aside0.mk ((Nat.le_trans HW0.out (by rw [hg]; exact (keep_size (w := w) (g := g) (row := none) (by repeat (first | (with_reducible first | exact HK.out | apply KeepBut.set_ | apply keep_drewN | apply keep_drew | apply keep_alloc | refine keep_far ?_ GW112.out _) | exact HK.out))) : w.heap.size ≤ gb116) : w0.heap.size ≤ gb116)); have n7_ := Aside0.mk ((by rw [hg]; exact Nat.ne_of_lt (blk_lt (g := gb112) (o := .cells #[.int .i64 0, .int .i64 0, .int .i64 0, .int .i64 0] 32 (0, 0)) (by (with_reducible repeat (first | refine blk_drewN ?_ _ | refine blk_drew ?_ | refine blk_alloc ?_ _)); exact BK112.out)) : gb112 ≠ gb116)); have n8_ := Aside0.mk ((by rw [hg]; exact Nat.ne_of_gt (blk_lt (g := gb112) (o := .cells #[.int .i64 0, .int .i64 0, .int .i64 0, .int .i64 0] 32 (0, 0)) (by (with_reducible repeat (first | refine blk_drewN ?_ _ | refine blk_drew ?_ | refine blk_alloc ?_ _)); exact BK112.out)) : gb116 ≠ gb112)); have n9_ := Aside0.mk ((by rw [hg]; exact Nat.ne_of_lt (IsS102.lt (show IsS102 w0 _ g s0_0 t114 t115 from by repeat (first | (with_reducible first | exact HI0.out | apply IsS102.alloc | apply IsS102.drewN | apply IsS102.drew | apply IsS102.set_1 | apply IsS102.set_2 | refine IsS102.far ?_ NB0_112.out _) | exact HI0.out))) : g ≠ gb116)); have n10_ := Aside0.mk ((by rw [hg]; exact Nat.ne_of_gt (IsS102.lt (show IsS102 w0 _ g s0_0 t114 t115 from by repeat (first | (with_reducible first | exact HI0.out | apply IsS102.alloc | apply IsS102.drewN | apply IsS102.drew | apply IsS102.set_1 | apply IsS102.set_2 | refine IsS102.far ?_ NB0_112.out _) | exact HI0.out))) : gb116 ≠ g)); clear HI0; clear BK112; clear HK; clear HB; have HI0 := n0_; have BK112 := n1_; have HK := n2_; have HB := n3_; have BK116 := n4_; have GW116 := n5_; have GE116 := n6_; have NB112_116 := n7_; have NB116_112 := n8_; have NB0_116 := n9_; have NB116_0 := n10_; clear n0_ n1_ n2_ n3_ n4_ n5_ n6_ n7_ n8_ n9_ n10_; clear hb hbox hg; have hnb16 := NB116_112.out; have hnc16 := NB112_116.out; have hnb17 := NB116_0.out; have hnc17 := NB0_116.out; have hcz18_0 : w15.cell? ⟨gb116, 0, none⟩ = some (.int .i64 0) := (blk_cell BK116.out 0).trans rfl; have hcz18_1 : w15.cell? ⟨gb116, 1, none⟩ = some (.int .i64 0) := (blk_cell BK116.out 1).trans rfl; have hcz18_2 : w15.cell? ⟨gb116, 2, none⟩ = some (.int .i64 0) := (blk_cell BK116.out 2).trans rfl; have hcz18_3 : w15.cell? ⟨gb116, 3, none⟩ = some (.int .i64 0) := (blk_cell BK116.out 3).trans rfl; have hfz18_0 := blk_frozen BK116.out 0; have hfz18_1 := blk_frozen BK116.out 1; have hfz18_2 := blk_frozen BK116.out 2; have hfz18_3 := blk_frozen BK116.out 3))
            have n0_ : Aside0 (((((w15.setCell ⟨gb116, 0, none⟩ (.int .i64 t113)).setCell ⟨gb116, 1, none⟩ (.int .i64 0)).setCell ⟨gb116, 2, none⟩ (.int .i64 0)).setCell ⟨gb116, 3, none⟩ (.int .i64 0)).heap[gb112]? = some (.cells #[.int .i64 0, .int .i64 0, .int .i64 0, .int .i64 0] 32 (0, 0))) := ⟨by (with_reducible repeat (first | refine blk_drewN ?_ _ | refine blk_drew ?_ | refine blk_alloc ?_ _)); refine blk_far ?_ NB112_116.out _; (with_reducible repeat (first | refine blk_drewN ?_ _ | refine blk_drew ?_ | refine blk_alloc ?_ _)); refine blk_far ?_ NB112_116.out _; (with_reducible repeat (first | refine blk_drewN ?_ _ | refine blk_drew ?_ | refine blk_alloc ?_ _)); refine blk_far ?_ NB112_116.out _; (with_reducible repeat (first | refine blk_drewN ?_ _ | refine blk_drew ?_ | refine blk_alloc ?_ _)); refine blk_far ?_ NB112_116.out _; (with_reducible repeat (first | refine blk_drewN ?_ _ | refine blk_drew ?_ | refine blk_alloc ?_ _)); exact BK112.out⟩
            have n1_ : Aside0 (((((w15.setCell ⟨gb116, 0, none⟩ (.int .i64 t113)).setCell ⟨gb116, 1, none⟩ (.int .i64 0)).setCell ⟨gb116, 2, none⟩ (.int .i64 0)).setCell ⟨gb116, 3, none⟩ (.int .i64 0)).heap[gb116]? = some (.cells #[.int .i64 t113, .int .i64 0, .int .i64 0, .int .i64 0] 32 (0, 0))) := ⟨by (with_reducible repeat (first | refine blk_drewN ?_ _ | refine blk_drew ?_ | refine blk_alloc ?_ _)); refine blk_put (cs := #[.int .i64 t113, .int .i64 0, .int .i64 0, .int .i64 0]) ?_ 3 _ rfl; (with_reducible repeat (first | refine blk_drewN ?_ _ | refine blk_drew ?_ | refine blk_alloc ?_ _)); refine blk_put (cs := #[.int .i64 t113, .int .i64 0, .int .i64 0, .int .i64 0]) ?_ 2 _ rfl; (with_reducible repeat (first | refine blk_drewN ?_ _ | refine blk_drew ?_ | refine blk_alloc ?_ _)); refine blk_put (cs := #[.int .i64 t113, .int .i64 0, .int .i64 0, .int .i64 0]) ?_ 1 _ rfl; (with_reducible repeat (first | refine blk_drewN ?_ _ | refine blk_drew ?_ | refine blk_alloc ?_ _)); refine blk_put (cs := #[.int .i64 0, .int .i64 0, .int .i64 0, .int .i64 0]) ?_ 0 _ rfl; (with_reducible repeat (first | refine blk_drewN ?_ _ | refine blk_drew ?_ | refine blk_alloc ?_ _)); exact BK116.out⟩
            have n2_ : Aside0 (IsS102 w0 ((((w15.setCell ⟨gb116, 0, none⟩ (.int .i64 t113)).setCell ⟨gb116, 1, none⟩ (.int .i64 0)).setCell ⟨gb116, 2, none⟩ (.int .i64 0)).setCell ⟨gb116, 3, none⟩ (.int .i64 0)) g s0_0 t114 t115) := ⟨by repeat (first | (with_reducible first | exact HI0.out | apply IsS102.alloc | apply IsS102.drewN | apply IsS102.drew | apply IsS102.set_1 | apply IsS102.set_2 | refine IsS102.far ?_ NB0_112.out _ | refine IsS102.far ?_ NB0_116.out _) | exact HI0.out)⟩
            have n3_ : Aside0 (KeepBut w ((((w15.setCell ⟨gb116, 0, none⟩ (.int .i64 t113)).setCell ⟨gb116, 1, none⟩ (.int .i64 0)).setCell ⟨gb116, 2, none⟩ (.int .i64 0)).setCell ⟨gb116, 3, none⟩ (.int .i64 0)) g none) := ⟨by repeat (first | (with_reducible first | exact HK.out | apply KeepBut.set_ | apply keep_drewN | apply keep_drew | apply keep_alloc | refine keep_far ?_ GW112.out _ | refine keep_far ?_ GW116.out _) | exact HK.out)⟩
            have n4_ : Aside0 (Below w0.heap.size w0 ((((w15.setCell ⟨gb116, 0, none⟩ (.int .i64 t113)).setCell ⟨gb116, 1, none⟩ (.int .i64 0)).setCell ⟨gb116, 2, none⟩ (.int .i64 0)).setCell ⟨gb116, 3, none⟩ (.int .i64 0))) := ⟨by repeat (first | (with_reducible first | exact HB.out | apply below_alloc | apply pw_below_drewN | apply below_drew1 | refine below_set ?_ (IsS102.ge HI0.out) | refine below_set ?_ GE112.out | refine below_set ?_ GE116.out) | exact HB.out)⟩
            (try clear BK112)
            (try clear BK116)
            (try clear HI0)
            (try clear HK)
            (try clear HB)
            generalize ((((w15.setCell ⟨gb116, 0, none⟩ (.int .i64 t113)).setCell ⟨gb116, 1, none⟩ (.int .i64 0)).setCell ⟨gb116, 2, none⟩ (.int .i64 0)).setCell ⟨gb116, 3, none⟩ (.int .i64 0)) = w19 at n0_ n1_ n2_ n3_ n4_ ⊢
            have BK112 := n0_
            have BK116 := n1_
            have HI0 := n2_
            have HK := n3_
            have HB := n4_
            clear n0_ n1_ n2_ n3_ n4_
            have n0_ := Aside0.mk (blk_drew BK112.out)
            have n1_ := Aside0.mk (blk_drew BK116.out)
            have n2_ := Aside0.mk (IsS102.drew HI0.out)
            have n3_ := Aside0.mk (keep_drew HK.out)
            have n4_ := Aside0.mk (below_drew1 HB.out)
            clear BK112
            clear BK116
            clear HI0
            clear HK
            clear HB
            have BK112 := n0_
            have BK116 := n1_
            have HI0 := n2_
            have HK := n3_
            have HB := n4_
            clear n0_ n1_ n2_ n3_ n4_
            refine start_ (n := 12) (S := fun w' => w'.cell? ⟨gb116, 0, none⟩ = some (.int .i64 t113) ∧ w'.cell? ⟨gb116, 1, none⟩ = some (.int .i64 0) ∧ w'.cell? ⟨gb116, 2, none⟩ = some (.int .i64 0) ∧ w'.cell? ⟨gb116, 3, none⟩ = some (.int .i64 0)) (ds := [11]) #[false, false, false, false, false, false, false, false, false, false, false, false] (by kernel_rfl) rfl rfl ⟨(blk_cell BK116.out 0).trans rfl, (blk_cell BK116.out 1).trans rfl, (blk_cell BK116.out 2).trans rfl, (blk_cell BK116.out 3).trans rfl⟩ (fun hHeld => ?_); refine with_tabW spec_l10DrawSight.tab2 spec_l10DrawSight.bits2 (fun HT_ HW_ => ?_)
            generalize w19.drew = w20 at BK112 BK116 HI0 HK HB hHeld ⊢
            refine pure_ (i := 0) (N := some 12) (v := ?_) (a' := ?_) #[true, false, false, false, false, false, false, false, false, false, false, false] rfl rfl (any_of HT_.out (by kernel_rfl)) (fun _ _ _ h => h) (Or.inl ⟨by rfl, ?_⟩) ?_ ?_
            rotate_left
            · intro w'
              go_simp
              with_reducible rfl
            rotate_left
            · simp only [Act.put, List.setIfInBounds_toArray, List.set_cons_zero, List.set_cons_succ, i64_w, i32_w]
              rfl
            refine pure_ (i := 3) (N := some 15) (v := ?_) (a' := ?_) #[true, false, false, true, false, false, false, false, false, false, false, false] rfl rfl (any_of HT_.out (by kernel_rfl)) (fun _ _ _ h => h) (Or.inl ⟨by rfl, ?_⟩) ?_ ?_
            rotate_left
            · intro w'
              go_simp
              with_reducible rfl
            rotate_left
            · simp only [Act.put, List.setIfInBounds_toArray, List.set_cons_zero, List.set_cons_succ, i64_w, i32_w]
              rfl
            refine pure_ (i := 4) (N := some 16) (v := ?_) (a' := ?_) #[true, false, false, true, true, false, false, false, false, false, false, false] rfl rfl (any_of HT_.out (by kernel_rfl)) (fun _ _ _ h => h) (Or.inl ⟨by rfl, ?_⟩) ?_ ?_
            rotate_left
            · intro w'
              go_simp
              with_reducible rfl
            rotate_left
            · simp only [Act.put, List.setIfInBounds_toArray, List.set_cons_zero, List.set_cons_succ, i64_w, i32_w]
              rfl
            refine pure_ (i := 5) (N := some 17) (v := ?_) (a' := ?_) #[true, false, false, true, true, true, false, false, false, false, false, false] rfl rfl (any_of HT_.out (by kernel_rfl)) (fun _ _ _ h => h) (Or.inl ⟨by rfl, ?_⟩) ?_ ?_
            rotate_left
            · intro w'
              go_simp
              with_reducible rfl
            rotate_left
            · simp only [Act.put, List.setIfInBounds_toArray, List.set_cons_zero, List.set_cons_succ, i64_w, i32_w]
              rfl
            refine pure_ (i := 8) (N := some 20) (v := ?_) (a' := ?_) #[true, false, false, true, true, true, false, false, true, false, false, false] rfl rfl (any_of HT_.out (by kernel_rfl)) (fun _ _ _ h => h) (Or.inl ⟨by rfl, ?_⟩) ?_ ?_
            rotate_left
            · intro w'
              go_simp
              with_reducible rfl
            rotate_left
            · simp only [Act.put, List.setIfInBounds_toArray, List.set_cons_zero, List.set_cons_succ, i64_w, i32_w]
              rfl
            refine take_ (i := 1) (N := some 13) (v := ?_) (a' := ?_) #[true, true, false, true, true, true, false, false, true, false, false, false] rfl rfl (take_ofW HT_.out HW_.out (by kernel_rfl)) (fun _ _ _ h => h) (Or.inl ⟨by rfl, ?_⟩) hHeld ?_ ?_
            rotate_left
            · rintro w' ⟨s0, s1, s2, s3⟩
              go_simp
              with_reducible rfl
            rotate_left
            · simp only [Act.put, List.setIfInBounds_toArray, List.set_cons_zero, List.set_cons_succ, i64_w, i32_w]
              rfl
            refine pure_ (i := 2) (N := some 14) (v := ?_) (a' := ?_) #[true, true, true, true, true, true, false, false, true, false, false, false] rfl rfl (any_of HT_.out (by kernel_rfl)) (fun _ _ _ h => h) (Or.inl ⟨by rfl, ?_⟩) ?_ ?_
            rotate_left
            · intro w'
              go_simp
              with_reducible rfl
            rotate_left
            · simp only [Act.put, List.setIfInBounds_toArray, List.set_cons_zero, List.set_cons_succ, i64_w, i32_w]
              rfl
            refine one_ (i := 6) (N := some 18) #[true, true, true, true, true, true, true, false, true, false, false, false] rfl rfl (one_of HT_.out (by kernel_rfl)) (by decide) (fun K hK => ?_)
            refine goes_ Try.func97 (by kernel_rfl) rfl #[.pointer (some ⟨g, 0, none⟩), .int .i64 (wrap64 (a1 - 1))] (by rfl) rfl rfl (by (try simp only [List.map_toArray, List.map_cons, List.map_nil]); first | done | rfl | (simp only [List.length_drop, List.length_take]; rfl)) ?_
            with_reducible refine (spec_l00Src_pick.calls g s0_0 t114 t115 (wrap64 (a1 - 1)) t117 t118 t119 w0 _ ?side1 ?side2 A5.out).mono ?_
            (case side1 => repeat (first | (with_reducible first | exact HI0.out | apply IsS102.alloc | apply IsS102.drewN | apply IsS102.drew | apply IsS102.set_1 | apply IsS102.set_2 | refine IsS102.far ?_ NB0_112.out _ | refine IsS102.far ?_ NB0_116.out _) | exact HI0.out))
            (case side2 => repeat (first | (with_reducible first | exact HB.out | apply below_alloc | apply pw_below_drewN | apply below_drew1 | refine below_set ?_ (IsS102.ge HI0.out) | refine below_set ?_ GE112.out | refine below_set ?_ GE116.out) | exact HB.out))
            rintro e w21 ⟨rfl, hi, hb, hk⟩
            refine ⟨_, rfl, ?_⟩
            have n0_ := Aside0.mk (KeepBut.blk hk (g' := gb112) (o := .cells #[.int .i64 0, .int .i64 0, .int .i64 0, .int .i64 0] 32 (0, 0)) (by (with_reducible repeat (first | refine blk_drewN ?_ _ | refine blk_drew ?_ | refine blk_alloc ?_ _)); exact BK112.out) NB112_0.out (by simp))
            have n1_ := Aside0.mk (KeepBut.blk hk (g' := gb116) (o := .cells #[.int .i64 t113, .int .i64 0, .int .i64 0, .int .i64 0] 32 (0, 0)) (by (with_reducible repeat (first | refine blk_drewN ?_ _ | refine blk_drew ?_ | refine blk_alloc ?_ _)); exact BK116.out) NB116_0.out (by simp))
            have n2_ := Aside0.mk (KeepBut.trans (by repeat (first | (with_reducible first | exact HK.out | apply KeepBut.set_ | apply keep_drewN | apply keep_drew | apply keep_alloc | refine keep_far ?_ GW112.out _ | refine keep_far ?_ GW116.out _) | exact HK.out)) hk (.inl rfl))
            have n3_ := Aside0.mk (hb)
            have n4_ := Aside0.mk (hi)
            clear BK112
            clear BK116
            clear HK
            clear HB
            clear HI0
            have BK112 := n0_
            have BK116 := n1_
            have HK := n2_
            have HB := n3_
            have HI0 := n4_
            clear n0_ n1_ n2_ n3_ n4_
            (try clear hb)
            (try clear hb2)
            (try clear hk)
            (try clear hi)
            refine hK.out _ _ ⟨(blk_cell BK116.out 0).trans rfl, (blk_cell BK116.out 1).trans rfl, (blk_cell BK116.out 2).trans rfl, (blk_cell BK116.out 3).trans rfl⟩ (fun hHeld => ?_)
            clear hK K
            refine norm_ (a' := ?_) ?_ ?_
            rotate_left
            · show Act.put _ (some 18) _ = _
              simp only [Act.put, List.setIfInBounds_toArray, List.set_cons_zero, List.set_cons_succ, i64_w, i32_w]
              rfl
            refine pure_ (i := 7) (N := some 19) (v := ?_) (a' := ?_) #[true, true, true, true, true, true, true, true, true, false, false, false] rfl rfl (any_of HT_.out (by kernel_rfl)) (fun _ _ _ h => h) (Or.inl ⟨by rfl, ?_⟩) ?_ ?_
            rotate_left
            · intro w'
              go_simp
              with_reducible rfl
            rotate_left
            · simp only [Act.put, List.setIfInBounds_toArray, List.set_cons_zero, List.set_cons_succ, i64_w, i32_w]
              rfl
            refine pure_ (i := 9) (N := some 21) (v := ?_) (a' := ?_) #[true, true, true, true, true, true, true, true, true, true, false, false] rfl rfl (any_of HT_.out (by kernel_rfl)) (fun _ _ _ h => h) (Or.inl ⟨by rfl, ?_⟩) ?_ ?_
            rotate_left
            · intro w'
              go_simp
              with_reducible rfl
            rotate_left
            · simp only [Act.put, List.setIfInBounds_toArray, List.set_cons_zero, List.set_cons_succ, i64_w, i32_w]
              rfl
            refine pure_ (i := 10) (N := some 22) (v := ?_) (a' := ?_) #[true, true, true, true, true, true, true, true, true, true, true, false] rfl rfl (any_of HT_.out (by kernel_rfl)) (fun _ _ _ h => h) (Or.inl ⟨by rfl, ?_⟩) ?_ ?_
            rotate_left
            · intro w'
              go_simp
              with_reducible rfl
            rotate_left
            · simp only [Act.put, List.setIfInBounds_toArray, List.set_cons_zero, List.set_cons_succ, i64_w, i32_w]
              rfl
            refine last_ (i := 11) (N := none) #[true, true, true, true, true, true, true, true, true, true, true, true] rfl rfl (one_of HT_.out (by kernel_rfl)) (by decide) (fun K hK => ?_)
            have hs22 : w21.cell? ⟨gb116, 1, none⟩ = some (.int .i64 0) := (blk_cell BK116.out 1).trans rfl
            have hfs22 := blk_frozen BK116.out 1
            have hns22_0 := NB112_116.out
            have hms22_0 := NB116_112.out
            refine skip_ (w1 := ?_) (by rfl) rfl ?_ ?_
            rotate_left
            · go_simp
              rfl
            refine hK.out _ _ ?_
            clear hK K
            refine done_ (done_of HT_.out (by kernel_rfl)) ?_
            try go_wp2_with (first | ((with_reducible refine gate_callee (f := 97) rfl ?_); refine goesL_ (some 24) rfl rfl Try.func97 (by kernel_rfl) rfl #[.pointer (some ⟨g, 0, none⟩), .int .i64 3] rfl (by (try simp only [List.map_toArray, List.map_cons, List.map_nil]); first | done | rfl | (simp only [List.length_drop, List.length_take]; rfl)) ?_; (with_reducible refine (spec_l00Src_pick.calls g s0_0 t118 t119 3 t120 t121 t122 w0 _ ?side1 ?side2 A7.out).mono ?_); (case side1 => repeat (first | (with_reducible first | exact HI0.out | apply IsS102.alloc | apply IsS102.drewN | apply IsS102.drew | apply IsS102.set_1 | apply IsS102.set_2 | refine IsS102.far ?_ NB0_112.out _ | refine IsS102.far ?_ NB0_116.out _) | exact HI0.out)); (case side2 => repeat (first | (with_reducible first | exact HB.out | apply below_alloc | apply pw_below_drewN | apply below_drew1 | refine below_set ?_ (IsS102.ge HI0.out) | refine below_set ?_ GE112.out | refine below_set ?_ GE116.out) | exact HB.out)); rintro e w23 ⟨rfl, hi, hb, hk⟩; refine ⟨_, rfl, ?_⟩; have n0_ := Aside0.mk (KeepBut.blk hk (g' := gb112) (o := .cells #[.int .i64 0, .int .i64 0, .int .i64 0, .int .i64 0] 32 (0, 0)) (by (with_reducible repeat (first | refine blk_drewN ?_ _ | refine blk_drew ?_ | refine blk_alloc ?_ _)); refine blk_far ?_ NB112_116.out _; (with_reducible repeat (first | refine blk_drewN ?_ _ | refine blk_drew ?_ | refine blk_alloc ?_ _)); exact BK112.out) NB112_0.out (by simp)); have n1_ := Aside0.mk (KeepBut.blk hk (g' := gb116) (o := .cells #[.int .i64 t113, .int .i64 ji8, .int .i64 0, .int .i64 0] 32 (0, 0)) (by (with_reducible repeat (first | refine blk_drewN ?_ _ | refine blk_drew ?_ | refine blk_alloc ?_ _)); refine blk_put (cs := #[.int .i64 t113, .int .i64 0, .int .i64 0, .int .i64 0]) ?_ 1 _ rfl; (with_reducible repeat (first | refine blk_drewN ?_ _ | refine blk_drew ?_ | refine blk_alloc ?_ _)); exact BK116.out) NB116_0.out (by simp)); have n2_ := Aside0.mk (KeepBut.trans (by repeat (first | (with_reducible first | exact HK.out | apply KeepBut.set_ | apply keep_drewN | apply keep_drew | apply keep_alloc | refine keep_far ?_ GW112.out _ | refine keep_far ?_ GW116.out _) | exact HK.out)) hk (.inl rfl)); have n3_ := Aside0.mk (hb); have n4_ := Aside0.mk (hi); clear BK112; clear BK116; clear HK; clear HB; clear HI0; have BK112 := n0_; have BK116 := n1_; have HK := n2_; have HB := n3_; have HI0 := n4_; clear n0_ n1_ n2_ n3_ n4_; (try clear hb); (try clear hb2); (try clear hk); (try clear hi); have hcz24_0 : w23.cell? ⟨gb116, 0, none⟩ = some (.int .i64 t113) := (blk_cell BK116.out 0).trans rfl; have hcz24_1 : w23.cell? ⟨gb116, 1, none⟩ = some (.int .i64 ji8) := (blk_cell BK116.out 1).trans rfl; have hcz24_2 : w23.cell? ⟨gb116, 2, none⟩ = some (.int .i64 0) := (blk_cell BK116.out 2).trans rfl; have hcz24_3 : w23.cell? ⟨gb116, 3, none⟩ = some (.int .i64 0) := (blk_cell BK116.out 3).trans rfl; have hfz24_0 := blk_frozen BK116.out 0; have hfz24_1 := blk_frozen BK116.out 1; have hfz24_2 := blk_frozen BK116.out 2; have hfz24_3 := blk_frozen BK116.out 3))
            have n0_ : Aside0 ((w23.setCell ⟨gb116, 3, none⟩ (.int .i64 (wrap64 (1 + t120)))).heap[gb112]? = some (.cells #[.int .i64 0, .int .i64 0, .int .i64 0, .int .i64 0] 32 (0, 0))) := ⟨by (with_reducible repeat (first | refine blk_drewN ?_ _ | refine blk_drew ?_ | refine blk_alloc ?_ _)); refine blk_far ?_ NB112_116.out _; (with_reducible repeat (first | refine blk_drewN ?_ _ | refine blk_drew ?_ | refine blk_alloc ?_ _)); exact BK112.out⟩
            have n1_ : Aside0 ((w23.setCell ⟨gb116, 3, none⟩ (.int .i64 (wrap64 (1 + t120)))).heap[gb116]? = some (.cells #[.int .i64 t113, .int .i64 ji8, .int .i64 0, .int .i64 (wrap64 (1 + t120))] 32 (0, 0))) := ⟨by (with_reducible repeat (first | refine blk_drewN ?_ _ | refine blk_drew ?_ | refine blk_alloc ?_ _)); refine blk_put (cs := #[.int .i64 t113, .int .i64 ji8, .int .i64 0, .int .i64 0]) ?_ 3 _ rfl; (with_reducible repeat (first | refine blk_drewN ?_ _ | refine blk_drew ?_ | refine blk_alloc ?_ _)); exact BK116.out⟩
            have n2_ : Aside0 (IsS102 w0 (w23.setCell ⟨gb116, 3, none⟩ (.int .i64 (wrap64 (1 + t120)))) g s0_0 t121 t122) := ⟨by repeat (first | (with_reducible first | exact HI0.out | apply IsS102.alloc | apply IsS102.drewN | apply IsS102.drew | apply IsS102.set_1 | apply IsS102.set_2 | refine IsS102.far ?_ NB0_112.out _ | refine IsS102.far ?_ NB0_116.out _) | exact HI0.out)⟩
            have n3_ : Aside0 (KeepBut w (w23.setCell ⟨gb116, 3, none⟩ (.int .i64 (wrap64 (1 + t120)))) g none) := ⟨by repeat (first | (with_reducible first | exact HK.out | apply KeepBut.set_ | apply keep_drewN | apply keep_drew | apply keep_alloc | refine keep_far ?_ GW112.out _ | refine keep_far ?_ GW116.out _) | exact HK.out)⟩
            have n4_ : Aside0 (Below w0.heap.size w0 (w23.setCell ⟨gb116, 3, none⟩ (.int .i64 (wrap64 (1 + t120))))) := ⟨by repeat (first | (with_reducible first | exact HB.out | apply below_alloc | apply pw_below_drewN | apply below_drew1 | refine below_set ?_ (IsS102.ge HI0.out) | refine below_set ?_ GE112.out | refine below_set ?_ GE116.out) | exact HB.out)⟩
            (try clear BK112)
            (try clear BK116)
            (try clear HI0)
            (try clear HK)
            (try clear HB)
            generalize (w23.setCell ⟨gb116, 3, none⟩ (.int .i64 (wrap64 (1 + t120)))) = w25 at n0_ n1_ n2_ n3_ n4_ ⊢
            have BK112 := n0_
            have BK116 := n1_
            have HI0 := n2_
            have HK := n3_
            have HB := n4_
            clear n0_ n1_ n2_ n3_ n4_
            have n0_ := Aside0.mk (blk_drew BK112.out)
            have n1_ := Aside0.mk (blk_drew BK116.out)
            have n2_ := Aside0.mk (IsS102.drew HI0.out)
            have n3_ := Aside0.mk (keep_drew HK.out)
            have n4_ := Aside0.mk (below_drew1 HB.out)
            clear BK112
            clear BK116
            clear HI0
            clear HK
            clear HB
            have BK112 := n0_
            have BK116 := n1_
            have HI0 := n2_
            have HK := n3_
            have HB := n4_
            clear n0_ n1_ n2_ n3_ n4_
            have p123 : 0 ≤ ((ji8) : Int) := of_decide_eq_true (by first | (with_reducible assumption) | assumption)
            have q123 : (ji8) < (l2.length : Int) := of_decide_eq_true (by first | (with_reducible assumption) | assumption)
            obtain ⟨ad123, e123, hx123_0⟩ := Kd.at_int HR2.out (ji8) p123 q123
            have hw123_0 := hx123_0
            cases e123
            have hne123_0 := (show ((ad123.add ((ji8)).toNat) : Addr).block ≠ g from by first | (rw [add_block]; exact hf2 ad123 rfl (by omega)) | (show (Addr.add _ _).block ≠ _; rw [add_block]; exact hf2 ad123 rfl (by omega)) | exact hf2 ad123 rfl (by omega))
            replace hx123_0 := keep_cell HK.out hx123_0 (by first | (rw [add_block]; exact hf2 _ rfl (by omega)) | exact hf2 _ rfl (by omega) | exact hf2 ad123 rfl (by omega))
            replace p123 := eq_true p123
            replace q123 := eq_true q123
            have p124 : 0 ≤ (t113 : Int) := of_decide_eq_true (by first | (with_reducible assumption) | assumption)
            have q124 : t113 < (l2.length : Int) := of_decide_eq_true (by first | (with_reducible assumption) | assumption)
            obtain ⟨ad124, e124, hx124_0⟩ := Kd.at_int HR2.out t113 p124 q124
            have hw124_0 := hx124_0
            obtain rfl : ad123 = ad124 := (by injection e124)
            have hne124_0 := (show ((ad123.add (t113).toNat) : Addr).block ≠ g from by first | (rw [add_block]; exact hf2 ad123 rfl (by omega)) | (show (Addr.add _ _).block ≠ _; rw [add_block]; exact hf2 ad123 rfl (by omega)) | exact hf2 ad123 rfl (by omega))
            replace hx124_0 := keep_cell HK.out hx124_0 (by first | (rw [add_block]; exact hf2 _ rfl (by omega)) | exact hf2 _ rfl (by omega) | exact hf2 ad123 rfl (by omega))
            replace p124 := eq_true p124
            replace q124 := eq_true q124
            refine start_ (n := 13) (S := fun w' => w'.cell? ⟨gb116, 0, none⟩ = some (.int .i64 t113) ∧ w'.cell? ⟨gb116, 1, none⟩ = some (.int .i64 ji8) ∧ w'.cell? ⟨gb116, 2, none⟩ = some (.int .i64 0) ∧ w'.cell? ⟨gb116, 3, none⟩ = some (.int .i64 (wrap64 (1 + t120))) ∧ w'.cell? (ad123.add ((ji8)).toNat) = some (.int .i64 (rd l2 (ji8))) ∧ w'.cell? (ad123.add (t113).toNat) = some (.int .i64 (rd l2 t113))) (ds := [12]) #[false, false, false, false, false, false, false, false, false, false, false, false, false] (by kernel_rfl) rfl rfl ⟨(blk_cell BK116.out 0).trans rfl, (blk_cell BK116.out 1).trans rfl, (blk_cell BK116.out 2).trans rfl, (blk_cell BK116.out 3).trans rfl, (keep_cell HK.out hw123_0 hne123_0), (keep_cell HK.out hw124_0 hne124_0)⟩ (fun hHeld => ?_); refine with_tabW spec_l10DrawSight.tab4 spec_l10DrawSight.bits4 (fun HT_ HW_ => ?_)
            generalize w25.drew = w26 at BK112 BK116 HI0 HK HB hx123_0 hx124_0 hHeld ⊢
            refine pure_ (i := 0) (N := some 27) (v := ?_) (a' := ?_) #[true, false, false, false, false, false, false, false, false, false, false, false, false] rfl rfl (any_of HT_.out (by kernel_rfl)) (fun _ _ _ h => h) (Or.inl ⟨by rfl, ?_⟩) ?_ ?_
            rotate_left
            · intro w'
              go_simp
              with_reducible rfl
            rotate_left
            · simp only [Act.put, List.setIfInBounds_toArray, List.set_cons_zero, List.set_cons_succ, i64_w, i32_w]
              rfl
            refine pure_ (i := 1) (N := some 28) (v := ?_) (a' := ?_) #[true, true, false, false, false, false, false, false, false, false, false, false, false] rfl rfl (any_of HT_.out (by kernel_rfl)) (fun _ _ _ h => h) (Or.inl ⟨by rfl, ?_⟩) ?_ ?_
            rotate_left
            · intro w'
              go_simp
              with_reducible rfl
            rotate_left
            · simp only [Act.put, List.setIfInBounds_toArray, List.set_cons_zero, List.set_cons_succ, i64_w, i32_w]
              rfl
            refine pure_ (i := 5) (N := some 32) (v := ?_) (a' := ?_) #[true, true, false, false, false, true, false, false, false, false, false, false, false] rfl rfl (any_of HT_.out (by kernel_rfl)) (fun _ _ _ h => h) (Or.inl ⟨by rfl, ?_⟩) ?_ ?_
            rotate_left
            · intro w'
              go_simp
              with_reducible rfl
            rotate_left
            · simp only [Act.put, List.setIfInBounds_toArray, List.set_cons_zero, List.set_cons_succ, i64_w, i32_w]
              rfl
            refine pure_ (i := 6) (N := some 33) (v := ?_) (a' := ?_) #[true, true, false, false, false, true, true, false, false, false, false, false, false] rfl rfl (any_of HT_.out (by kernel_rfl)) (fun _ _ _ h => h) (Or.inl ⟨by rfl, ?_⟩) ?_ ?_
            rotate_left
            · intro w'
              go_simp
              with_reducible rfl
            rotate_left
            · simp only [Act.put, List.setIfInBounds_toArray, List.set_cons_zero, List.set_cons_succ, i64_w, i32_w]
              rfl
            refine take_ (i := 2) (N := some 29) (v := ?_) (a' := ?_) #[true, true, true, false, false, true, true, false, false, false, false, false, false] rfl rfl (take_ofW HT_.out HW_.out (by kernel_rfl)) (fun _ _ _ h => h) (Or.inl ⟨by rfl, ?_⟩) hHeld ?_ ?_
            rotate_left
            · rintro w' ⟨s0, s1, s2, s3, s4, s5⟩
              go_simp
              with_reducible rfl
            rotate_left
            · simp only [Act.put, List.setIfInBounds_toArray, List.set_cons_zero, List.set_cons_succ, i64_w, i32_w]
              rfl
            refine pure_ (i := 3) (N := some 30) (v := ?_) (a' := ?_) #[true, true, true, true, false, true, true, false, false, false, false, false, false] rfl rfl (any_of HT_.out (by kernel_rfl)) (fun _ _ _ h => h) (Or.inl ⟨by rfl, ?_⟩) ?_ ?_
            rotate_left
            · intro w'
              go_simp
              with_reducible rfl
            rotate_left
            · simp only [Act.put, List.setIfInBounds_toArray, List.set_cons_zero, List.set_cons_succ, i64_w, i32_w]
              rfl
            refine take_ (i := 4) (N := some 31) (v := ?_) (a' := ?_) #[true, true, true, true, true, true, true, false, false, false, false, false, false] rfl rfl (take_ofW HT_.out HW_.out (by kernel_rfl)) (fun _ _ _ h => h) (Or.inl ⟨by rfl, ?_⟩) hHeld ?_ ?_
            rotate_left
            · rintro w' ⟨s0, s1, s2, s3, s4, s5⟩
              go_simp
              with_reducible rfl
            rotate_left
            · simp only [Act.put, List.setIfInBounds_toArray, List.set_cons_zero, List.set_cons_succ, i64_w, i32_w]
              rfl
            refine take_ (i := 7) (N := some 34) (v := ?_) (a' := ?_) #[true, true, true, true, true, true, true, true, false, false, false, false, false] rfl rfl (take_ofW HT_.out HW_.out (by kernel_rfl)) (fun _ _ _ h => h) (Or.inl ⟨by rfl, ?_⟩) hHeld ?_ ?_
            rotate_left
            · rintro w' ⟨s0, s1, s2, s3, s4, s5⟩
              go_simp
              with_reducible rfl
            rotate_left
            · simp only [Act.put, List.setIfInBounds_toArray, List.set_cons_zero, List.set_cons_succ, i64_w, i32_w]
              rfl
            refine pure_ (i := 8) (N := some 35) (v := ?_) (a' := ?_) #[true, true, true, true, true, true, true, true, true, false, false, false, false] rfl rfl (any_of HT_.out (by kernel_rfl)) (fun _ _ _ h => h) (Or.inl ⟨by rfl, ?_⟩) ?_ ?_
            rotate_left
            · intro w'
              go_simp
              with_reducible rfl
            rotate_left
            · simp only [Act.put, List.setIfInBounds_toArray, List.set_cons_zero, List.set_cons_succ, i64_w, i32_w]
              rfl
            refine take_ (i := 9) (N := some 36) (v := ?_) (a' := ?_) #[true, true, true, true, true, true, true, true, true, true, false, false, false] rfl rfl (take_ofW HT_.out HW_.out (by kernel_rfl)) (fun _ _ _ h => h) (Or.inl ⟨by rfl, ?_⟩) hHeld ?_ ?_
            rotate_left
            · rintro w' ⟨s0, s1, s2, s3, s4, s5⟩
              go_simp
              with_reducible rfl
            rotate_left
            · simp only [Act.put, List.setIfInBounds_toArray, List.set_cons_zero, List.set_cons_succ, i64_w, i32_w]
              rfl
            refine pure_ (i := 10) (N := some 37) (v := ?_) (a' := ?_) #[true, true, true, true, true, true, true, true, true, true, true, false, false] rfl rfl (any_of HT_.out (by kernel_rfl)) (fun _ _ _ h => h) (Or.inl ⟨by rfl, ?_⟩) ?_ ?_
            rotate_left
            · intro w'
              go_simp
              with_reducible rfl
            rotate_left
            · simp only [Act.put, List.setIfInBounds_toArray, List.set_cons_zero, List.set_cons_succ, i64_w, i32_w]
              rfl
            refine pure_ (i := 11) (N := some 38) (v := ?_) (a' := ?_) #[true, true, true, true, true, true, true, true, true, true, true, true, false] rfl rfl (any_of HT_.out (by kernel_rfl)) (fun _ _ _ h => h) (Or.inl ⟨by rfl, ?_⟩) ?_ ?_
            rotate_left
            · intro w'
              go_simp
              with_reducible rfl
            rotate_left
            · simp only [Act.put, List.setIfInBounds_toArray, List.set_cons_zero, List.set_cons_succ, i64_w, i32_w]
              rfl
            refine last_ (i := 12) (N := none) #[true, true, true, true, true, true, true, true, true, true, true, true, true] rfl rfl (one_of HT_.out (by kernel_rfl)) (by decide) (fun K hK => ?_)
            have hs27 : w26.cell? ⟨gb116, 2, none⟩ = some (.int .i64 0) := (blk_cell BK116.out 2).trans rfl
            have hfs27 := blk_frozen BK116.out 2
            have hns27_0 := NB112_116.out
            have hms27_0 := NB116_112.out
            refine skip_ (w1 := ?_) (by rfl) rfl ?_ ?_
            rotate_left
            · go_simp
              rfl
            refine hK.out _ _ ?_
            clear hK K
            refine done_ (done_of HT_.out (by kernel_rfl)) ?_
            have hcz28_0 : w26.cell? ⟨gb116, 0, none⟩ = some (.int .i64 t113) := (blk_cell BK116.out 0).trans rfl
            have hcz28_1 : w26.cell? ⟨gb116, 1, none⟩ = some (.int .i64 ji8) := (blk_cell BK116.out 1).trans rfl
            have hcz28_2 : w26.cell? ⟨gb116, 2, none⟩ = some (.int .i64 0) := (blk_cell BK116.out 2).trans rfl
            have hcz28_3 : w26.cell? ⟨gb116, 3, none⟩ = some (.int .i64 (wrap64 (1 + t120))) := (blk_cell BK116.out 3).trans rfl
            have hfz28_0 := blk_frozen BK116.out 0
            have hfz28_1 := blk_frozen BK116.out 1
            have hfz28_2 := blk_frozen BK116.out 2
            have hfz28_3 := blk_frozen BK116.out 3
            have hnb29 := NB112_0.out
            have hnc29 := NB0_112.out
            have hcz30_0 : w26.cell? ⟨gb112, 0, none⟩ = some (.int .i64 0) := (blk_cell BK112.out 0).trans rfl
            have hcz30_1 : w26.cell? ⟨gb112, 1, none⟩ = some (.int .i64 0) := (blk_cell BK112.out 1).trans rfl
            have hcz30_2 : w26.cell? ⟨gb112, 2, none⟩ = some (.int .i64 0) := (blk_cell BK112.out 2).trans rfl
            have hcz30_3 : w26.cell? ⟨gb112, 3, none⟩ = some (.int .i64 0) := (blk_cell BK112.out 3).trans rfl
            have hfz30_0 := blk_frozen BK112.out 0
            have hfz30_1 := blk_frozen BK112.out 1
            have hfz30_2 := blk_frozen BK112.out 2
            have hfz30_3 := blk_frozen BK112.out 3
            try go_wp2
            refine bodyPost_ret (results_cell_row rfl _ _ gb112 32 #[.int .i64 t113, .int .i64 ji8, .int .i64 (wrap64 ((rd l2 (ji8)) - (rd l2 t113))), .int .i64 (wrap64 (1 + t120))] (0, 0) _ rfl (by (with_reducible repeat (first | refine blk_drewN ?_ _ | refine blk_drew ?_ | refine blk_alloc ?_ _)); refine blk_put (cs := #[.int .i64 t113, .int .i64 ji8, .int .i64 (wrap64 ((rd l2 (ji8)) - (rd l2 t113))), .int .i64 0]) ?_ 3 _ rfl; (with_reducible repeat (first | refine blk_drewN ?_ _ | refine blk_drew ?_ | refine blk_alloc ?_ _)); refine blk_put (cs := #[.int .i64 t113, .int .i64 ji8, .int .i64 0, .int .i64 0]) ?_ 2 _ rfl; (with_reducible repeat (first | refine blk_drewN ?_ _ | refine blk_drew ?_ | refine blk_alloc ?_ _)); refine blk_put (cs := #[.int .i64 t113, .int .i64 0, .int .i64 0, .int .i64 0]) ?_ 1 _ rfl; (with_reducible repeat (first | refine blk_drewN ?_ _ | refine blk_drew ?_ | refine blk_alloc ?_ _)); refine blk_put (cs := #[.int .i64 0, .int .i64 0, .int .i64 0, .int .i64 0]) ?_ 0 _ rfl; (with_reducible repeat (first | refine blk_drewN ?_ _ | refine blk_drew ?_ | refine blk_alloc ?_ _)); refine blk_far ?_ NB112_116.out _; (with_reducible repeat (first | refine blk_drewN ?_ _ | refine blk_drew ?_ | refine blk_alloc ?_ _)); exact BK112.out) Try.underlying32 rfl (by kernel_rfl)) rfl ?_
            exact ⟨by first | rfl | (simp [errW_none, errW_some] <;> rfl) | (simp only [← hji8]; first | rfl | (simp [errW_none, errW_some] <;> rfl)) | (simp [*, errW_none, errW_some] <;> rfl), by repeat (first | (with_reducible first | exact HI0.out | apply IsS102.alloc | apply IsS102.drewN | apply IsS102.drew | apply IsS102.set_1 | apply IsS102.set_2 | refine IsS102.far ?_ NB0_112.out _ | refine IsS102.far ?_ NB0_116.out _) | exact HI0.out), by repeat (first | (with_reducible first | exact HB.out | apply below_alloc | apply pw_below_drewN | apply below_drew1 | refine below_set ?_ (IsS102.ge HI0.out) | refine below_set ?_ GE112.out | refine below_set ?_ GE116.out) | exact HB.out), by repeat (first | (with_reducible first | exact HK.out | apply KeepBut.set_ | apply keep_drewN | apply keep_drew | apply keep_alloc | refine keep_far ?_ GW112.out _ | refine keep_far ?_ GW116.out _) | exact HK.out)⟩
          · rw [if_neg c12] at H
            exact absurd H (by simp)
        · rw [if_neg c11] at H
          exact absurd H (by simp)
      · rw [if_neg c10] at H
        exact absurd H (by simp)
    · rw [if_neg c9] at H
      exact absurd H (by simp)
end Go.Proofs.Ytkafbmanmffliaa.Q

/- The reference's l10Drop: a survey without a sight. -/
namespace Go.Proofs.Ytkafbmanmffliaa.Hf
open Go.RowKit YtkafbmanmffliaaW.PrintWords YtkafbmanmffliaaW.PrintLast YtkafbmanmffliaaW.PrintMore Q
def TS (B : Nat) (W : World) (v : Value) (xs : List S32) : Prop := Kd.R k32 32 W B (fun _ => True) v xs
def drp (l : List S32) (k i : Nat) : List S32 := (l.take i).eraseIdx k
end Go.Proofs.Ytkafbmanmffliaa.Hf

/- What the laws' surveys are drawn from: choices out of bytes; one sight. -/
namespace Go.Proofs.Ytkafbmanmffliaa.Dw
open Go Go.RowKit YtkafbmanmffliaaW.PrintWords YtkafbmanmffliaaW.PrintLast YtkafbmanmffliaaW.PrintMore Q Hc
theorem wrap_id {x : Int} (h0 : -9223372036854775808 ≤ x) (h1 : x ≤ 9223372036854775807) : wrap64 x = x := by unfold wrap64; omega
theorem byte_of (z : Int) : 0 ≤ wrap64 (Go.bits .and .u64 (IntKind.u64.wrap z / 1099511627776) 255) ∧ wrap64 (Go.bits .and .u64 (IntKind.u64.wrap z / 1099511627776) 255) ≤ 255 := by
 have h0 : 0 ≤ IntKind.u64.wrap z ∧ IntKind.u64.wrap z < 18446744073709551616 := by rw [IntKind.wrap_u64]; omega
 have e := bits_mask .u64 64 (by decide) (fun n h1 h2 => by rw [IntKind.wrap_u64]; omega) 8 (by decide) (IntKind.u64.wrap z / 1099511627776) (by omega) (by omega)
 have e2 : Go.bits .and .u64 (IntKind.u64.wrap z / 1099511627776) 255 = (IntKind.u64.wrap z / 1099511627776) % 256 := e
 rw [e2, wrap_id (by omega) (by omega)]
 omega
theorem rd_le {l : List Int} {lo hi : Int} (hb : ∀ b ∈ l, lo ≤ b ∧ b ≤ hi) (i : Int) (h0 : 0 ≤ i) (h1 : i < (l.length : Int)) : lo ≤ rd l i ∧ rd l i ≤ hi := by
 obtain ⟨i, rfl⟩ : ∃ j : Nat, i = (j : Int) := ⟨i.toNat, by omega⟩
 have hl : i < l.length := by omega
 have e : rd l (i : Int) = l[i] := by simp [rd, List.getD_eq_getElem?_getD, hl]
 rw [e]
 exact hb _ (List.getElem_mem _)
theorem next_ok (l : List Int) (hb : ∀ b ∈ l, 0 ≤ b ∧ b ≤ 255) (at_ seed : Int) (h0 : 0 ≤ at_) (h1 : at_ ≤ 1000000) : ∃ v seed', spec_l00Src_next.f l at_ seed = some (v, at_ + 1, seed') ∧ 0 ≤ v ∧ v ≤ 255 := by
 have hw : wrap64 (at_ + 1) = at_ + 1 := wrap_id (by omega) (by omega)
 simp only [spec_l00Src_next.f, hw]
 by_cases c1 : at_ < (l.length : Int)
 ·rw [if_pos c1, if_pos h0]
  have hx := rd_le hb at_ h0 c1
  rw [wrap_id (x := rd l at_) (by omega) (by omega)]
  by_cases c2 : at_ + 1 ≤ (l.length : Int)
  ·rw [if_pos c2]; exact ⟨_, _, rfl, hx⟩
  ·rw [if_neg c2]; exact ⟨_, _, rfl, byte_of _⟩
 ·rw [if_neg c1]
  by_cases c2 : at_ + 1 ≤ (l.length : Int)
  ·rw [if_pos c2]; exact ⟨_, _, rfl, by decide, by decide⟩
  ·rw [if_neg c2]; exact ⟨_, _, rfl, byte_of _⟩
theorem pick_ok (l : List Int) (hb : ∀ b ∈ l, 0 ≤ b ∧ b ≤ 255) (at_ seed n : Int) (h0 : 0 ≤ at_) (h1 : at_ ≤ 1000000) (hn : 1 ≤ n) (hn2 : n ≤ 200) : ∃ v a' seed', spec_l00Src_pick.f l at_ seed n = some (v, a', seed') ∧ 0 ≤ v ∧ v < n ∧ 0 ≤ a' ∧ a' ≤ at_ + 1 := by
 by_cases hn1 : n ≤ 1
 ·simp only [spec_l00Src_pick.f]
  rw [if_pos hn1]
  exact ⟨_, _, _, rfl, by omega, by omega, by omega, by omega⟩
 obtain ⟨v, seed', he, hv0, hv1⟩ := next_ok l hb at_ seed h0 h1
 simp only [spec_l00Src_pick.f]
 rw [if_neg (by omega), he, Option.bind_some, if_neg (by omega), if_neg (by omega)]
 exact ⟨_, _, _, rfl, Int.tmod_nonneg _ hv0, Int.tmod_lt_of_pos _ (by omega), by show 0 ≤ at_ + 1; omega, by show at_ + 1 ≤ at_ + 1; omega⟩
def Sr (w0 W : World) (g : Nat) (N : Int) : Prop := ∃ (l : List Int) (a s : Int), IsS102 w0 W g l a s ∧ (∀ b ∈ l, 0 ≤ b ∧ b ≤ 255) ∧ 0 ≤ a ∧ a ≤ N
structure Fits (p : Int) (hs : List Int) (s : S32) : Prop where
 a0 : 0 ≤ s.f0
 a1 : s.f0 < p
 b0 : 0 ≤ s.f1
 b1 : s.f1 < p
 ne : s.f0 ≠ s.f1
 ri : s.f2 = rd hs s.f1 - rd hs s.f0
 wl : 1 ≤ s.f3
 wh : s.f3 ≤ 3
section
variable {w0 W W1 : World} {g : Nat} {N M : Int}
theorem Sr.grown (h : Sr w0 W g N) {row : Option Nat} (hw : W.grownBy W1 row) (hne : some g ≠ row) : Sr w0 W1 g N := by
 obtain ⟨l, a, s, h1, h2⟩ := h
 exact ⟨l, a, s, h1.grown hw hne, h2⟩
theorem Sr.below (h : Sr w0 W g N) (hb : Below W.heap.size W W1) : Sr w0 W1 g N := h.grown (grown_of_below hb none) (by simp)
theorem Sr.far (h : Sr w0 W g N) {p : Addr} (hne : g ≠ p.block) (u : Value) : Sr w0 (W.setCell p u) g N := by
 obtain ⟨l, a, s, h1, h2⟩ := h
 exact ⟨l, a, s, h1.far hne u, h2⟩
theorem Sr.le (h : Sr w0 W g N) (hm : N ≤ M) : Sr w0 W g M := by
 obtain ⟨l, a, s, h1, h2, h3, h4⟩ := h
 exact ⟨l, a, s, h1, h2, h3, by omega⟩
theorem Sr.lt (h : Sr w0 W g N) : g < W.heap.size := by
 obtain ⟨l, a, s, h1, h2⟩ := h
 exact h1.lt
theorem Sr.ne_blk (h : Sr w0 W g N) {a : Nat} {cs : Array Value} {t : TypeId} {fr : Nat × Nat} (hb2 : W.heap[a]? = some (.cells cs t fr)) (ht : t ≠ 102) : g ≠ a := by
 obtain ⟨l, _, s, h1, h2⟩ := h
 exact h1.ne_blk hb2 ht
theorem Sr.set (h : Sr w0 W g N) {a j : Nat} {cs : Array Value} {t : TypeId} {fr : Nat × Nat} (hb2 : W.heap[a]? = some (.cells cs t fr)) (ht : t ≠ 102) (u : Value) : Sr w0 (W.setCell ⟨a, j, none⟩ u) g N := h.far (p := ⟨a, j, none⟩) (h.ne_blk hb2 ht) u
theorem pick_any (n : Int) (hn : 1 ≤ n) (hn2 : n ≤ 200) (hN : N ≤ 100000) (hs : Sr w0 W g N) (hB : Below w0.heap.size w0 W) :
  Calls Try.prog 97 #[.pointer (some ⟨g, 0, none⟩), .int .i64 n] W fun e w' => ∃ v : Int, e = .returned (.int .i64 v) ∧ 0 ≤ v ∧ v < n ∧ Sr w0 w' g (N + 1) ∧ Below w0.heap.size w0 w' ∧ KeepBut W w' g none := by
 obtain ⟨l, a, s, h1, h2, h3, h4⟩ := hs
 obtain ⟨v, a', s', he, hv0, hv1, ha0, ha1⟩ := pick_ok l h2 a s n h3 (by omega) hn hn2
 refine (spec_l00Src_pick.calls g l a s n v a' s' w0 W h1 hB he).mono ?_
 rintro e w' ⟨rfl, hI, hb, hk⟩
 exact ⟨v, rfl, hv0, hv1, ⟨l, a', s', hI, h2, ha0, by omega⟩, hb, hk⟩
theorem one_any (n : Int) (hn : 1 ≤ n) (hn2 : n ≤ 200) (hN : N ≤ 100000) (hs : Sr w0 W g N) (hB : Below w0.heap.size w0 W) :
  Calls Try.prog 96 #[.pointer (some ⟨g, 0, none⟩), .int .i64 n] W fun e w' => ∃ b : Bool, e = .returned (.bool b) ∧ Sr w0 w' g (N + 1) ∧ Below w0.heap.size w0 w' ∧ KeepBut W w' g none := by
 obtain ⟨l, a, s, h1, h2, h3, h4⟩ := hs
 obtain ⟨v, a', s', he, hv0, hv1, ha0, ha1⟩ := pick_ok l h2 a s n h3 (by omega) hn hn2
 refine (spec_l00Src_one.calls g l a s n (v == 0) a' s' w0 W h1 hB (by unfold spec_l00Src_one.f; rw [he]; rfl)).mono ?_
 rintro e w' ⟨rfl, hI, hb, hk⟩
 exact ⟨_, rfl, ⟨l, a', s', hI, h2, ha0, by omega⟩, hb, hk⟩
theorem sight_any (p : Int) (hs : List Int) (A : Option Addr) (c : Nat) (hp : 2 ≤ p) (hp5 : p ≤ 5) (hl : (hs.length : Int) = p) (hh : ∀ h ∈ hs, -20 ≤ h ∧ h ≤ 20) (hN : N ≤ 1000) (hsr : Sr w0 W g N) (hB : Below w0.heap.size w0 W)
  (hr : Kd.C (Kd.int .i64) W A hs.length hs) (hc : hs.length ≤ c) (hf : ∀ ad, A = some ad → 0 < hs.length → ad.block ≠ g) :
  Calls Try.prog 123 #[.pointer (some ⟨g, 0, none⟩), .int .i64 p, .slice A hs.length c] W fun e w' => ∃ s : S32, e = .returned (.agg #[.int .i64 s.f0, .int .i64 s.f1, .int .i64 s.f2, .int .i64 s.f3]) ∧ Fits p hs s ∧ Sr w0 w' g (N + 3) ∧ Below w0.heap.size w0 w' ∧ KeepBut W w' g none := by
 obtain ⟨l, a, s, h1, h2, h3, h4⟩ := hsr
 obtain ⟨x, a1, s1, e1, x0, x1, p0, p1⟩ := pick_ok l h2 a s p h3 (by omega) (by omega) (by omega)
 obtain ⟨y, a2, s2, e2, y0, y1, p2, p3⟩ := pick_ok l h2 a1 s1 (p - 1) p0 (by omega) (by omega) (by omega)
 obtain ⟨z, a3, s3, e3, z0, z1, p4, p5⟩ := pick_ok l h2 a2 s2 3 p2 (by omega) (by omega) (by omega)
 have hw1 : wrap64 (p - 1) = p - 1 := wrap_id (by omega) (by omega)
 have hw2 : wrap64 (wrap64 (x + 1) + y) = x + 1 + y := by rw [wrap_id (x := x + 1) (by omega) (by omega), wrap_id (by omega) (by omega)]
 have hw3 : wrap64 (1 + z) = 1 + z := wrap_id (by omega) (by omega)
 have ht0 := Int.tmod_nonneg p (show 0 ≤ x + 1 + y by omega)
 have ht1 := Int.tmod_lt_of_pos (x + 1 + y) (show 0 < p by omega)
 have ht2 : Int.tmod (x + 1 + y) p ≠ x := by
  rw [Int.tmod_eq_emod_of_nonneg (by omega)]
  by_cases hlt : x + 1 + y < p
  ·rw [Int.emod_eq_of_lt (by omega) hlt]; omega
  ·rw [← Int.sub_emod_right, Int.emod_eq_of_lt (by omega) (by omega)]; omega
 obtain ⟨t, htt⟩ : ∃ t, t = Int.tmod (x + 1 + y) p := ⟨_, rfl⟩
 rw [← htt] at ht0 ht1 ht2
 have r1 := rd_le hh t ht0 (by omega)
 have r2 := rd_le hh x x0 (by omega)
 have hw4 : wrap64 (rd hs t - rd hs x) = rd hs t - rd hs x := wrap_id (by omega) (by omega)
 have he : spec_l10DrawSight.f l a s p hs = some (x, t, rd hs t - rd hs x, 1 + z, a3, s3) := by
  simp only [spec_l10DrawSight.f]
  rw [e1, Option.bind_some]
  simp only [hw1]
  rw [e2, Option.bind_some, if_neg (by omega)]
  simp only []
  rw [e3, Option.bind_some]
  simp only [hw2, hw3, ← htt, hw4]
  rw [if_pos ht0, if_pos (by omega), if_pos x0, if_pos (by omega)]
 refine (spec_l10DrawSight.calls g l a s p A c hs _ _ _ _ _ _ w0 W h1 hB hr hc hf he).mono ?_
 rintro e w' ⟨rfl, hI, hb, hk⟩
 exact ⟨⟨x, t, rd hs t - rd hs x, 1 + z⟩, rfl, ⟨x0, x1, ht0, ht1, fun h => ht2 h.symm, rfl, by show 1 ≤ 1 + z; omega, by show 1 + z ≤ 3; omega⟩, ⟨l, a3, s3, hI, h2, p4, by omega⟩, hb, hk⟩
end
end Go.Proofs.Ytkafbmanmffliaa.Dw

/- Plain: sums of weighted squares: of the told residuals, and of those of guessed heights. -/
namespace Go.Proofs.Ytkafbmanmffliaa.Pe
open Go Go.RowKit YtkafbmanmffliaaW.PrintWords Q Sb Pa
def sq3 (w e : Int) : Int := w * e * e
def oI (n : Nat) (l : List S32) (i : Nat) : Int := smI (fun s => sq3 s.f3 (ev n l s)) (l.take i)
def dd (g : Int → Int) (s : S32) : Int := s.f2 - g s.f1 + g s.f0
def tI (g : Int → Int) (l : List S32) (i : Nat) : Int := smI (fun s => sq3 s.f3 (dd g s)) (l.take i)
section
variable {n : Nat} {l : List S32} (hc : Gm.connB ((n : Int) + 1) l = true)
include hc
end
end Go.Proofs.Ytkafbmanmffliaa.Pe

/- Plain: redundancies: those of sights without which the points are not connected, and only these, are 0; together they count the sights beyond a tree. -/
namespace Go.Proofs.Ytkafbmanmffliaa.Pf
open Go Go.RowKit YtkafbmanmffliaaW.PrintWords Q Hb Hd Gm Gs Ex Pa
set_option linter.unusedSectionVars false
structure Lab (n : Nat) (l : List S32) (k : Nat) (part : List Int) : Prop where
 len : part.length = n
 nn : ∀ p : Int, 0 ≤ p → p < n → 0 ≤ rd part p
 z : rd part 0 = 0
 eq : ∀ j, j < k → rd part (rd_T32 l j).f0 = rd part (rd_T32 l j).f1
theorem rd_new {part : List Int} {a b : Int} {n : Nat} (hl : part.length = n) (p : Int) (h0 : 0 ≤ p) (h1 : p < n) : rd (newPart part a b) p = if rd part p = mxI a b then mnI a b else rd part p := by
 obtain ⟨q, rfl⟩ : ∃ q : Nat, p = q := ⟨p.toNat, by omega⟩
 have hq : q < part.length := by omega
 rw [rd_getElem _ q (by simp [newPart_len, hq]), rd_getElem _ q hq]
 simp only [newPart, List.getElem_map]
theorem labels {n : Nat} {l : List S32} (hn : 0 < n) (hv : surveyB n l = true) : ∀ k, k ≤ l.length → Lab n l k (at_ n l k).part := by
 intro k
 induction k with
 | zero =>
  intro _
  rw [at_zero]
  refine ⟨by simp [Hd.start], fun p h0 h1 => ?_, ?_, fun j hj => by omega⟩
  ·obtain ⟨q, rfl⟩ : ∃ q : Nat, p = q := ⟨p.toNat, by omega⟩
   rw [rd_getElem _ q (by simp [Hd.start]; omega)]
   simp [Hd.start]
  ·have := rd_getElem (Hd.start n).part 0 (by simp [Hd.start]; omega)
   rw [show (((0 : Nat) : Int)) = 0 from rfl] at this
   rw [this]
   simp [Hd.start]
 | succ k ih =>
  intro hk
  obtain ⟨h1, h2, h3, h4⟩ := ih (by omega)
  rw [at_succ _ _ _ (by omega)]
  have hva := valid_at hv k (by omega)
  unfold Hd.step
  dsimp only
  obtain ⟨P, hP⟩ : ∃ P, P = (at_ (n : Int) l k).part := ⟨_, rfl⟩
  rw [← hP] at h1 h2 h3 h4 ⊢
  by_cases he : rd P (rd_T32 l k).f0 = rd P (rd_T32 l k).f1
  ·rw [if_pos he, ← hP]
   refine ⟨h1, h2, h3, fun j hj => ?_⟩
   by_cases e : j = k
   ·rw [e]; exact he
   ·exact h4 j (by omega)
  ·rw [if_neg he]
   dsimp only
   obtain ⟨a, ha⟩ : ∃ a, a = rd P (rd_T32 l k).f0 := ⟨_, rfl⟩
   obtain ⟨b, hb⟩ : ∃ b, b = rd P (rd_T32 l k).f1 := ⟨_, rfl⟩
   have ha0 := h2 (rd_T32 l k).f0 hva.1 hva.2.1
   have hb0 := h2 (rd_T32 l k).f1 hva.2.2.1 hva.2.2.2
   rw [← ha, ← hb] at he
   rw [← ha] at ha0
   rw [← hb] at hb0
   rw [← ha, ← hb]
   have hmx : (mxI a b = a ∧ mnI a b = b) ∨ (mxI a b = b ∧ mnI a b = a) := by unfold mxI mnI; split <;> split <;> omega
   have hmx0 : 0 < mxI a b ∧ 0 ≤ mnI a b := by unfold mxI mnI; split <;> split <;> omega
   refine ⟨by simp [newPart_len, h1], fun p h0 hp => ?_, ?_, fun j hj => ?_⟩
   ·rw [rd_new h1 p h0 hp]
    have := h2 p h0 hp
    split <;> omega
   ·rw [rd_new h1 0 (by omega) (by omega), h3, if_neg (by omega)]
   ·have hvj := valid_at hv j (by omega)
    rw [rd_new h1 _ hvj.1 hvj.2.1, rd_new h1 _ hvj.2.2.1 hvj.2.2.2]
    by_cases e : j = k
    ·rw [e, ← ha, ← hb]
     rcases hmx with ⟨e1, e2⟩ | ⟨e1, e2⟩ <;> rw [e1, e2]
     ·rw [if_pos rfl]; split <;> rfl
     ·rw [if_pos rfl]; split <;> rfl
    ·rw [h4 j (by omega)]
theorem apart {n : Nat} {l : List S32} (hv : surveyB ((n : Int) + 1) l = true) (h : Gm.connB ((n : Int) + 1) l = false) :
  ∃ x : Int → Rat, (∀ s ∈ l, x s.f0 = x s.f1) ∧ x 0 = 0 ∧ ∃ p : Int, 0 ≤ p ∧ p ≤ n ∧ x p = 1 := by
 have e : ((n : Int) + 1) = ((n + 1 : Nat) : Int) := by omega
 rw [e] at hv h
 have hl := labels (by omega) hv l.length (Nat.le_refl _)
 rw [at_all] at hl
 obtain ⟨P, hP⟩ : ∃ P, P = (treeS ((n + 1 : Nat) : Int) l).part := ⟨_, rfl⟩
 unfold Gm.connB at h
 rw [hv, Bool.true_and, ← hP] at h
 rw [← hP] at hl
 obtain ⟨h1, h2, h3, h4⟩ := hl
 refine ⟨fun p => if rd P p = 0 then 0 else 1, fun s hs => ?_, if_pos h3, ?_⟩
 ·obtain ⟨j, hj, hjs⟩ := List.mem_iff_getElem.1 hs
  have h5 := h4 j hj
  rw [rd_mem hj, hjs] at h5
  dsimp only
  rw [h5]
 ·have hne : ∃ v ∈ P, ¬ v = 0 := by
   apply Classical.byContradiction
   intro hno
   have : P.all (· == 0) = true := List.all_eq_true.2 (fun v hv => by
    rw [beq_iff_eq]
    exact Classical.byContradiction (fun h => hno ⟨v, hv, h⟩))
   rw [this] at h
   cases h
  obtain ⟨v, hv, hv0⟩ := hne
  obtain ⟨j, hj, hjs⟩ := List.mem_iff_getElem.1 hv
  refine ⟨(j : Int), by omega, by omega, ?_⟩
  dsimp only
  rw [rd_getElem _ j hj, hjs, if_neg hv0]
section
variable {n : Nat} {l l1 l2 : List S32} {s : S32} (hc : Gm.connB ((n : Int) + 1) l = true) (e : l = l1 ++ s :: l2)
include hc e
end
section
variable {n : Nat} {l : List S32} (hc : Gm.connB ((n : Int) + 1) l = true)
include hc
end
end Go.Proofs.Ytkafbmanmffliaa.Pf

namespace Go.Proofs.Ytkafbmanmffliaa.Q
open Go.RowKit YtkafbmanmffliaaW.PrintWords YtkafbmanmffliaaW.PrintLast YtkafbmanmffliaaW.PrintMore
attribute [local go_sem] max2_int min2_int max_two min_two max_three min_three max_four min_four
def laws_r8Has.l0 : Nat → List Int → Int → Int → Option (Bool)
 | 0, _, _, _ => none
 | k + 1, x0, x1, x5 => if x5 < (x0.length : Int) then (if 0 ≤ x5 then (if (rd x0 x5) = x1 then (some true) else (laws_r8Has.l0 k x0 x1 (wrap64 (x5 + 1)))) else (none)) else (some false)
def laws_r8Has.f (k : Nat) (l0 : List Int) (a1 : Int) : Option (Bool) := laws_r8Has.l0 k l0 a1 0
theorem laws_r8Has.mono_l : ∀ k, (∀ y0 y1 y2, LeO (laws_r8Has.l0 k y0 y1 y2) (laws_r8Has.l0 (k + 1) y0 y1 y2))
 | 0 => fun _ _ _ r h => by simp [laws_r8Has.l0] at h
 | k + 1 => by
  have ih0 := laws_r8Has.mono_l k
  ·intro y0 y1 y2
   unfold laws_r8Has.l0
   repeat' first
   | (with_reducible exact ih0 _ _ _)
   | (with_reducible exact LeO.refl _)
   | (with_reducible exact LeO.none _)
   | (with_reducible refine LeO.ite ?_ ?_)
   | (with_reducible refine LeO.bind ?_ (fun _ => ?_))
   | exact ih0 _ _ _
   | exact LeO.none _
   | refine LeO.ite ?_ ?_
   | refine LeO.bind ?_ (fun _ => ?_)
theorem laws_r8Has.mono : ∀ a0 a1 k, LeO (laws_r8Has.f k a0 a1) (laws_r8Has.f (k + 1) a0 a1) := by
 intro a0 a1 k
 have ih0 := laws_r8Has.mono_l k
 unfold laws_r8Has.f
 repeat' first
   | (with_reducible exact ih0 _ _ _)
   | (with_reducible exact LeO.refl _)
   | (with_reducible exact LeO.none _)
   | (with_reducible refine LeO.ite ?_ ?_)
   | (with_reducible refine LeO.bind ?_ (fun _ => ?_))
   | exact ih0 _ _ _
   | exact LeO.none _
   | refine LeO.ite ?_ ?_
   | refine LeO.bind ?_ (fun _ => ?_)
set_option maxHeartbeats 8000000 in
set_option maxRecDepth 100000 in
theorem laws_r8Has.calls (k : Nat) (A0 : Option Addr) (c0 : Nat) (l0 : List Int) (a1 : Int) (r : Bool) (w : World) (hr0 : Kd.C (Kd.int .i64) w A0 l0.length l0) (hc0 : l0.length ≤ c0) (h : laws_r8Has.f k l0 a1 = some r) :
  Calls Try.prog 35 #[.slice A0 l0.length c0, .int .i64 a1] w fun e w' => e = .returned (.bool r) ∧ Drawn0 w w' := by
 have HR0 := Aside0.mk hr0
 have HC0 := Aside0.mk hc0
 clear hr0 hc0
 have H : (laws_r8Has.l0 k l0 a1 0) = some r := h
 clear h
 have H' := Aside0.mk H
 clear H
 go_enter Try.func35, Try.ntmps35
 go_wp2
 go_loopg [5] k (fun kq v5 w' => ∃ (x5_1 : Int), v5 = .int .i64 x5_1 ∧ Aside0 (laws_r8Has.l0 kq l0 a1 x5_1 = some r) ∧ Aside0 (kq ≤ k) ∧ Drawn0 w w')
 case atStart => exact ⟨(0), (by first | rfl | (simp; done) | (simp [*]; done)), H', ⟨Nat.le_refl _⟩, by repeat (first | exact Drawn0.refl _ | apply Drawn0.step)⟩
 case round =>
  clear H'
  try clear p2
  obtain ⟨x5_1, rfl, HA, HK1, ⟨m1, rfl⟩⟩ := hrel
  cases gk with
  | zero => exact absurd HA.out (by simp [laws_r8Has.l0])
  | succ k1 =>
   have H := HA.out
   clear HA
   simp only [laws_r8Has.l0] at H
   by_cases c3 : x5_1 < (l0.length : Int)
   ·rw [if_pos c3] at H
    have c3b0 : decide (x5_1 < (l0.length : Int)) = true := decide_eq_true c3
    clear c3
    by_cases c4 : 0 ≤ x5_1
    ·rw [if_pos c4] at H
     have c4b0 : decide (0 ≤ x5_1) = true := decide_eq_true c4
     clear c4
     by_cases c5 : (rd l0 x5_1) = a1
     ·rw [if_pos c5] at H
      have c5b0 : ((rd l0 x5_1) == a1) = true := beq_iff_eq.mpr c5
      have c5b1 : ((rd l0 x5_1) != a1) = false := bne_eq_false_iff_eq.mpr c5
      clear c5
      obtain rfl := Option.some.inj H
      have p495 : 0 ≤ (x5_1 : Int) := of_decide_eq_true (by first | (with_reducible assumption) | assumption)
      have q495 : x5_1 < (l0.length : Int) := of_decide_eq_true (by first | (with_reducible assumption) | assumption)
      obtain ⟨ad495, e495, hx495_0⟩ := Kd.at_int HR0.out x5_1 p495 q495
      cases e495
      replace p495 := eq_true p495
      replace q495 := eq_true q495
      go_wp2
      go_ret
      exact ⟨by first | rfl | (simp; done) | (simp [*]; done), by repeat (first | exact Drawn0.refl _ | apply Drawn0.step)⟩
     ·rw [if_neg c5] at H
      have c5b0 : ((rd l0 x5_1) == a1) = false := beq_eq_false_iff_ne.mpr c5
      have c5b1 : ((rd l0 x5_1) != a1) = true := bne_iff_ne.mpr c5
      have H' := Aside0.mk H
      clear H
      have p495 : 0 ≤ (x5_1 : Int) := of_decide_eq_true (by first | (with_reducible assumption) | assumption)
      have q495 : x5_1 < (l0.length : Int) := of_decide_eq_true (by first | (with_reducible assumption) | assumption)
      obtain ⟨ad495, e495, hx495_0⟩ := Kd.at_int HR0.out x5_1 p495 q495
      cases e495
      replace p495 := eq_true p495
      replace q495 := eq_true q495
      go_wp2
      go_roundg k1
      case measure => have := HK1.out; omega
      case rel => exact ⟨(wrap64 (x5_1 + 1)), (by first | rfl | (simp; done) | (simp [*]; done)), H', ⟨by have := HK1.out; omega⟩, by repeat (first | exact Drawn0.refl _ | apply Drawn0.step)⟩
    ·rw [if_neg c4] at H
     exact absurd H (by simp)
   ·rw [if_neg c3] at H
    have c3b0 : decide (x5_1 < (l0.length : Int)) = false := decide_eq_false c3
    clear c3
    obtain rfl := Option.some.inj H
    go_wp2
    go_ret
    exact ⟨by first | rfl | (simp; done) | (simp [*]; done), by repeat (first | exact Drawn0.refl _ | apply Drawn0.step)⟩
end Go.Proofs.Ytkafbmanmffliaa.Q

namespace Go.Proofs.Ytkafbmanmffliaa.Q
open Go.RowKit YtkafbmanmffliaaW.PrintWords YtkafbmanmffliaaW.PrintLast YtkafbmanmffliaaW.PrintMore
attribute [local go_sem] max2_int min2_int max_two min_two max_three min_three max_four min_four
def laws_r8Sum.l0 : Nat → List Int → Int → Int → Option (Int)
 | 0, _, _, _ => none
 | k + 1, x0, x3, x4 => if x4 < (x0.length : Int) then (if 0 ≤ x4 then (laws_r8Sum.l0 k x0 (wrap64 (x3 + (rd x0 x4))) (wrap64 (x4 + 1))) else (none)) else (some x3)
def laws_r8Sum.f (k : Nat) (l0 : List Int) : Option (Int) := laws_r8Sum.l0 k l0 0 0
theorem laws_r8Sum.mono_l : ∀ k, (∀ y0 y1 y2, LeO (laws_r8Sum.l0 k y0 y1 y2) (laws_r8Sum.l0 (k + 1) y0 y1 y2))
 | 0 => fun _ _ _ r h => by simp [laws_r8Sum.l0] at h
 | k + 1 => by
  have ih0 := laws_r8Sum.mono_l k
  ·intro y0 y1 y2
   unfold laws_r8Sum.l0
   repeat' first
   | (with_reducible exact ih0 _ _ _)
   | (with_reducible exact LeO.refl _)
   | (with_reducible exact LeO.none _)
   | (with_reducible refine LeO.ite ?_ ?_)
   | (with_reducible refine LeO.bind ?_ (fun _ => ?_))
   | exact ih0 _ _ _
   | exact LeO.none _
   | refine LeO.ite ?_ ?_
   | refine LeO.bind ?_ (fun _ => ?_)
theorem laws_r8Sum.mono : ∀ a0 k, LeO (laws_r8Sum.f k a0) (laws_r8Sum.f (k + 1) a0) := by
 intro a0 k
 have ih0 := laws_r8Sum.mono_l k
 unfold laws_r8Sum.f
 repeat' first
   | (with_reducible exact ih0 _ _ _)
   | (with_reducible exact LeO.refl _)
   | (with_reducible exact LeO.none _)
   | (with_reducible refine LeO.ite ?_ ?_)
   | (with_reducible refine LeO.bind ?_ (fun _ => ?_))
   | exact ih0 _ _ _
   | exact LeO.none _
   | refine LeO.ite ?_ ?_
   | refine LeO.bind ?_ (fun _ => ?_)
end Go.Proofs.Ytkafbmanmffliaa.Q

/- Plain: the told redundancies. -/
namespace Go.Proofs.Ytkafbmanmffliaa.Pg
open Go Go.RowKit YtkafbmanmffliaaW.PrintWords Q Gs Kc Lo Ex
set_option linter.unusedSectionVars false
def gq (n : Nat) (l : List S32) : Nat := gcdAll (dn n l) (l.map (redN n l))
def rv (n : Nat) (l : List S32) (s : S32) : Int := redN n l s / (gq n l : Int)
def rD (n : Nat) (l : List S32) : Int := ((dn n l / gq n l : Nat) : Int)
section
variable {n : Nat} {l : List S32} (hc : Gm.connB ((n : Int) + 1) l = true)
include hc
end
theorem has_eq (xs : List Int) (y : Int) (hl : xs.length < 1000000) : ∀ k i : Nat, i ≤ xs.length → xs.length - i < k → laws_r8Has.l0 k xs y (i : Int) = some (decide (y ∈ xs.drop i)) := by
 intro k
 induction k with
 | zero => intro i _ h; omega
 | succ k ih =>
  intro i hi hk
  unfold laws_r8Has.l0
  by_cases h : i < xs.length
  ·rw [if_pos (by omega), if_pos (by omega)]
   have hd : xs.drop i = rd xs (i : Int) :: xs.drop (i + 1) := by
    rw [List.drop_eq_getElem_cons h]; simp [rd, List.getD_eq_getElem?_getD, h]
   by_cases hx : rd xs (i : Int) = y
   ·rw [if_pos hx, hd, hx]; simp
   ·rw [if_neg hx, show wrap64 ((i : Int) + 1) = ((i + 1 : Nat) : Int) by rw [Dw.wrap_id (by omega) (by omega)]; omega, ih (i + 1) (by omega) (by omega), hd]
    congr 1
    rw [decide_eq_decide]
    simp only [List.mem_cons]
    exact ⟨Or.inr, fun h => h.resolve_left (fun e => hx e.symm)⟩
  ·rw [if_neg (by omega), List.drop_eq_nil_of_le (by omega)]; simp
theorem has_f (xs : List Int) (y : Int) (hl : xs.length < 1000000) : laws_r8Has.f (xs.length + 1) xs y = some (decide (y ∈ xs)) := has_eq xs y hl (xs.length + 1) 0 (by omega) (by omega)
def sumI : List Int → Int
 | [] => 0
 | x :: r => x + sumI r
end Go.Proofs.Ytkafbmanmffliaa.Pg

/- The reference's l10DrawGood: a survey whose sights agree with some heights. -/
namespace Go.Proofs.Ytkafbmanmffliaa.Dg
open Go Go.RowKit YtkafbmanmffliaaW.PrintWords YtkafbmanmffliaaW.PrintLast YtkafbmanmffliaaW.PrintMore Q Hc Gd Ge Gi Gv Dw
def TG (w0 W wz : World) (v : Value) (l : List S32) : Prop := Kd.R k32 32 wz w0.heap.size (fun k => W.heap.size ≤ k) v l
theorem tg_nil {w0 W : World} (w1 : World) (h0 : w0.heap.size ≤ w1.heap.size) (h1 : W.heap.size ≤ w1.heap.size) : TG w0 W (w1.alloc (.cells #[] 32)) (.slice (some ⟨w1.heap.size, 0, none⟩) 0 0) [] := by
 have ho := World.ownsRow_lit (base := w0.heap.size) (e := 32) (size := 4) w1 #[] 0 h0 (by simp [maxLen]) (by simp)
 have ho' : (w1.alloc (.cells #[] 32)).ownsRow w0.heap.size 32 4 (.slice (some ⟨w1.heap.size, 0, none⟩) 0 0) 0 [] := by simpa using ho
 exact ⟨fun k hk => by have e : w1.heap.size = k := Option.some.inj hk; omega, [], ho', by constructor <;> simp⟩
structure Dg (w0 W wz : World) (g bv bh ch : Nat) (p : Int) (v : Value) (l : List S32) (hs : List Int) (N : Int) : Prop where
 src : Sr w0 wz g N
 r0 : wz.heap[W.heap.size]? = some (.cells #[.int .i64 0, .slice none 0 0] 26 (0, 0))
 vb : wz.heap[bv]? = some (.cells #[.int .i64 p, v] 26 (0, 0))
 vg : W.heap.size < bv
 hg : W.heap.size < bh
 hc : Cb wz 2 bh ch (hs.map (Value.int .i64))
 ts : TG w0 W wz v l
 be : Below w0.heap.size w0 wz
 kb : KeepBut W wz g none
 gl : g < W.heap.size
 wl : w0.heap.size ≤ W.heap.size
section
variable {w0 W wz w1 w2 : World} {g bv bh ch g1 cap1 : Nat} {p x : Int} {v v1 : Value} {l : List S32} {s : S32} {hs : List Int} {N M : Int}
theorem Dg.call (h : Dg w0 W wz g bv bh ch p v l hs N) (hs' : Sr w0 w1 g M) (hb : Below w0.heap.size w0 w1) (hk : KeepBut wz w1 g none) : Dg w0 W w1 g bv bh ch p v l hs M := by
 have h1 := h.gl
 have h2 := h.vg
 have h3 := h.hg
 exact ⟨hs', hk.blk h.r0 (by omega) (by simp), hk.blk h.vb (by omega) (by simp), h2, h3, h.hc.kept (hk.2 bh h.hc.lt (by omega) (by simp)), Kd.R_keep h.ts hk (fun k hk => by omega), hb, h.kb.trans hk (.inl rfl), h1, h.wl⟩
theorem Dg.below (h : Dg w0 W wz g bv bh ch p v l hs N) (hb : Below wz.heap.size wz w1) : Dg w0 W w1 g bv bh ch p v l hs N :=
 ⟨h.src.below hb, blk_below h.r0 hb, blk_below h.vb hb, h.vg, h.hg, h.hc.below hb, Kd.R_below h.ts hb, below_step h.be hb, h.kb.trans (KeepBut.of_below hb g none) (.inl rfl), h.gl, h.wl⟩
theorem Dg.le (h : Dg w0 W wz g bv bh ch p v l hs N) (hm : N ≤ M) : Dg w0 W wz g bv bh ch p v l hs M := ⟨h.src.le hm, h.r0, h.vb, h.vg, h.hg, h.hc, h.ts, h.be, h.kb, h.gl, h.wl⟩
theorem Dg.height (h : Dg w0 W wz g bv bh ch p v l hs N) (h1 : Cb w2 2 g1 cap1 (hs.map (Value.int .i64) ++ [.int .i64 x])) (hat : g1 = bh ∨ wz.heap.size ≤ g1) (hg : wz.grownBy w2 (some bh)) : Dg w0 W w2 g bv g1 cap1 p v l (hs ++ [x]) N := by
 have g1' := h.gl
 have g2 := h.vg
 have g3 := h.hg
 have g4 := h.kb.1
 have g5 := h.wl
 have g6 := blk_lt h.r0
 obtain ⟨cs, hcs, -⟩ := h.hc
 have ne1 : g ≠ bh := by omega
 have ne2 : bv ≠ bh := blk_ne h.vb hcs (by decide)
 refine ⟨h.src.grown hg (fun e => ne1 (Option.some.inj e)), blk_grown h.r0 hg (fun e => by have := Option.some.inj e; omega), blk_grown h.vb hg (fun e => ne2 (Option.some.inj e)), g2, ?_, by rw [List.map_append]; exact h1,
  Kd.R_mono (Kd.R_grown (Kd.R_types h.ts hcs (by decide)) hg (fun k hk e => hk.2 (Option.some.inj e))) (fun _ hk => hk.1), below_grownB h.be (Nat.le_refl _) hg (by omega), h.kb.trans (KeepBut.of_grown hg g) (.inr ⟨bh, rfl, by omega⟩), g1', g5⟩
 rcases hat with e | e <;> omega
theorem Dg.push (h : Dg w0 W wz g bv bh ch p v l hs N) (h1 : TG w0 W w2 v1 (l ++ [s])) (hg : wz.grownBy w2 v.ownBlock) : Dg w0 W (w2.setCell ⟨bv, 1, none⟩ v1) g bv bh ch p v1 (l ++ [s]) hs N := by
 have g1' := h.gl
 have g2 := h.vg
 have g3 := h.hg
 have g4 := h.kb.1
 have g5 := h.wl
 obtain ⟨cs, hcs, hcr⟩ := h.hc
 have ne2 : bv ≠ bh := blk_ne h.vb hcs (by decide)
 obtain ⟨ls, a_, s_, hI, hI2⟩ := h.src
 have n1 : some g ≠ v.ownBlock := hI.own_ne h.ts (by decide)
 have vb := blk_grown h.vb hg (Kd.R_ne h.ts h.vb (by decide))
 have hsr : Sr w0 w2 g N := Sr.grown (N := N) ⟨ls, a_, s_, hI, hI2⟩ hg n1
 have hkb : KeepBut W w2 g none := h.kb.trans (KeepBut.of_grown hg g) (by
  cases hv : v.ownBlock with
  | none => exact .inl rfl
  | some b => exact .inr ⟨b, rfl, h.ts.1 b hv⟩)
 have hbe : Below w0.heap.size w0 w2 := by
  cases hv : v.ownBlock with
  | none => rw [hv] at hg; exact below_step h.be ⟨hg.os, hg.tape, hg.output, hg.size, fun k hk => hg.block k hk (by simp)⟩
  | some b => rw [hv] at hg; exact below_grownB h.be (Nat.le_refl _) hg (Nat.le_trans h.wl (h.ts.1 b hv))
 refine ⟨hsr.set vb (by decide) v1, blk_far (blk_grown h.r0 hg (Kd.R_ne h.ts h.r0 (by decide))) (by show W.heap.size ≠ bv; omega) _, blk_put vb 1 v1 rfl, g2, g3, ?_, Kd.R_set h1 vb (by decide) 1 v1, hbe.setCell (p := ⟨bv, 1, none⟩) (by show w0.heap.size ≤ bv; omega) _, keep_far hkb (by show W.heap.size ≤ bv; omega) _, g1', g5⟩
 have hb2 := blk_grown hcs hg (Kd.R_ne h.ts hcs (by decide))
 exact ⟨cs, blk_far hb2 (fun e => ne2 e.symm) _, hcr⟩
theorem Dg.setx (h : Dg w0 W wz g bv bh ch p v l hs N) {X : Nat} (hx : ∀ k, v.ownBlock = some k → k ≠ X) (h1 : X ≠ g) (h2 : W.heap.size < X) (h3 : X ≠ bv) (h4 : X ≠ bh) (j : Nat) (u : Value) : Dg w0 W (wz.setCell ⟨X, j, none⟩ u) g bv bh ch p v l hs N := by
 have g5 := h.wl
 refine ⟨h.src.far (p := ⟨X, j, none⟩) (fun e => h1 e.symm) u, blk_far h.r0 (by show W.heap.size ≠ X; omega) _, blk_far h.vb (fun e => h3 e.symm) _, h.vg, h.hg, h.hc.kept (Below.heap_setCell wz ⟨X, j, none⟩ u bh (fun e => h4 e.symm)), ?_, h.be.setCell (p := ⟨X, j, none⟩) (by show w0.heap.size ≤ X; omega) u, keep_far h.kb (by show W.heap.size ≤ X; omega) u, h.gl, g5⟩
 exact Kd.R_mono (Kd.R_far (p := ⟨X, j, none⟩) (Kd.R_tight2 rfl h.ts) (fun k hk => hx k hk.1.symm) u) (fun k hk => hk.2)
theorem Dg.hcell (h : Dg w0 W wz g bv bh ch p v l hs N) (i : Nat) (hi : i < hs.length) : wz.cell? ⟨bh, i, none⟩ = some (.int .i64 (rd hs i)) :=
 (h.hc.at_ i _ (by rw [List.getElem?_map, List.getElem?_eq_getElem hi]; simp [rd, List.getD_eq_getElem?_getD, hi])).1
theorem Dg.own (h : Dg w0 W wz g bv bh ch p v l hs N) : ∀ k, v.ownBlock = some k → k < wz.heap.size := Kd.R_lt h.ts
end
def Hok (hs : List Int) : Prop := rd hs 0 = 0 ∧ ∀ h ∈ hs, -20 ≤ h ∧ h ≤ 20
theorem Hok.push {hs : List Int} {x : Int} (h : Hok hs) (h0 : 0 < hs.length) (hx0 : -20 ≤ x) (hx1 : x ≤ 20) : Hok (hs ++ [x]) := by
 refine ⟨?_, fun y hy => ?_⟩
 ·refine Eq.trans ?_ h.1
  cases hs with
  | nil => simp at h0
  | cons a t => rfl
 ·rcases List.mem_append.1 hy with hy | hy
  ·exact h.2 y hy
  ·rw [List.mem_singleton.1 hy]; exact ⟨hx0, hx1⟩
def Gall (q : Nat) (hs : List Int) (l : List S32) : Prop := ∀ s ∈ l, Fits q hs s
theorem Gall.push {q : Nat} {hs : List Int} {l : List S32} {s : S32} (h : Gall q hs l) (hs' : Fits q hs s) : Gall q hs (l ++ [s]) := fun t ht => by
 rcases List.mem_append.1 ht with ht | ht
 ·exact h t ht
 ·rw [List.mem_singleton.1 ht]; exact hs'
def GoodEnd (w0 W : World) (g : Nat) (N : Int) (e : Ending) (w' : World) : Prop := ∃ (q : Nat) (l : List S32) (hs : List Int) (v vh : Value), e = .returned (.tuple #[.agg #[.int .i64 q, v], vh]) ∧ 2 ≤ q ∧ q ≤ 5 ∧ l.length ≤ 8 ∧ hs.length = q ∧ Hok hs ∧ Gall q hs l ∧ TG w0 W w' v l ∧ T w0.heap.size w' vh hs ∧ Sr w0 w' g (N + 40) ∧ Below w0.heap.size w0 w' ∧ KeepBut W w' g none
abbrev R0 : Obj := .cells #[.int .i64 0, .slice none 0 0] 26
set_option maxHeartbeats 8000000 in
set_option maxRecDepth 100000 in
theorem good_any {w0 W : World} {g : Nat} {N : Int} (hN : N ≤ 500) (hs : Sr w0 W g N) (hB : Below w0.heap.size w0 W) :
  Calls Try.prog 90 #[.pointer (some ⟨g, 0, none⟩)] W (GoodEnd w0 W g N) := by
 unfold GoodEnd
 have hu26 := Try.underlying26
 have hu32 := Try.underlying32
 have hu24 := Try.underlying24
 have hgl := hs.lt
 have hwl : w0.heap.size ≤ W.heap.size := hB.size
 have hc0 := pick_any 4 (by decide) (by decide) (by omega) (hs.below (below_alloc (Below.refl _ _) R0)) (below_alloc hB R0)
 have K0 := Aside0.mk (keep_alloc (KeepBut.refl W g none) R0)
 have B0 := Aside0.mk (blk_new W R0)
 clear hs hB
 go_enter Try.func90, Try.ntmps90
 go_wp2_with (fail)
 refine hc0.mono ?_
 rintro e w1 ⟨x, rfl, x0, x1, hs1, hb1, hk1⟩
 have hz1 : W.heap.size + 1 ≤ w1.heap.size := by have := hk1.1; simpa using this
 obtain ⟨q, hq⟩ : ∃ q : Nat, 2 + x = (q : Int) := ⟨(2 + x).toNat, by omega⟩
 have hq2 : 2 ≤ q := by omega
 have hq5 : q ≤ 5 := by omega
 have HD0 := Aside0.mk (show Dg w0 W (((w1.alloc (.cells #[] 32)).alloc (.cells #[.int .i64 (q : Int), .slice (some ⟨w1.heap.size, 0, none⟩) 0 0] 26)).alloc (.cells #[.int .i64 0] 2)) g (w1.heap.size + 1) (w1.heap.size + 1 + 1) 1 q (.slice (some ⟨w1.heap.size, 0, none⟩) 0 0) [] [0] (N + 1) by
  have hbb := below_alloc (below_alloc (below_alloc (Below.refl w1.heap.size w1) (.cells #[] 32)) (.cells #[.int .i64 (q : Int), .slice (some ⟨w1.heap.size, 0, none⟩) 0 0] 26)) (.cells #[.int .i64 0] 2)
  have b1 := blk_alloc (blk_new (w1.alloc (.cells #[] 32)) (.cells #[.int .i64 (q : Int), .slice (some ⟨w1.heap.size, 0, none⟩) 0 0] 26)) (.cells #[.int .i64 0] 2)
  rw [World.size_alloc] at b1
  have c1 := Cb.one_new ((w1.alloc (.cells #[] 32)).alloc (.cells #[.int .i64 (q : Int), .slice (some ⟨w1.heap.size, 0, none⟩) 0 0] 26)) 2 (.int .i64 0) (Pv.i64 _)
  rw [World.size_alloc, World.size_alloc] at c1
  exact ⟨hs1.below hbb, blk_below (hk1.blk B0.out (by omega) (by simp)) hbb, b1, by omega, by omega, c1, Kd.R_below (tg_nil w1 (by omega) (by omega)) (below_alloc (below_alloc (Below.refl _ _) _) _), below_step hb1 hbb, (K0.out.trans hk1 (.inl rfl)).trans (KeepBut.of_below hbb g none) (.inl rfl), hgl, hwl⟩)
 clear hs1 hb1 hk1 hc0 K0 B0
 go_wp2_with (fail)
 clear x0 x1 hq
 go_loopw [5, 6] (fun v5 v6 wz => ∃ (k bh ch : Nat) (hs : List Int), v5 = .slice (some ⟨bh, 0, none⟩) k ch ∧ v6 = .int .i64 (k : Int) ∧ 1 ≤ k ∧ k ≤ q ∧ Aside0 (hs.length = k) ∧ Aside0 (Hok hs) ∧ Aside0 (Dg w0 W wz g (w1.heap.size + 1) bh ch q (.slice (some ⟨w1.heap.size, 0, none⟩) 0 0) [] hs (N + k))) (fun _ v _ => q - (intOf v).toNat)
 case atStart => exact ⟨1, _, 1, [0], rfl, rfl, by omega, by omega, ⟨rfl⟩, ⟨⟨rfl, fun h hh => by rw [List.mem_singleton.1 hh]; omega⟩⟩, HD0⟩
 case round =>
  clear HD0
  obtain ⟨k, bh, ch, hs, rfl, rfl, hk1, hkq, HL, HO, HD⟩ := hrel
  have e0 : wr.cell? ⟨w1.heap.size + 1, 0, none⟩ = some (.int .i64 (q : Int)) := (blk_cell HD.out.vb 0).trans rfl
  by_cases hlt : k < q
  ·have p1 : decide ((k : Int) < (q : Int)) = true := decide_eq_true (by omega)
   have hz := pick_any 41 (by decide) (by decide) (by omega) HD.out.src HD.out.be
   go_wp2_with (fail)
   refine hz.mono ?_
   rintro e w2 ⟨y, rfl, y0, y1, hs1, hb1, hk2⟩
   have HD1 := Aside0.mk (HD.out.call hs1 hb1 hk2)
   clear hz hs1 hb1 hk2 e0
   go_wp2_with ((with_reducible refine gate_builtin (b := .append) (xs := #[.tmp 22, .tmp 26]) rfl ?_); at_builtin; refine Cb.append rfl (.tmp 22) (.tmp 26) 28 2 (.int .i64 0) 8 rfl Try.underlying28 info2 rfl (Pv.i64 _) (by decide) bh ch k _ (.int .i64 (y - 20)) (by rw [List.length_map, HL.out]) rfl rfl rfl (Pv.i64 _) HD1.out.hc (by rw [List.length_map, HL.out]; omega) ?_; intro g1 cap1 w3 h1 h2 h3; have HD2 := Aside0.mk (HD1.out.height h1 h2 h3); clear h1 h2 h3)
   go_roundw
   case rel => exact ⟨k + 1, g1, cap1, hs ++ [y - 20], by go_num, by go_num, by omega, by omega, ⟨by have := HL.out; simp [this]⟩, ⟨HO.out.push (by have := HL.out; omega) (by omega) (by omega)⟩, ⟨HD2.out.le (by omega)⟩⟩
   case measure => simp [intOf]; omega
  ·obtain rfl : q = k := by omega
   have p1 : decide ((q : Int) < (q : Int)) = false := decide_eq_false (by omega)
   have hz := one_any 8 (by decide) (by decide) (by omega) HD.out.src HD.out.be
   go_wp2_with (fail)
   refine hz.mono ?_
   rintro e w2 ⟨b, rfl, hs1, hb1, hk2⟩
   have HD1 := Aside0.mk (HD.out.call hs1 hb1 hk2)
   obtain ⟨bv, hbv⟩ : ∃ bv, bv = w1.heap.size + 1 := ⟨_, rfl⟩
   rw [← hbv] at HD1 ⊢
   clear hz hs1 hb1 hk2 e0 HD hbv
   go_upto_if 30 with (fail)
   go_cut [5] (fun v5 wz => v5 = .slice (some ⟨bh, 0, none⟩) q ch ∧ ∃ (l : List S32) (v : Value), l.length ≤ 4 ∧ Aside0 (Gall q hs l) ∧ Aside0 (Dg w0 W wz g bv bh ch q v l hs (N + 20)))
   case first =>
    cases b with
    | true =>
     simp only [Bool.not_true]
     go_wp2_with (fail)
     go_meet
     case rel => exact ⟨rfl, [], _, by simp, ⟨fun s hs => by simp at hs⟩, ⟨HD1.out.le (by omega)⟩⟩
    | false =>
     simp only [Bool.not_false]
     go_wp2_with (fail)
     go_loopw [7] (fun v7 wz => ∃ (k : Nat) (l : List S32) (v : Value), v7 = .int .i64 (k : Int) ∧ 1 ≤ k ∧ k ≤ q ∧ Aside0 (l.length + 1 = k) ∧ Aside0 (Gall q hs l) ∧ Aside0 (Dg w0 W wz g bv bh ch q v l hs (N + 6 + 2 * k))) (fun v _ => q - (intOf v).toNat)
     case atStart => exact ⟨1, [], _, rfl, by omega, by omega, ⟨rfl⟩, ⟨fun s hs => by simp at hs⟩, ⟨HD1.out.le (by omega)⟩⟩
     case round =>
      clear HD1
      obtain ⟨k, l, v, rfl, hk1, hkq, HKL, HG, HD⟩ := hrel
      have e0 : wr.cell? ⟨bv, 0, none⟩ = some (.int .i64 (q : Int)) := (blk_cell HD.out.vb 0).trans rfl
      by_cases hlt : k < q
      ·have p1 : decide ((k : Int) < (q : Int)) = true := decide_eq_true (by omega)
       have hz := pick_any (k : Int) (by omega) (by omega) (by omega) HD.out.src HD.out.be
       go_wp2_with (fail)
       refine hz.mono ?_
       rintro e w3 ⟨a, rfl, a0, a1, hs1, hb1, hk2⟩
       obtain ⟨a, rfl⟩ : ∃ a' : Nat, a = a' := ⟨a.toNat, by omega⟩
       have HD1 := Aside0.mk (HD.out.call hs1 hb1 hk2)
       have HD2 := Aside0.mk (HD1.out.below (below_alloc (Below.refl _ _) (.cells #[.int .i64 (a : Int), .int .i64 (k : Int), .int .i64 0, .int .i64 0] 32)))
       have XB := Aside0.mk (blk_new w3 (.cells #[.int .i64 (a : Int), .int .i64 (k : Int), .int .i64 0, .int .i64 0] 32))
       have HX := Aside0.mk (show (∀ j, v.ownBlock = some j → j ≠ w3.heap.size) ∧ w3.heap.size ≠ g ∧ W.heap.size < w3.heap.size ∧ w3.heap.size ≠ bv ∧ w3.heap.size ≠ bh from ⟨fun j hj => Nat.ne_of_lt (HD1.out.own j hj), Nat.ne_of_gt HD1.out.src.lt, Nat.lt_trans HD1.out.vg (blk_lt HD1.out.vb), Nat.ne_of_gt (blk_lt HD1.out.vb), Nat.ne_of_gt HD1.out.hc.lt⟩)
       have hz := pick_any 3 (by decide) (by decide) (by omega) HD2.out.src HD2.out.be
       clear hs1 hb1 hk2 e0
       go_wp2_with (fail)
       refine hz.mono ?_
       rintro e w4 ⟨b, rfl, b0, b1, hs1, hb1, hk2⟩
       have HD3 := Aside0.mk (HD2.out.call hs1 hb1 hk2)
       have XB3 := hk2.blk XB.out HX.out.2.1 (by simp)
       have f3 := blk_frozen XB3 3
       have e3 : w4.cell? ⟨w3.heap.size, 3, none⟩ = some (.int .i64 0) := (blk_cell XB3 3).trans rfl
       have HD4 := Aside0.mk (HD3.out.setx HX.out.1 HX.out.2.1 HX.out.2.2.1 HX.out.2.2.2.1 HX.out.2.2.2.2 3 (.int .i64 (1 + b)))
       have XB4 := blk_put XB3 3 (.int .i64 (1 + b)) rfl
       have f2 := blk_frozen XB4 2
       have x0 : (w4.setCell ⟨w3.heap.size, 3, none⟩ (.int .i64 (1 + b))).cell? ⟨w3.heap.size, 0, none⟩ = some (.int .i64 (a : Int)) := (blk_cell XB4 0).trans rfl
       have x2 : (w4.setCell ⟨w3.heap.size, 3, none⟩ (.int .i64 (1 + b))).cell? ⟨w3.heap.size, 2, none⟩ = some (.int .i64 0) := (blk_cell XB4 2).trans rfl
       have y0 := HD4.out.hcell k (by have := HL.out; omega)
       have y1 := HD4.out.hcell a (by have := HL.out; omega)
       have XB4 := Aside0.mk XB4
       have r0 := rd_le HO.out.2 (k : Int) (by omega) (by have := HL.out; omega)
       have r1 := rd_le HO.out.2 (a : Int) (by omega) (by have := HL.out; omega)
       clear hz hs1 hb1 hk2 XB3
       go_wp2_with (fail)
       go_region
       have HD5 := Aside0.mk (HD4.out.setx HX.out.1 HX.out.2.1 HX.out.2.2.1 HX.out.2.2.2.1 HX.out.2.2.2.2 2 (.int .i64 (rd hs (k : Int) - rd hs (a : Int))))
       have XB5 := blk_put XB4.out 2 (.int .i64 (rd hs (k : Int) - rd hs (a : Int))) rfl
       have HD6 := Aside0.mk (HD5.out.below (below_drew (Below.refl _ _)))
       have XB6 := blk_drew XB5
       obtain ⟨wq, hwq⟩ : ∃ wq : World, wq = ((w4.setCell ⟨w3.heap.size, 3, none⟩ (.int .i64 (1 + b))).setCell ⟨w3.heap.size, 2, none⟩ (.int .i64 (rd hs (k : Int) - rd hs (a : Int)))).drew := ⟨_, rfl⟩
       rw [← hwq] at HD6 XB6 ⊢
       clear hwq
       obtain ⟨Av, cv, rfl⟩ := Kd.R_slice HD6.out.ts
       have x0 : wq.cell? ⟨w3.heap.size, 0, none⟩ = some (.int .i64 (a : Int)) := (blk_cell XB6 0).trans rfl
       have x1 : wq.cell? ⟨w3.heap.size, 1, none⟩ = some (.int .i64 (k : Int)) := (blk_cell XB6 1).trans rfl
       have x2 : wq.cell? ⟨w3.heap.size, 2, none⟩ = some (.int .i64 (rd hs (k : Int) - rd hs (a : Int))) := (blk_cell XB6 2).trans rfl
       have x3 : wq.cell? ⟨w3.heap.size, 3, none⟩ = some (.int .i64 (1 + b)) := (blk_cell XB6 3).trans rfl
       have z1 : wq.cell? ⟨bv, 1, none⟩ = some (.slice Av l.length cv) := (blk_cell HD6.out.vb 1).trans rfl
       have hfit := Aside0.mk (show Fits q hs ⟨(a : Int), (k : Int), rd hs (k : Int) - rd hs (a : Int), 1 + b⟩ from ⟨by show 0 ≤ (a : Int); omega, by show (a : Int) < q; omega, by show 0 ≤ (k : Int); omega, by show (k : Int) < q; omega, by show (a : Int) ≠ k; omega, rfl, by show 1 ≤ 1 + b; omega, by show 1 + b ≤ 3; omega⟩)
       clear XB5 XB6 r0 r1 y0 y1 f2 f3
       go_wp2_with ((with_reducible refine gate_builtin (b := .append) (xs := #[.tmp 58, .tmp 60]) rfl ?_); at_builtin; refine Kd.R_append k32 (w0 := w0) w0.heap.size rfl (.tmp 58) (.tmp 60) 24 32 (.agg #[.int .i64 0, .int .i64 0, .int .i64 0, .int .i64 0]) 32 rfl Try.underlying24 info32 rfl (by decide) (by decide) (.slice Av l.length cv) l ⟨(a : Int), (k : Int), rd hs (k : Int) - rd hs (a : Int), 1 + b⟩ [.int .i64 (a : Int), .int .i64 (k : Int), .int .i64 (rd hs (k : Int) - rd hs (a : Int)), .int .i64 (1 + b)] (fun k => W.heap.size ≤ k) (fun _ => False) rfl rfl (k32_mkM _ _ _ _) (fun _ hk => hk.elim) (fun _ hk => Nat.le_trans HD6.out.kb.1 hk) HD6.out.ts HD6.out.be HD6.out.be.size (by have := HKL.out; omega) ?_; intro v1 w5 h1 h2 h3 h4; obtain ⟨A1, c1, rfl⟩ := Kd.R_slice h1; have HD7 := Aside0.mk (HD6.out.push h1 h3); have VB7 := blk_grown HD6.out.vb h3 (Kd.R_ne HD6.out.ts HD6.out.vb (by decide)); have q1 : w5.cell? ⟨bv, 1, none⟩ = some (.slice Av l.length cv) := (blk_cell VB7 1).trans rfl; have q2 := blk_frozen VB7 1; clear h1 h2 h3 h4 VB7 x0 x1 x2 x3)
       go_roundw
       case rel => exact ⟨k + 1, _, _, by go_num, by omega, by omega, ⟨by have := HKL.out; simp; omega⟩, ⟨HG.out.push hfit.out⟩, ⟨by have := HD7.out.le (M := N + 6 + 2 * ((k + 1 : Nat) : Int)) (by omega); simpa using this⟩⟩
       case measure => simp [intOf]; omega
      ·have p1 : decide ((k : Int) < (q : Int)) = false := decide_eq_false (by omega)
       have HD1 := Aside0.mk (HD.out.le (M := N + 20) (by omega))
       go_wp2_with (fail)
       go_meet
       case rel => exact ⟨rfl, l, v, by have := HKL.out; omega, HG, HD1⟩
   case rest =>
    obtain ⟨rfl, l, v, hl4, HG, HD⟩ := hcut
    have hz := pick_any 5 (by decide) (by decide) (by omega) HD.out.src HD.out.be
    go_wp2_with (fail)
    refine hz.mono ?_
    rintro e w3 ⟨x, rfl, x0, x1, hs1, hb1, hk2⟩
    obtain ⟨m, rfl⟩ : ∃ m : Nat, x = m := ⟨x.toNat, by omega⟩
    have HD1 := Aside0.mk ((HD.out.call hs1 hb1 hk2).le (M := N + 21 + (12 - 3 * m)) (by omega))
    clear hz hs1 hb1 hk2 HD
    go_wp2_with (fail)
    go_loopw [9] (fun v9 wz => ∃ (n : Nat) (l : List S32) (v : Value), v9 = .int .i64 (n : Int) ∧ l.length + n ≤ 8 ∧ n ≤ 4 ∧ Aside0 (Gall q hs l) ∧ Aside0 (Dg w0 W wz g bv bh ch q v l hs (N + 21 + (12 - 3 * n)))) (fun v _ => (intOf v).toNat)
    case atStart => exact ⟨m, l, v, rfl, by omega, by omega, HG, HD1⟩
    case round =>
     clear HD1 HG
     obtain ⟨n, l, v, rfl, hln, hn4, HG, HD⟩ := hrel
     by_cases hn0 : 0 < n
     ·have p1 : decide (0 < (n : Int)) = true := decide_eq_true (by omega)
      have p2 : decide ((n : Int) > 0) = true := p1
      obtain ⟨Av, cv, rfl⟩ := Kd.R_slice HD.out.ts
      have e1 : wr.cell? ⟨bv, 1, none⟩ = some (.slice Av l.length cv) := (blk_cell HD.out.vb 1).trans rfl
      have e0 : wr.cell? ⟨bv, 0, none⟩ = some (.int .i64 (q : Int)) := (blk_cell HD.out.vb 0).trans rfl
      have HDw := Aside0.mk (HD.out.below (below_drew (Below.refl wr.heap.size wr)))
      have HLN := Aside0.mk (show (l.length + 1) * 32 ≤ 140737488355328 by omega)
      have HSI := Aside0.mk (show Calls Try.prog 123 #[.pointer (some ⟨g, 0, none⟩), .int .i64 (q : Int), .slice (some ⟨bh, 0, none⟩) q ch] wr.drew (fun e w' => ∃ s : S32, e = .returned (.agg #[.int .i64 s.f0, .int .i64 s.f1, .int .i64 s.f2, .int .i64 s.f3]) ∧ Fits q hs s ∧ Sr w0 w' g (N + 21 + (12 - 3 * n) + 3) ∧ Below w0.heap.size w0 w' ∧ KeepBut wr.drew w' g none) by
       have hT := T.of_cb (B := w0.heap.size) HDw.out.hc (Nat.le_trans HDw.out.wl (Nat.le_of_lt HDw.out.hg))
       have h := sight_any (q : Int) hs (some ⟨bh, 0, none⟩) ch (by omega) (by omega) (by have := HL.out; omega) HO.out.2 (by omega) HDw.out.src HDw.out.be (Kd.R_reads' hT).2.2 (Kd.R_reads' hT).2.1 (fun ad e _ => by
        have e := Option.some.inj e
        subst e
        have := HDw.out.hg
        have := HDw.out.gl
        show bh ≠ g
        omega)
       rw [HL.out] at h
       exact h)
      go_wp2_with (fail)
      refine start_ (n:=11) (S := fun w' => w'.cell? ⟨bv, 1, none⟩ = some (.slice Av l.length cv) ∧ w'.cell? ⟨bv, 0, none⟩ = some (.int .i64 (q : Int))) (ds:=[10]) #[false,false,false,false,false,false,false,false,false,false,false] (by kernel_rfl) rfl rfl ⟨e1, e0⟩ (fun hHeld => ?_)
      refine pure_ (i:=0) (N:=some 69) (v:=?_) (a':=?_) #[true,false,false,false,false,false,false,false,false,false,false] rfl rfl (by kernel_rfl) (fun _ _ _ h => h) (Or.inl ⟨by rfl, ?_⟩) ?_ ?_
      rotate_left
      ·intro w'
       go_simp
       with_reducible rfl
      rotate_left
      ·go_simp
       rfl
      refine pure_ (i:=2) (N:=some 71) (v:=?_) (a':=?_) #[true,false,true,false,false,false,false,false,false,false,false] rfl rfl (by kernel_rfl) (fun _ _ _ h => h) (Or.inl ⟨by rfl, ?_⟩) ?_ ?_
      rotate_left
      ·intro w'
       go_simp
       with_reducible rfl
      rotate_left
      ·go_simp
       rfl
      refine pure_ (i:=3) (N:=some 72) (v:=?_) (a':=?_) #[true,false,true,true,false,false,false,false,false,false,false] rfl rfl (by kernel_rfl) (fun _ _ _ h => h) (Or.inl ⟨by rfl, ?_⟩) ?_ ?_
      rotate_left
      ·intro w'
       go_simp
       with_reducible rfl
      rotate_left
      ·go_simp
       rfl
      refine pure_ (i:=5) (N:=some 74) (v:=?_) (a':=?_) #[true,false,true,true,false,true,false,false,false,false,false] rfl rfl (by kernel_rfl) (fun _ _ _ h => h) (Or.inl ⟨by rfl, ?_⟩) ?_ ?_
      rotate_left
      ·intro w'
       go_simp
       with_reducible rfl
      rotate_left
      ·go_simp
       rfl
      refine take_ (i:=1) (N:=some 70) (v:=?_) (a':=?_) #[true,true,true,true,false,true,false,false,false,false,false] rfl rfl (by kernel_rfl) (fun _ _ _ h => h) (Or.inl ⟨by rfl, ?_⟩) hHeld ?_ ?_
      rotate_left
      ·rintro w' ⟨s0, s1⟩
       go_simp
       with_reducible rfl
      rotate_left
      ·go_simp
       rfl
      refine take_ (i:=4) (N:=some 73) (v:=?_) (a':=?_) #[true,true,true,true,true,true,false,false,false,false,false] rfl rfl (by kernel_rfl) (fun _ _ _ h => h) (Or.inl ⟨by rfl, ?_⟩) hHeld ?_ ?_
      rotate_left
      ·rintro w' ⟨s0, s1⟩
       go_simp
       with_reducible rfl
      rotate_left
      ·go_simp
       rfl
      refine one_ (i:=6) (N:=some 75) #[true,true,true,true,true,true,true,false,false,false,false] rfl rfl (by kernel_rfl) (by decide) (fun K_ hK => ?_)
      refine goes_ Try.func123 (by kernel_rfl) rfl #[.pointer (some ⟨g, 0, none⟩), .int .i64 (q : Int), .slice (some ⟨bh, 0, none⟩) q ch] (by rfl) rfl rfl (by (try simp only [List.map_toArray, List.map_cons, List.map_nil]); first | done | rfl) ?_
      refine HSI.out.mono ?_
      rintro e w5 ⟨s, rfl, hgood, hs5, hb5, hk5⟩
      have HD5 := Aside0.mk (HDw.out.call hs5 hb5 hk5)
      have HGO := Aside0.mk hgood
      clear hs5 hb5 hk5 hgood
      refine ⟨_, rfl, ?_⟩
      refine hK.out _ _ ⟨(blk_cell HD5.out.vb 1).trans rfl, (blk_cell HD5.out.vb 0).trans rfl⟩ (fun hHeld => ?_)
      clear hK K_
      refine norm_ (a':=?_) ?_ ?_
      rotate_left
      ·show Act.put _ (some 75) _ = _
       go_simp
       rfl
      refine one_ (i:=7) (N:=some 76) #[true,true,true,true,true,true,true,true,false,false,false] rfl rfl (by kernel_rfl) (by decide) (fun K_ hK => ?_)
      refine value_ (v := .slice (some ⟨w5.heap.size, 0, none⟩) 1 1) (w1 := w5.alloc (.cells #[.int .i64 s.f0, .int .i64 s.f1, .int .i64 s.f2, .int .i64 s.f3] 32)) (by rfl) rfl ?_ ?_
      ·go_simp
       first | done | exact ⟨rfl, rfl⟩ | rfl
      refine hK.out _ _ ⟨(blk_cell (blk_alloc HD5.out.vb _) 1).trans rfl, (blk_cell (blk_alloc HD5.out.vb _) 0).trans rfl⟩ (fun hHeld => ?_)
      clear hK K_
      refine norm_ (a':=?_) ?_ ?_
      rotate_left
      ·go_simp
       rfl
      refine one_ (i:=8) (N:=some 77) #[true,true,true,true,true,true,true,true,true,false,false] rfl rfl (by kernel_rfl) (by decide) (fun K_ hK => ?_)
      refine Kd.R_append_step k32 (w0 := w0) w0.heap.size (by rfl) (.tmp 70) (.tmp 76) 24 32 (.agg #[.int .i64 0, .int .i64 0, .int .i64 0, .int .i64 0]) 32 rfl Try.underlying24 info32 rfl (by decide) (by omega) (.slice Av l.length cv) l s [.int .i64 s.f0, .int .i64 s.f1, .int .i64 s.f2, .int .i64 s.f3] (fun k => W.heap.size ≤ k) (fun _ => False) rfl rfl (k32_mkM _ _ _ _) (fun _ hk => hk.elim) (fun _ hk => Nat.le_trans HD5.out.kb.1 hk) HD5.out.ts HD5.out.be HD5.out.be.size HLN.out ?_
      intro v1 w6 h1 Hb2 h3 h4
      obtain ⟨A1, c1, rfl⟩ := Kd.R_slice h1
      have HD6 := Aside0.mk (HD5.out.push h1 h3)
      have VB6 := blk_grown HD5.out.vb h3 (Kd.R_ne HD5.out.ts HD5.out.vb (by decide))
      have q1 : w6.cell? ⟨bv, 1, none⟩ = some (.slice Av l.length cv) := (blk_cell VB6 1).trans rfl
      have q0 : w6.cell? ⟨bv, 0, none⟩ = some (.int .i64 (q : Int)) := (blk_cell VB6 0).trans rfl
      have q2 := blk_frozen VB6 1
      clear h1 h3 h4 VB6
      refine hK.out _ _ ⟨q1, q0⟩ (fun hHeld => ?_)
      clear hK K_
      refine norm_ (a':=?_) ?_ ?_
      rotate_left
      ·go_simp
       rfl
      refine pure_ (i:=9) (N:=some 78) (v:=?_) (a':=?_) #[true,true,true,true,true,true,true,true,true,true,false] rfl rfl (by kernel_rfl) (fun _ _ _ h => h) (Or.inl ⟨by rfl, ?_⟩) ?_ ?_
      rotate_left
      ·intro w'
       go_simp
       with_reducible rfl
      rotate_left
      ·go_simp
       rfl
      refine last_ (i:=10) (N:=none) #[true,true,true,true,true,true,true,true,true,true,true] rfl rfl (by kernel_rfl) (by decide) (fun K_ hK => ?_)
      refine skip_ (w1 := ?_) (by rfl) rfl ?_ ?_
      rotate_left
      ·go_simp
       rfl
      refine hK.out _ _ ?_
      clear hK K_
      refine done_ (by kernel_rfl) ?_
      clear hHeld
      go_wp2_with (fail)
      go_roundw
      case rel => exact ⟨n - 1, l ++ [s], _, by go_num, by simp; omega, by omega, ⟨HG.out.push HGO.out⟩, ⟨by have := HD6.out.le (M := N + 21 + (12 - 3 * ((n - 1 : Nat) : Int))) (by omega); simpa using this⟩⟩
      case measure => simp [intOf]; omega
     ·obtain rfl : n = 0 := by omega
      have p1 : decide (0 < ((0 : Nat) : Int)) = false := rfl
      obtain ⟨Av, cv, rfl⟩ := Kd.R_slice HD.out.ts
      have e1 : wr.cell? ⟨bv, 1, none⟩ = some (.slice Av l.length cv) := (blk_cell HD.out.vb 1).trans rfl
      have e0 : wr.cell? ⟨bv, 0, none⟩ = some (.int .i64 (q : Int)) := (blk_cell HD.out.vb 0).trans rfl
      have r0 : wr.cell? ⟨W.heap.size, 0, none⟩ = some (.int .i64 0) := (blk_cell HD.out.r0 0).trans rfl
      have r1 : wr.cell? ⟨W.heap.size, 1, none⟩ = some (.slice none 0 0) := (blk_cell HD.out.r0 1).trans rfl
      have f0 := blk_frozen HD.out.r0 0
      have f1 := blk_frozen HD.out.r0 1
      have HZ := Aside0.mk (blk_put (blk_put HD.out.r0 0 (.int .i64 (q : Int)) rfl) 1 (.slice Av l.length cv) rfl)
      have hT := T.of_cb (B := w0.heap.size) HD.out.hc (Nat.le_trans HD.out.wl (Nat.le_of_lt HD.out.hg))
      have HT2 := Aside0.mk (Kd.R_set (Kd.R_set hT HD.out.r0 (by decide) 0 (.int .i64 (q : Int))) (blk_put HD.out.r0 0 (.int .i64 (q : Int)) rfl) (by decide) 1 (.slice Av l.length cv))
      have HS2 := Aside0.mk (Kd.R_set (Kd.R_set HD.out.ts HD.out.r0 (by decide) 0 (.int .i64 (q : Int))) (blk_put HD.out.r0 0 (.int .i64 (q : Int)) rfl) (by decide) 1 (.slice Av l.length cv))
      have HSR := Aside0.mk (((HD.out.src.set (j := 0) HD.out.r0 (by decide) (.int .i64 (q : Int))).set (j := 1) (blk_put HD.out.r0 0 (.int .i64 (q : Int)) rfl) (by decide) (.slice Av l.length cv)).le (M := N + 40) (by omega))
      have HBE := Aside0.mk ((HD.out.be.setCell (p := ⟨W.heap.size, 0, none⟩) hwl (.int .i64 (q : Int))).setCell (p := ⟨W.heap.size, 1, none⟩) hwl (.slice Av l.length cv))
      have HKB := Aside0.mk (keep_far (keep_far HD.out.kb (p := ⟨W.heap.size, 0, none⟩) (Nat.le_refl _) (.int .i64 (q : Int))) (p := ⟨W.heap.size, 1, none⟩) (Nat.le_refl _) (.slice Av l.length cv))
      rw [HL.out] at HT2
      go_wp2_with (fail)
      refine bodyPost_ret (results_ct rfl _ _ W.heap.size 26 #[.int .i64 (q : Int), .slice Av l.length cv] (0, 0) _ rfl HZ.out hu26 rfl (by kernel_rfl)) rfl ?_
      exact ⟨q, l, hs, _, _, rfl, hq2, hq5, by omega, HL.out, HO.out, HG.out, HS2.out, HT2.out, HSR.out, HBE.out, HKB.out⟩
end Go.Proofs.Ytkafbmanmffliaa.Dg

