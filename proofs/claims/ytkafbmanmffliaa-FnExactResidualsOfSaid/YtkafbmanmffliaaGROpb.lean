/- Parts of the proof that the law of this seat holds: Va6, Va7, Sp3, Va11, Va12, Ex2, Va10, Q91, Va15, Va18, Va3, PuI, PuEx, LwRO. -/
import Derived.Test.YtkafbmanmffliaaGBpa
import Derived.Test.YtkafbmanmffliaaGBpb
import Derived.Test.YtkafbmanmffliaaGBpc
import Derived.Test.YtkafbmanmffliaaGROpa
import Derived.Test.YtkafbmanmffliaaGBpm
import Derived.Test.YtkafbmanmffliaaGBpn
set_option linter.unusedVariables false
set_option linter.unusedSimpArgs false
namespace Go.Proofs.Ytkafbmanmffliaa.Q
open Go.RowKit YtkafbmanmffliaaW.PrintWords YtkafbmanmffliaaW.PrintLast YtkafbmanmffliaaW.PrintMore
attribute [local go_sem] max2_int min2_int max_two min_two max_three min_three max_four min_four
set_option linter.unusedVariables false
set_option linter.unusedSimpArgs false
def spec_l10Residuals.l0 : Nat → List Int → Int → List Int → Int → Int → List (S32) → Option (Int × List Int × Int)
 | 0, _, _, _, _, _, _ => none
 | k + 1, x4, x5, x6, x7, x1000, x1001 => if x7 < (x1001.length : Int) then (if 0 ≤ x7 then (if 0 ≤ ((rd_T32 x1001 x7).f1) then (if ((rd_T32 x1001 x7).f1) < (x4.length : Int) then (if 0 ≤ ((rd_T32 x1001 x7).f0) then (if ((rd_T32 x1001 x7).f0) < (x4.length : Int) then (if x6.length < 17592186044416 then (spec_l10Residuals.l0 k x4 x5 (x6 ++ [wrap64 ((wrap64 ((wrap64 (((rd_T32 x1001 x7).f2) * x5)) - (rd x4 ((rd_T32 x1001 x7).f1)))) + (rd x4 ((rd_T32 x1001 x7).f0)))]) (wrap64 (x7 + 1)) x1000 x1001) else (none)) else (none)) else (none)) else (none)) else (none)) else (none)) else ((spec_l10Lowest.f k x6 x5).bind fun bt350 => (some (bt350.1, bt350.2, x1000)))
def spec_l10Residuals.f (k : Nat) (s0_0 : Int) (s0_1 : List (S32)) : Option (Int × List Int × Int) := (spec_l10Adjusted.f s0_0 s0_1).bind fun bt335 => (spec_l10Residuals.l0 k bt335.1 bt335.2.1 (([] : List Int)) 0 bt335.2.2 s0_1)
def spec_l10Residuals.T7 : Bool × List (List Nat × List Nat) := (true, [([], []), ([], []), ([1], [1]), ([], []), ([2, 3], [2, 3]), ([], []), ([], []), ([6], [6]), ([5, 7], [5, 7]), ([8], [8]), ([4, 9], [4, 9]), ([], []), ([], []), ([12], [12]), ([11, 13], [11, 13]), ([14], [14]), ([10, 15], [10, 15]), ([16], [16]), ([0, 17], [0, 17]), ([18, 18, 0, 1, 2, 3, 4, 5, 6, 7, 8, 9, 10, 11, 12, 13, 14, 15, 16, 17, 18], [0, 18])])
def spec_l10Residuals.B7 : List Nat := [0, 0, 2, 0, 14, 0, 0, 64, 224, 480, 1022, 0, 0, 4096, 14336, 30720, 65534, 131070, 262143, 524287]
theorem spec_l10Residuals.tab7 : rtab .any (opsOf Try.f83 7) = spec_l10Residuals.T7 := by kernel_rfl
theorem spec_l10Residuals.bits7 : waitsOk spec_l10Residuals.T7.2 spec_l10Residuals.B7 = true := by kernel_rfl
set_option maxHeartbeats 8000000 in
set_option maxRecDepth 100000 in
theorem spec_l10Residuals.calls (k : Nat) (g : Nat) (s0_0 : Int) (s0_1 : List (S32)) (r1 : Int) (r2 : List Int) (r3 : Int) (w0 w : World) (hI : IsS26 w0 w g s0_0 s0_1) (hB : Below w0.heap.size w0 w) (h : spec_l10Residuals.f k s0_0 s0_1 = some (r1, r2, r3)) :
  Calls Try.prog 83 #[.pointer (some ⟨g, 0, none⟩)] w fun e w' => ∃ v1_ : Value, e = .returned (.tuple #[.int .i64 r1, v1_]) ∧ Kd.R (Kd.int .i64) 2 w' w.heap.size (fun _ => True) v1_ r2 ∧ IsS26 w0 w' g r3 s0_1 ∧ Below w0.heap.size w0 w' ∧ KeepBut w w' g none := by
 have hu32 := Try.underlying32
 have HI0 := Aside0.mk hI
 have HK := Aside0.mk (KeepBut.refl w g none)
 have HL := Aside0.mk hB.size
 clear hI
 have HW0 := Aside0.mk hB.size
 have HB := Aside0.mk hB
 clear hB
 have H : ((spec_l10Adjusted.f s0_0 s0_1).bind fun bt335 => (spec_l10Residuals.l0 k bt335.1 bt335.2.1 (([] : List Int)) 0 bt335.2.2 s0_1)) = some (r1, r2, r3) := h
 clear h
 replace H := Option.bind_eq_some_iff.mp H
 obtain ⟨⟨t335, t338, t339⟩, A20, H⟩ := H
 replace H : (spec_l10Residuals.l0 k t335 t338 (([] : List Int)) 0 t339 s0_1) = some (r1, r2, r3) := H
 have A2 := Aside0.mk A20
 clear A20
 obtain ⟨y340, hy340⟩ : ∃ y_ : List Int, y_ = (([] : List Int)) := ⟨_, rfl⟩
 replace H : (spec_l10Residuals.l0 k t335 t338 y340 0 t339 s0_1) = some (r1, r2, r3) := by first | (rw [hy340]; with_reducible exact H) | (have H2_ := (Option.bind_some _ _).symm.trans H; rw [hy340]; with_reducible exact H2_) | (have H2_ := (Option.bind_some _ _).symm.trans H; with_reducible exact H2_) | with_reducible exact H | (rw [hy340]; exact H) | exact H
 have Ny340 := Aside0.mk hy340
 clear hy340
 have H' := Aside0.mk H
 clear H
 go_enter Try.func83, Try.ntmps83
 go_wp2_with (first | ((with_reducible refine gate_callee (f := 77) rfl ?_); refine goesL_ (some 11) rfl rfl Try.func77 (by kernel_rfl) rfl #[.pointer (some ⟨g, 0, none⟩)] rfl (by (try simp only [List.map_toArray, List.map_cons, List.map_nil]); first | done | rfl | (simp only [List.length_drop, List.length_take]; rfl)) ?_; (with_reducible refine (spec_l10Adjusted.calls g s0_0 s0_1 t335 t338 t339 w0 _ ?side1 ?side2 A2.out).mono ?_); (case side1 => repeat (first | (with_reducible first | exact HI0.out | apply IsS26.alloc | apply IsS26.drewN | apply IsS26.drew | apply IsS26.set_0) | exact HI0.out)); (case side2 => repeat (first | (with_reducible first | exact HB.out | apply below_alloc | apply pw_below_drewN | apply below_drew1 | refine below_set ?_ (IsS26.ge HI0.out)) | exact HB.out)); rintro e w3 ⟨v336, rfl, ho0, hi, hb, hk⟩; refine ⟨_, rfl, ?_⟩; have n0_ := Aside0.mk (Kd.R_lower ho0 (keep_size (w := w) (g := g) (row := none) (by repeat (first | (with_reducible first | exact HK.out | apply KeepBut.set_ | apply keep_drewN | apply keep_drew | apply keep_alloc) | exact HK.out)))); have n1_ := Aside0.mk (KeepBut.trans (by repeat (first | (with_reducible first | exact HK.out | apply KeepBut.set_ | apply keep_drewN | apply keep_drew | apply keep_alloc) | exact HK.out)) hk (.inl rfl)); have n2_ := Aside0.mk (hb); have n3_ := Aside0.mk (hi); clear HK; clear HB; clear HI0; have HO337 := n0_; have HK := n1_; have HB := n2_; have HI0 := n3_; clear n0_ n1_ n2_ n3_; (try clear hb); (try clear hb2); (try clear hk); (try clear hi); (try clear ho0)) | ((with_reducible refine gate_dst (N := 14) rfl ?_); refine Kd.R_lit (Kd.int .i64) _ 2 ?hg (N := 14) ?hd (xs := ([] : List Int)) (inner := []) (ok := fun _ => True) (okp := fun _ => True) ?hr ?hp (fun _ hk => hk) trivial (Below.refl _ _) (Nat.le_refl _) (by simp) ?_; (case hd => rfl); (case hg => rfl); (case hr => first | (go_simp; done) | (go_simp; rfl)); (case hp => exact (Reps.none _ _)); intro v341 w4 ho5 hb hg_ hnew_; clear hg_ hnew_; (first | rw [← Ny340.out] at ho5 | (simp only [Int.reduceToNat] at ho5; rw [← Ny340.out] at ho5)); have n0_ := Aside0.mk (Kd.R_elder' (by (with_reducible repeat (first | apply Kd.R_alloc | apply Kd.R_drewN | apply Kd.R_drew)); exact HO337.out) (Kd.R_base ho5) hb); have n1_ := Aside0.mk (Kd.R_lower (Kd.R_new' ho5 (Kd.R_lt (by (with_reducible repeat (first | apply Kd.R_alloc | apply Kd.R_drewN | apply Kd.R_drew)); exact HO337.out))) (keep_size (w := w) (g := g) (row := none) (by repeat (first | (with_reducible first | exact HK.out | apply KeepBut.set_ | apply keep_drewN | apply keep_drew | apply keep_alloc) | exact HK.out)))); have n2_ := Aside0.mk (IsS26.below (by repeat (first | (with_reducible first | exact HI0.out | apply IsS26.alloc | apply IsS26.drewN | apply IsS26.drew | apply IsS26.set_0) | exact HI0.out)) hb); have n3_ := Aside0.mk (KeepBut.trans (by repeat (first | (with_reducible first | exact HK.out | apply KeepBut.set_ | apply keep_drewN | apply keep_drew | apply keep_alloc) | exact HK.out)) (KeepBut.of_below hb g none) (.inl rfl)); have n4_ := Aside0.mk (below_step (by repeat (first | (with_reducible first | exact HB.out | apply below_alloc | apply pw_below_drewN | apply below_drew1 | refine below_set ?_ (IsS26.ge HI0.out)) | exact HB.out)) hb); clear HO337; clear HI0; clear HK; clear HB; have HO337 := n0_; have HO342 := n1_; have HI0 := n2_; have HK := n3_; have HB := n4_; clear n0_ n1_ n2_ n3_ n4_; clear hb ho5))
 go_loopg [6, 7] k (fun kq v6 v7 w' => ∃ (x6_1 : List Int) (x7_1 : Int), v7 = .int .i64 x7_1 ∧ Aside0 (spec_l10Residuals.l0 kq t335 t338 x6_1 x7_1 t339 s0_1 = some (r1, r2, r3)) ∧ Aside0 (kq ≤ k) ∧ Aside0 (Kd.R (Kd.int .i64) 2 w' w.heap.size (fun k_ => some k_ ≠ (v6 : Value).ownBlock) v336 t335) ∧ Aside0 (Kd.R (Kd.int .i64) 2 w' w.heap.size (fun k_ => some k_ ≠ (v336 : Value).ownBlock) v6 x6_1) ∧ Aside0 (IsS26 w0 w' g t339 s0_1) ∧ Aside0 (KeepBut w w' g none) ∧ Aside0 (Below w0.heap.size w0 w'))
 case atStart => exact ⟨(y340), (0), (by first | rfl | (simp; done) | (simp [*]; done)), H', ⟨Nat.le_refl _⟩, ⟨by (with_reducible repeat (first | apply Kd.R_alloc | apply Kd.R_drewN | apply Kd.R_drew)); exact Kd.R_mono HO337.out (fun _ hk => hk.2)⟩, ⟨by (with_reducible repeat (first | apply Kd.R_alloc | apply Kd.R_drewN | apply Kd.R_drew)); exact Kd.R_mono HO342.out (fun _ hk => hk.2)⟩, ⟨by repeat (first | (with_reducible first | exact HI0.out | apply IsS26.alloc | apply IsS26.drewN | apply IsS26.drew | apply IsS26.set_0) | exact HI0.out)⟩, ⟨by repeat (first | (with_reducible first | exact HK.out | apply KeepBut.set_ | apply keep_drewN | apply keep_drew | apply keep_alloc) | exact HK.out)⟩, ⟨by repeat (first | (with_reducible first | exact HB.out | apply below_alloc | apply pw_below_drewN | apply below_drew1 | refine below_set ?_ (IsS26.ge HI0.out)) | exact HB.out)⟩⟩
 case round =>
  clear H'
  try clear p2
  obtain ⟨x6_1, x7_1, rfl, HA, HK1, HO_4, HO_6, HI0, HK, HB⟩ := hrel
  cases gk with
  | zero => exact absurd HA.out (by simp [spec_l10Residuals.l0])
  | succ k1 =>
   have H := HA.out
   clear HA
   simp only [spec_l10Residuals.l0] at H
   by_cases c6 : x7_1 < (s0_1.length : Int)
   ·rw [if_pos c6] at H
    have c6b0 : decide (x7_1 < (s0_1.length : Int)) = true := decide_eq_true c6
    clear c6
    by_cases c7 : 0 ≤ x7_1
    ·rw [if_pos c7] at H
     have c7b0 : decide (0 ≤ x7_1) = true := decide_eq_true c7
     clear c7
     by_cases c8 : 0 ≤ ((rd_T32 s0_1 x7_1).f1)
     ·rw [if_pos c8] at H
      have c8b0 : decide (0 ≤ ((rd_T32 s0_1 x7_1).f1)) = true := decide_eq_true c8
      clear c8
      by_cases c9 : ((rd_T32 s0_1 x7_1).f1) < (t335.length : Int)
      ·rw [if_pos c9] at H
       have c9b0 : decide (((rd_T32 s0_1 x7_1).f1) < (t335.length : Int)) = true := decide_eq_true c9
       clear c9
       by_cases c10 : 0 ≤ ((rd_T32 s0_1 x7_1).f0)
       ·rw [if_pos c10] at H
        have c10b0 : decide (0 ≤ ((rd_T32 s0_1 x7_1).f0)) = true := decide_eq_true c10
        clear c10
        by_cases c11 : ((rd_T32 s0_1 x7_1).f0) < (t335.length : Int)
        ·rw [if_pos c11] at H
         have c11b0 : decide (((rd_T32 s0_1 x7_1).f0) < (t335.length : Int)) = true := decide_eq_true c11
         clear c11
         by_cases c12 : x6_1.length < 17592186044416
         ·rw [if_pos c12] at H
          have LMc12 := Aside0.mk c12
          clear c12
          obtain ⟨y347, hy347⟩ : ∃ y_ : List Int, y_ = (x6_1 ++ [wrap64 ((wrap64 ((wrap64 (((rd_T32 s0_1 x7_1).f2) * t338)) - (rd t335 ((rd_T32 s0_1 x7_1).f1)))) + (rd t335 ((rd_T32 s0_1 x7_1).f0)))]) := ⟨_, rfl⟩
          replace H : (spec_l10Residuals.l0 k1 t335 t338 y347 (wrap64 (x7_1 + 1)) t339 s0_1) = some (r1, r2, r3) := by first | (rw [hy347]; with_reducible exact H) | (have H2_ := (Option.bind_some _ _).symm.trans H; rw [hy347]; with_reducible exact H2_) | (have H2_ := (Option.bind_some _ _).symm.trans H; with_reducible exact H2_) | with_reducible exact H | (rw [hy347]; exact H) | exact H
          have Ny347 := Aside0.mk hy347
          clear hy347
          have H' := Aside0.mk H
          clear H
          obtain ⟨ASz13_1, cSz13_1, HGz13, hgz13, HSz13_1⟩ := HI0.out
          have hcz13_0 := cellS26_0 HGz13
          have hcz13_1 := cellS26_1 HGz13
          have hfz13_0 := blk_frozen HGz13 0
          clear HGz13 hgz13
          have p343 : 0 ≤ (x7_1 : Int) := of_decide_eq_true (by first | (with_reducible assumption) | assumption)
          have q343 : x7_1 < (s0_1.length : Int) := of_decide_eq_true (by first | (with_reducible assumption) | assumption)
          obtain ⟨ad343, e343, hx343_0, hx343_1, hx343_2, hx343_3⟩ := at_T32 HSz13_1 x7_1 p343 q343
          cases e343
          replace hx343_0 := pw_cell_below HB.out hx343_0
          replace hx343_1 := pw_cell_below HB.out hx343_1
          replace hx343_2 := pw_cell_below HB.out hx343_2
          replace hx343_3 := pw_cell_below HB.out hx343_3
          replace p343 := eq_true p343
          replace q343 := eq_true q343
          try go_wp2_with (first | ((with_reducible refine gate_dst (N := 8) rfl ?_); refine box_event ?hg (N := 8) ?hd (cs := #[.int .i64 0, .int .i64 0, .int .i64 0, .int .i64 0]) (t := 32) ?hr ?_; (case hd => rfl); (case hg => rfl); (case hr => first | (go_simp; done) | (go_simp; rfl)); intro gb344 hg w14 hbox hb; have n0_ := Aside0.mk (Kd.R_below (by (with_reducible repeat (first | apply Kd.R_alloc | apply Kd.R_drewN | apply Kd.R_drew)); exact HO_4.out) hb); have n1_ := Aside0.mk (Kd.R_below (by (with_reducible repeat (first | apply Kd.R_alloc | apply Kd.R_drewN | apply Kd.R_drew)); exact HO_6.out) hb); have n2_ := Aside0.mk (IsS26.below (by repeat (first | (with_reducible first | exact HI0.out | apply IsS26.alloc | apply IsS26.drewN | apply IsS26.drew | apply IsS26.set_0) | exact HI0.out)) hb); have n3_ := Aside0.mk (KeepBut.trans (by repeat (first | (with_reducible first | exact HK.out | apply KeepBut.set_ | apply keep_drewN | apply keep_drew | apply keep_alloc) | exact HK.out)) (KeepBut.of_below hb g none) (.inl rfl)); have n4_ := Aside0.mk (below_step (by repeat (first | (with_reducible first | exact HB.out | apply below_alloc | apply pw_below_drewN | apply below_drew1 | refine below_set ?_ (IsS26.ge HI0.out)) | exact HB.out)) hb); have n5_ := Aside0.mk (hbox); have n6_ := Aside0.mk ((by rw [hg]; exact (keep_size (w := w) (g := g) (row := none) (by repeat (first | (with_reducible first | exact HK.out | apply KeepBut.set_ | apply keep_drewN | apply keep_drew | apply keep_alloc) | exact HK.out))) : w.heap.size ≤ gb344)); have n7_ := Aside0.mk ((Nat.le_trans HW0.out (by rw [hg]; exact (keep_size (w := w) (g := g) (row := none) (by repeat (first | (with_reducible first | exact HK.out | apply KeepBut.set_ | apply keep_drewN | apply keep_drew | apply keep_alloc) | exact HK.out))) : w.heap.size ≤ gb344) : w0.heap.size ≤ gb344)); have n8_ := Aside0.mk ((by rw [hg]; exact Nat.ne_of_lt (IsS26.lt (show IsS26 w0 _ g t339 s0_1 from by repeat (first | (with_reducible first | exact HI0.out | apply IsS26.alloc | apply IsS26.drewN | apply IsS26.drew | apply IsS26.set_0) | exact HI0.out))) : g ≠ gb344)); have n9_ := Aside0.mk ((by rw [hg]; exact Nat.ne_of_gt (IsS26.lt (show IsS26 w0 _ g t339 s0_1 from by repeat (first | (with_reducible first | exact HI0.out | apply IsS26.alloc | apply IsS26.drewN | apply IsS26.drew | apply IsS26.set_0) | exact HI0.out))) : gb344 ≠ g)); clear HO_4; clear HO_6; clear HI0; clear HK; clear HB; have HO_4 := n0_; have HO_6 := n1_; have HI0 := n2_; have HK := n3_; have HB := n4_; have BK344 := n5_; have GW344 := n6_; have GE344 := n7_; have NB0_344 := n8_; have NB344_0 := n9_; clear n0_ n1_ n2_ n3_ n4_ n5_ n6_ n7_ n8_ n9_; clear hb hbox hg; have hnb15 := NB344_0.out; have hnc15 := NB0_344.out; have hcz16_0 : w14.cell? ⟨gb344, 0, none⟩ = some (.int .i64 0) := (blk_cell BK344.out 0).trans rfl; have hcz16_1 : w14.cell? ⟨gb344, 1, none⟩ = some (.int .i64 0) := (blk_cell BK344.out 1).trans rfl; have hcz16_2 : w14.cell? ⟨gb344, 2, none⟩ = some (.int .i64 0) := (blk_cell BK344.out 2).trans rfl; have hcz16_3 : w14.cell? ⟨gb344, 3, none⟩ = some (.int .i64 0) := (blk_cell BK344.out 3).trans rfl; have hfz16_0 := blk_frozen BK344.out 0; have hfz16_1 := blk_frozen BK344.out 1; have hfz16_2 := blk_frozen BK344.out 2; have hfz16_3 := blk_frozen BK344.out 3))
          have n0_ : Aside0 (Kd.R (Kd.int .i64) 2 ((((w14.setCell ⟨gb344, 0, none⟩ (.int .i64 ((rd_T32 s0_1 x7_1).f0))).setCell ⟨gb344, 1, none⟩ (.int .i64 ((rd_T32 s0_1 x7_1).f1))).setCell ⟨gb344, 2, none⟩ (.int .i64 ((rd_T32 s0_1 x7_1).f2))).setCell ⟨gb344, 3, none⟩ (.int .i64 ((rd_T32 s0_1 x7_1).f3))) w.heap.size (fun k_ => some k_ ≠ (u6 : Value).ownBlock) v336 t335) := ⟨by (with_reducible repeat (first | apply Kd.R_alloc | apply Kd.R_drewN | apply Kd.R_drew)); exact Kd.R_mono (Kd.R_far (p := ⟨gb344, 3, none⟩) (Kd.R_far (p := ⟨gb344, 2, none⟩) (Kd.R_far (p := ⟨gb344, 1, none⟩) (Kd.R_far (p := ⟨gb344, 0, none⟩) (Kd.R_types HO_4.out BK344.out (by decide)) (fun _ hk => hk.2) (.int .i64 ((rd_T32 s0_1 x7_1).f0))) (fun _ hk => hk.2) (.int .i64 ((rd_T32 s0_1 x7_1).f1))) (fun _ hk => hk.2) (.int .i64 ((rd_T32 s0_1 x7_1).f2))) (fun _ hk => hk.2) (.int .i64 ((rd_T32 s0_1 x7_1).f3))) (fun _ hk => hk.1)⟩
          have n1_ : Aside0 (Kd.R (Kd.int .i64) 2 ((((w14.setCell ⟨gb344, 0, none⟩ (.int .i64 ((rd_T32 s0_1 x7_1).f0))).setCell ⟨gb344, 1, none⟩ (.int .i64 ((rd_T32 s0_1 x7_1).f1))).setCell ⟨gb344, 2, none⟩ (.int .i64 ((rd_T32 s0_1 x7_1).f2))).setCell ⟨gb344, 3, none⟩ (.int .i64 ((rd_T32 s0_1 x7_1).f3))) w.heap.size (fun k_ => some k_ ≠ (v336 : Value).ownBlock) u6 x6_1) := ⟨by (with_reducible repeat (first | apply Kd.R_alloc | apply Kd.R_drewN | apply Kd.R_drew)); exact Kd.R_mono (Kd.R_far (p := ⟨gb344, 3, none⟩) (Kd.R_far (p := ⟨gb344, 2, none⟩) (Kd.R_far (p := ⟨gb344, 1, none⟩) (Kd.R_far (p := ⟨gb344, 0, none⟩) (Kd.R_types HO_6.out BK344.out (by decide)) (fun _ hk => hk.2) (.int .i64 ((rd_T32 s0_1 x7_1).f0))) (fun _ hk => hk.2) (.int .i64 ((rd_T32 s0_1 x7_1).f1))) (fun _ hk => hk.2) (.int .i64 ((rd_T32 s0_1 x7_1).f2))) (fun _ hk => hk.2) (.int .i64 ((rd_T32 s0_1 x7_1).f3))) (fun _ hk => hk.1)⟩
          have n2_ : Aside0 (((((w14.setCell ⟨gb344, 0, none⟩ (.int .i64 ((rd_T32 s0_1 x7_1).f0))).setCell ⟨gb344, 1, none⟩ (.int .i64 ((rd_T32 s0_1 x7_1).f1))).setCell ⟨gb344, 2, none⟩ (.int .i64 ((rd_T32 s0_1 x7_1).f2))).setCell ⟨gb344, 3, none⟩ (.int .i64 ((rd_T32 s0_1 x7_1).f3))).heap[gb344]? = some (.cells #[.int .i64 ((rd_T32 s0_1 x7_1).f0), .int .i64 ((rd_T32 s0_1 x7_1).f1), .int .i64 ((rd_T32 s0_1 x7_1).f2), .int .i64 ((rd_T32 s0_1 x7_1).f3)] 32 (0, 0))) := ⟨by (with_reducible repeat (first | refine blk_drewN ?_ _ | refine blk_drew ?_ | refine blk_alloc ?_ _)); refine blk_put (cs := #[.int .i64 ((rd_T32 s0_1 x7_1).f0), .int .i64 ((rd_T32 s0_1 x7_1).f1), .int .i64 ((rd_T32 s0_1 x7_1).f2), .int .i64 0]) ?_ 3 _ rfl; (with_reducible repeat (first | refine blk_drewN ?_ _ | refine blk_drew ?_ | refine blk_alloc ?_ _)); refine blk_put (cs := #[.int .i64 ((rd_T32 s0_1 x7_1).f0), .int .i64 ((rd_T32 s0_1 x7_1).f1), .int .i64 0, .int .i64 0]) ?_ 2 _ rfl; (with_reducible repeat (first | refine blk_drewN ?_ _ | refine blk_drew ?_ | refine blk_alloc ?_ _)); refine blk_put (cs := #[.int .i64 ((rd_T32 s0_1 x7_1).f0), .int .i64 0, .int .i64 0, .int .i64 0]) ?_ 1 _ rfl; (with_reducible repeat (first | refine blk_drewN ?_ _ | refine blk_drew ?_ | refine blk_alloc ?_ _)); refine blk_put (cs := #[.int .i64 0, .int .i64 0, .int .i64 0, .int .i64 0]) ?_ 0 _ rfl; (with_reducible repeat (first | refine blk_drewN ?_ _ | refine blk_drew ?_ | refine blk_alloc ?_ _)); exact BK344.out⟩
          have n3_ : Aside0 (IsS26 w0 ((((w14.setCell ⟨gb344, 0, none⟩ (.int .i64 ((rd_T32 s0_1 x7_1).f0))).setCell ⟨gb344, 1, none⟩ (.int .i64 ((rd_T32 s0_1 x7_1).f1))).setCell ⟨gb344, 2, none⟩ (.int .i64 ((rd_T32 s0_1 x7_1).f2))).setCell ⟨gb344, 3, none⟩ (.int .i64 ((rd_T32 s0_1 x7_1).f3))) g t339 s0_1) := ⟨by repeat (first | (with_reducible first | exact HI0.out | apply IsS26.alloc | apply IsS26.drewN | apply IsS26.drew | apply IsS26.set_0 | refine IsS26.far ?_ NB0_344.out _) | exact HI0.out)⟩
          have n4_ : Aside0 (KeepBut w ((((w14.setCell ⟨gb344, 0, none⟩ (.int .i64 ((rd_T32 s0_1 x7_1).f0))).setCell ⟨gb344, 1, none⟩ (.int .i64 ((rd_T32 s0_1 x7_1).f1))).setCell ⟨gb344, 2, none⟩ (.int .i64 ((rd_T32 s0_1 x7_1).f2))).setCell ⟨gb344, 3, none⟩ (.int .i64 ((rd_T32 s0_1 x7_1).f3))) g none) := ⟨by repeat (first | (with_reducible first | exact HK.out | apply KeepBut.set_ | apply keep_drewN | apply keep_drew | apply keep_alloc | refine keep_far ?_ GW344.out _) | exact HK.out)⟩
          have n5_ : Aside0 (Below w0.heap.size w0 ((((w14.setCell ⟨gb344, 0, none⟩ (.int .i64 ((rd_T32 s0_1 x7_1).f0))).setCell ⟨gb344, 1, none⟩ (.int .i64 ((rd_T32 s0_1 x7_1).f1))).setCell ⟨gb344, 2, none⟩ (.int .i64 ((rd_T32 s0_1 x7_1).f2))).setCell ⟨gb344, 3, none⟩ (.int .i64 ((rd_T32 s0_1 x7_1).f3)))) := ⟨by repeat (first | (with_reducible first | exact HB.out | apply below_alloc | apply pw_below_drewN | apply below_drew1 | refine below_set ?_ (IsS26.ge HI0.out) | refine below_set ?_ GE344.out) | exact HB.out)⟩
          (try clear HO_4)
          (try clear HO_6)
          (try clear BK344)
          (try clear HI0)
          (try clear HK)
          (try clear HB)
          generalize ((((w14.setCell ⟨gb344, 0, none⟩ (.int .i64 ((rd_T32 s0_1 x7_1).f0))).setCell ⟨gb344, 1, none⟩ (.int .i64 ((rd_T32 s0_1 x7_1).f1))).setCell ⟨gb344, 2, none⟩ (.int .i64 ((rd_T32 s0_1 x7_1).f2))).setCell ⟨gb344, 3, none⟩ (.int .i64 ((rd_T32 s0_1 x7_1).f3))) = w17 at n0_ n1_ n2_ n3_ n4_ n5_ ⊢
          have HO_4 := n0_
          have HO_6 := n1_
          have BK344 := n2_
          have HI0 := n3_
          have HK := n4_
          have HB := n5_
          clear n0_ n1_ n2_ n3_ n4_ n5_
          have n0_ := Aside0.mk (Kd.R_drew HO_4.out)
          have n1_ := Aside0.mk (Kd.R_drew HO_6.out)
          have n2_ := Aside0.mk (blk_drew BK344.out)
          have n3_ := Aside0.mk (IsS26.drew HI0.out)
          have n4_ := Aside0.mk (keep_drew HK.out)
          have n5_ := Aside0.mk (below_drew1 HB.out)
          clear HO_4
          clear HO_6
          clear BK344
          clear HI0
          clear HK
          clear HB
          have HO_4 := n0_
          have HO_6 := n1_
          have BK344 := n2_
          have HI0 := n3_
          have HK := n4_
          have HB := n5_
          clear n0_ n1_ n2_ n3_ n4_ n5_
          obtain ⟨Ao19, co19, eo19⟩ := Kd.R_slice HO_4.out
          (first | subst eo19 | (injection eo19 with f1_ f2_ f3_; have f4_ := f1_.symm; have f5_ := f3_.symm; clear f1_ f2_ f3_; subst f4_; subst f5_))
          have p345 : 0 ≤ (((rd_T32 s0_1 x7_1).f1) : Int) := of_decide_eq_true (by first | (with_reducible assumption) | assumption)
          have q345 : ((rd_T32 s0_1 x7_1).f1) < (t335.length : Int) := of_decide_eq_true (by first | (with_reducible assumption) | assumption)
          obtain ⟨ad345, e345, hx345_0⟩ := Kd.at_int (Kd.R_reads' HO_4.out).2.2 ((rd_T32 s0_1 x7_1).f1) p345 q345
          cases e345
          replace p345 := eq_true p345
          replace q345 := eq_true q345
          have p346 : 0 ≤ (((rd_T32 s0_1 x7_1).f0) : Int) := of_decide_eq_true (by first | (with_reducible assumption) | assumption)
          have q346 : ((rd_T32 s0_1 x7_1).f0) < (t335.length : Int) := of_decide_eq_true (by first | (with_reducible assumption) | assumption)
          obtain ⟨ad346, e346, hx346_0⟩ := Kd.at_int (Kd.R_reads' HO_4.out).2.2 ((rd_T32 s0_1 x7_1).f0) p346 q346
          obtain rfl : ad345 = ad346 := (by injection e346)
          replace p346 := eq_true p346
          replace q346 := eq_true q346
          refine start_ (n := 20) (S := fun w' => w'.cell? ⟨gb344, 0, none⟩ = some (.int .i64 ((rd_T32 s0_1 x7_1).f0)) ∧ w'.cell? ⟨gb344, 1, none⟩ = some (.int .i64 ((rd_T32 s0_1 x7_1).f1)) ∧ w'.cell? ⟨gb344, 2, none⟩ = some (.int .i64 ((rd_T32 s0_1 x7_1).f2)) ∧ w'.cell? ⟨gb344, 3, none⟩ = some (.int .i64 ((rd_T32 s0_1 x7_1).f3)) ∧ w'.cell? (ad345.add (((rd_T32 s0_1 x7_1).f1)).toNat) = some (.int .i64 (rd t335 ((rd_T32 s0_1 x7_1).f1))) ∧ w'.cell? (ad345.add (((rd_T32 s0_1 x7_1).f0)).toNat) = some (.int .i64 (rd t335 ((rd_T32 s0_1 x7_1).f0)))) (ds := [17, 18]) #[false, false, false, false, false, false, false, false, false, false, false, false, false, false, false, false, false, false, false, false] (by kernel_rfl) rfl rfl ⟨(blk_cell BK344.out 0).trans rfl, (blk_cell BK344.out 1).trans rfl, (blk_cell BK344.out 2).trans rfl, (blk_cell BK344.out 3).trans rfl, hx345_0, hx346_0⟩ (fun hHeld => ?_); refine with_tabW spec_l10Residuals.tab7 spec_l10Residuals.bits7 (fun HT_ HW_ => ?_)
          generalize w17.drew = w18 at HO_4 HO_6 BK344 HI0 HK HB hx345_0 hx346_0 hHeld ⊢
          refine pure_ (i := 0) (N := some 31) (v := ?_) (a' := ?_) #[true, false, false, false, false, false, false, false, false, false, false, false, false, false, false, false, false, false, false, false] rfl rfl (any_of HT_.out (by kernel_rfl)) (fun _ _ _ h => h) (Or.inl ⟨by rfl, ?_⟩) ?_ ?_
          rotate_left
          ·intro w'
           go_simp
           with_reducible rfl
          rotate_left
          ·simp only [Act.put, List.setIfInBounds_toArray, List.set_cons_zero, List.set_cons_succ, i64_w, i32_w]
           rfl
          refine pure_ (i := 1) (N := some 32) (v := ?_) (a' := ?_) #[true, true, false, false, false, false, false, false, false, false, false, false, false, false, false, false, false, false, false, false] rfl rfl (any_of HT_.out (by kernel_rfl)) (fun _ _ _ h => h) (Or.inl ⟨by rfl, ?_⟩) ?_ ?_
          rotate_left
          ·intro w'
           go_simp
           with_reducible rfl
          rotate_left
          ·simp only [Act.put, List.setIfInBounds_toArray, List.set_cons_zero, List.set_cons_succ, i64_w, i32_w]
           rfl
          refine pure_ (i := 3) (N := some 34) (v := ?_) (a' := ?_) #[true, true, false, true, false, false, false, false, false, false, false, false, false, false, false, false, false, false, false, false] rfl rfl (any_of HT_.out (by kernel_rfl)) (fun _ _ _ h => h) (Or.inl ⟨by rfl, ?_⟩) ?_ ?_
          rotate_left
          ·intro w'
           go_simp
           with_reducible rfl
          rotate_left
          ·simp only [Act.put, List.setIfInBounds_toArray, List.set_cons_zero, List.set_cons_succ, i64_w, i32_w]
           rfl
          refine pure_ (i := 5) (N := some 36) (v := ?_) (a' := ?_) #[true, true, false, true, false, true, false, false, false, false, false, false, false, false, false, false, false, false, false, false] rfl rfl (any_of HT_.out (by kernel_rfl)) (fun _ _ _ h => h) (Or.inl ⟨by rfl, ?_⟩) ?_ ?_
          rotate_left
          ·intro w'
           go_simp
           with_reducible rfl
          rotate_left
          ·simp only [Act.put, List.setIfInBounds_toArray, List.set_cons_zero, List.set_cons_succ, i64_w, i32_w]
           rfl
          refine pure_ (i := 6) (N := some 37) (v := ?_) (a' := ?_) #[true, true, false, true, false, true, true, false, false, false, false, false, false, false, false, false, false, false, false, false] rfl rfl (any_of HT_.out (by kernel_rfl)) (fun _ _ _ h => h) (Or.inl ⟨by rfl, ?_⟩) ?_ ?_
          rotate_left
          ·intro w'
           go_simp
           with_reducible rfl
          rotate_left
          ·simp only [Act.put, List.setIfInBounds_toArray, List.set_cons_zero, List.set_cons_succ, i64_w, i32_w]
           rfl
          refine pure_ (i := 11) (N := some 42) (v := ?_) (a' := ?_) #[true, true, false, true, false, true, true, false, false, false, false, true, false, false, false, false, false, false, false, false] rfl rfl (any_of HT_.out (by kernel_rfl)) (fun _ _ _ h => h) (Or.inl ⟨by rfl, ?_⟩) ?_ ?_
          rotate_left
          ·intro w'
           go_simp
           with_reducible rfl
          rotate_left
          ·simp only [Act.put, List.setIfInBounds_toArray, List.set_cons_zero, List.set_cons_succ, i64_w, i32_w]
           rfl
          refine pure_ (i := 12) (N := some 43) (v := ?_) (a' := ?_) #[true, true, false, true, false, true, true, false, false, false, false, true, true, false, false, false, false, false, false, false] rfl rfl (any_of HT_.out (by kernel_rfl)) (fun _ _ _ h => h) (Or.inl ⟨by rfl, ?_⟩) ?_ ?_
          rotate_left
          ·intro w'
           go_simp
           with_reducible rfl
          rotate_left
          ·simp only [Act.put, List.setIfInBounds_toArray, List.set_cons_zero, List.set_cons_succ, i64_w, i32_w]
           rfl
          refine take_ (i := 2) (N := some 33) (v := ?_) (a' := ?_) #[true, true, true, true, false, true, true, false, false, false, false, true, true, false, false, false, false, false, false, false] rfl rfl (take_ofW HT_.out HW_.out (by kernel_rfl)) (fun _ _ _ h => h) (Or.inl ⟨by rfl, ?_⟩) hHeld ?_ ?_
          rotate_left
          ·rintro w' ⟨s0, s1, s2, s3, s4, s5⟩
           go_simp
           with_reducible rfl
          rotate_left
          ·simp only [Act.put, List.setIfInBounds_toArray, List.set_cons_zero, List.set_cons_succ, i64_w, i32_w]
           rfl
          refine pure_ (i := 4) (N := some 35) (v := ?_) (a' := ?_) #[true, true, true, true, true, true, true, false, false, false, false, true, true, false, false, false, false, false, false, false] rfl rfl (any_of HT_.out (by kernel_rfl)) (fun _ _ _ h => h) (Or.inl ⟨by rfl, ?_⟩) ?_ ?_
          rotate_left
          ·intro w'
           go_simp
           with_reducible rfl
          rotate_left
          ·simp only [Act.put, List.setIfInBounds_toArray, List.set_cons_zero, List.set_cons_succ, i64_w, i32_w]
           rfl
          refine take_ (i := 7) (N := some 38) (v := ?_) (a' := ?_) #[true, true, true, true, true, true, true, true, false, false, false, true, true, false, false, false, false, false, false, false] rfl rfl (take_ofW HT_.out HW_.out (by kernel_rfl)) (fun _ _ _ h => h) (Or.inl ⟨by rfl, ?_⟩) hHeld ?_ ?_
          rotate_left
          ·rintro w' ⟨s0, s1, s2, s3, s4, s5⟩
           go_simp
           with_reducible rfl
          rotate_left
          ·simp only [Act.put, List.setIfInBounds_toArray, List.set_cons_zero, List.set_cons_succ, i64_w, i32_w]
           rfl
          refine pure_ (i := 8) (N := some 39) (v := ?_) (a' := ?_) #[true, true, true, true, true, true, true, true, true, false, false, true, true, false, false, false, false, false, false, false] rfl rfl (any_of HT_.out (by kernel_rfl)) (fun _ _ _ h => h) (Or.inl ⟨by rfl, ?_⟩) ?_ ?_
          rotate_left
          ·intro w'
           go_simp
           with_reducible rfl
          rotate_left
          ·simp only [Act.put, List.setIfInBounds_toArray, List.set_cons_zero, List.set_cons_succ, i64_w, i32_w]
           rfl
          refine take_ (i := 9) (N := some 40) (v := ?_) (a' := ?_) #[true, true, true, true, true, true, true, true, true, true, false, true, true, false, false, false, false, false, false, false] rfl rfl (take_ofW HT_.out HW_.out (by kernel_rfl)) (fun _ _ _ h => h) (Or.inl ⟨by rfl, ?_⟩) hHeld ?_ ?_
          rotate_left
          ·rintro w' ⟨s0, s1, s2, s3, s4, s5⟩
           go_simp
           with_reducible rfl
          rotate_left
          ·simp only [Act.put, List.setIfInBounds_toArray, List.set_cons_zero, List.set_cons_succ, i64_w, i32_w]
           rfl
          refine pure_ (i := 10) (N := some 41) (v := ?_) (a' := ?_) #[true, true, true, true, true, true, true, true, true, true, true, true, true, false, false, false, false, false, false, false] rfl rfl (any_of HT_.out (by kernel_rfl)) (fun _ _ _ h => h) (Or.inl ⟨by rfl, ?_⟩) ?_ ?_
          rotate_left
          ·intro w'
           go_simp
           with_reducible rfl
          rotate_left
          ·simp only [Act.put, List.setIfInBounds_toArray, List.set_cons_zero, List.set_cons_succ, i64_w, i32_w]
           rfl
          refine take_ (i := 13) (N := some 44) (v := ?_) (a' := ?_) #[true, true, true, true, true, true, true, true, true, true, true, true, true, true, false, false, false, false, false, false] rfl rfl (take_ofW HT_.out HW_.out (by kernel_rfl)) (fun _ _ _ h => h) (Or.inl ⟨by rfl, ?_⟩) hHeld ?_ ?_
          rotate_left
          ·rintro w' ⟨s0, s1, s2, s3, s4, s5⟩
           go_simp
           with_reducible rfl
          rotate_left
          ·simp only [Act.put, List.setIfInBounds_toArray, List.set_cons_zero, List.set_cons_succ, i64_w, i32_w]
           rfl
          refine pure_ (i := 14) (N := some 45) (v := ?_) (a' := ?_) #[true, true, true, true, true, true, true, true, true, true, true, true, true, true, true, false, false, false, false, false] rfl rfl (any_of HT_.out (by kernel_rfl)) (fun _ _ _ h => h) (Or.inl ⟨by rfl, ?_⟩) ?_ ?_
          rotate_left
          ·intro w'
           go_simp
           with_reducible rfl
          rotate_left
          ·simp only [Act.put, List.setIfInBounds_toArray, List.set_cons_zero, List.set_cons_succ, i64_w, i32_w]
           rfl
          refine take_ (i := 15) (N := some 46) (v := ?_) (a' := ?_) #[true, true, true, true, true, true, true, true, true, true, true, true, true, true, true, true, false, false, false, false] rfl rfl (take_ofW HT_.out HW_.out (by kernel_rfl)) (fun _ _ _ h => h) (Or.inl ⟨by rfl, ?_⟩) hHeld ?_ ?_
          rotate_left
          ·rintro w' ⟨s0, s1, s2, s3, s4, s5⟩
           go_simp
           with_reducible rfl
          rotate_left
          ·simp only [Act.put, List.setIfInBounds_toArray, List.set_cons_zero, List.set_cons_succ, i64_w, i32_w]
           rfl
          refine pure_ (i := 16) (N := some 47) (v := ?_) (a' := ?_) #[true, true, true, true, true, true, true, true, true, true, true, true, true, true, true, true, true, false, false, false] rfl rfl (any_of HT_.out (by kernel_rfl)) (fun _ _ _ h => h) (Or.inl ⟨by rfl, ?_⟩) ?_ ?_
          rotate_left
          ·intro w'
           go_simp
           with_reducible rfl
          rotate_left
          ·simp only [Act.put, List.setIfInBounds_toArray, List.set_cons_zero, List.set_cons_succ, i64_w, i32_w]
           rfl
          refine last_ (i := 17) (N := some 48) #[true, true, true, true, true, true, true, true, true, true, true, true, true, true, true, true, true, true, false, false] rfl rfl (one_of HT_.out (by kernel_rfl)) (by decide) (fun K hK => ?_)
          refine value_ (w1 := ?_) (v := ?_) (by rfl) rfl ?_ ?_
          rotate_left 2
          ·go_simp
           constructor
           ·rfl
           ·rfl
          refine hK.out _ _ ?_
          clear hK K
          refine norm_ (a' := ?_) ?_ ?_
          rotate_left
          ·show Act.put _ (some 48) _ = _
           simp only [Act.put, List.setIfInBounds_toArray, List.set_cons_zero, List.set_cons_succ, i64_w, i32_w]
           rfl
          refine last_ (i := 18) (N := some 49) #[true, true, true, true, true, true, true, true, true, true, true, true, true, true, true, true, true, true, true, false] rfl rfl (one_of HT_.out (by kernel_rfl)) (by decide) (fun K hK => ?_)
          refine Kd.R_append_step (Kd.int .i64) w.heap.size (by rfl) (.tmp 31) (.tmp 48) 28 2 (.int .i64 0) 8 rfl Try.underlying28 info2 rfl (by decide) (by omega) u6 x6_1 (wrap64 ((wrap64 ((wrap64 (((rd_T32 s0_1 x7_1).f2) * t338)) - (rd t335 ((rd_T32 s0_1 x7_1).f1)))) + (rd t335 ((rd_T32 s0_1 x7_1).f0)))) [.int .i64 (wrap64 ((wrap64 ((wrap64 (((rd_T32 s0_1 x7_1).f2) * t338)) - (rd t335 ((rd_T32 s0_1 x7_1).f1)))) + (rd t335 ((rd_T32 s0_1 x7_1).f0))))] (fun k_ => some k_ ≠ (.slice (some ad345) t335.length co19 : Value).ownBlock) (fun _ => False) rfl rfl ?aP (fun _ hk => hk.elim) ?aF ?aO (Below.refl _ _) ?aS ?aL ?_
          (case aP => exact rfl)
          (case aF => exact (fun k_ hk => Kd.fresh' (Kd.R_lt (by (with_reducible repeat (first | apply Kd.R_alloc | apply Kd.R_drewN | apply Kd.R_drew)); exact HO_4.out)) k_ hk))
          (case aO => exact (by (with_reducible repeat (first | apply Kd.R_alloc | apply Kd.R_drewN | apply Kd.R_drew)); exact HO_6.out))
          (case aS => exact (keep_size (w := w) (g := g) (row := none) (by repeat (first | (with_reducible first | exact HK.out | apply KeepBut.set_ | apply keep_drewN | apply keep_drew | apply keep_alloc | refine keep_far ?_ GW344.out _) | exact HK.out))))
          (case aL => have := LMc12.out; omega)
          intro v348 w20 ho hb hg hat
          rw [← Ny347.out] at ho
          have n0_ := Aside0.mk (Kd.R_after (ok := (fun _ => True)) (by (with_reducible repeat (first | apply Kd.R_alloc | apply Kd.R_drewN | apply Kd.R_drew)); exact Kd.R_mono HO_4.out (fun _ hk => ⟨trivial, hk⟩)) hg hat)
          have n1_ := Aside0.mk (IsS26.grown (by repeat (first | (with_reducible first | exact HI0.out | apply IsS26.alloc | apply IsS26.drewN | apply IsS26.drew | apply IsS26.set_0 | refine IsS26.far ?_ NB0_344.out _) | exact HI0.out)) hg (IsS26.own_ne HI0.out HO_6.out (by decide)))
          have n2_ := Aside0.mk (blk_grown (g := gb344) (o := .cells #[.int .i64 ((rd_T32 s0_1 x7_1).f0), .int .i64 ((rd_T32 s0_1 x7_1).f1), .int .i64 ((rd_T32 s0_1 x7_1).f2), .int .i64 ((rd_T32 s0_1 x7_1).f3)] 32 (0, 0)) (by (with_reducible repeat (first | refine blk_drewN ?_ _ | refine blk_drew ?_ | refine blk_alloc ?_ _)); exact BK344.out) hg (Kd.R_ne HO_6.out BK344.out (by decide)))
          have n3_ := Aside0.mk (below_weaken (by repeat (first | (with_reducible first | exact HB.out | apply below_alloc | apply pw_below_drewN | apply below_drew1 | refine below_set ?_ (IsS26.ge HI0.out) | refine below_set ?_ GE344.out) | exact HB.out)) HL.out hb)
          have n4_ := Aside0.mk (KeepBut.trans (by repeat (first | (with_reducible first | exact HK.out | apply KeepBut.set_ | apply keep_drewN | apply keep_drew | apply keep_alloc | refine keep_far ?_ GW344.out _) | exact HK.out)) (KeepBut.of_grown hg g) (Kd.R_base2 HO_6.out))
          have n5_ := Aside0.mk (ho)
          clear HO_4
          clear HI0
          clear BK344
          clear HB
          clear HK
          clear HO_6
          have HO_4 := n0_
          have HI0 := n1_
          have BK344 := n2_
          have HB := n3_
          have HK := n4_
          have HO349 := n5_
          clear n0_ n1_ n2_ n3_ n4_ n5_
          clear ho hb hg hat
          refine hK.out _ _ ?_
          clear hK K
          refine norm_ (a' := ?_) ?_ ?_
          rotate_left
          ·show Act.put _ (some 49) _ = _
           simp only [Act.put, List.setIfInBounds_toArray, List.set_cons_zero, List.set_cons_succ, i64_w, i32_w]
           rfl
          refine pure_ (i := 19) (N := some 6) (v := ?_) (a' := ?_) #[true, true, true, true, true, true, true, true, true, true, true, true, true, true, true, true, true, true, true, true] rfl rfl (any_of HT_.out (by kernel_rfl)) (fun _ _ _ h => h) (Or.inl ⟨by rfl, ?_⟩) ?_ ?_
          rotate_left
          ·intro w'
           go_simp
           with_reducible rfl
          rotate_left
          ·simp only [Act.put, List.setIfInBounds_toArray, List.set_cons_zero, List.set_cons_succ, i64_w, i32_w]
           rfl
          refine done_ (done_of HT_.out (by kernel_rfl)) ?_
          try go_wp2
          go_roundg k1
          case measure => have := HK1.out; omega
          case rel => exact ⟨(y347), (wrap64 (x7_1 + 1)), (by first | rfl | (simp; done) | (simp [*]; done)), H', ⟨by have := HK1.out; omega⟩, ⟨by (with_reducible repeat (first | apply Kd.R_alloc | apply Kd.R_drewN | apply Kd.R_drew)); exact Kd.R_mono HO_4.out (fun _ hk => hk.2)⟩, ⟨by (with_reducible repeat (first | apply Kd.R_alloc | apply Kd.R_drewN | apply Kd.R_drew)); exact HO349.out⟩, ⟨by repeat (first | (with_reducible first | exact HI0.out | apply IsS26.alloc | apply IsS26.drewN | apply IsS26.drew | apply IsS26.set_0 | refine IsS26.far ?_ NB0_344.out _) | exact HI0.out)⟩, ⟨by repeat (first | (with_reducible first | exact HK.out | apply KeepBut.set_ | apply keep_drewN | apply keep_drew | apply keep_alloc | refine keep_far ?_ GW344.out _) | exact HK.out)⟩, ⟨by repeat (first | (with_reducible first | exact HB.out | apply below_alloc | apply pw_below_drewN | apply below_drew1 | refine below_set ?_ (IsS26.ge HI0.out) | refine below_set ?_ GE344.out) | exact HB.out)⟩⟩
         ·rw [if_neg c12] at H
          exact absurd H (by simp)
        ·rw [if_neg c11] at H
         exact absurd H (by simp)
       ·rw [if_neg c10] at H
        exact absurd H (by simp)
      ·rw [if_neg c9] at H
       exact absurd H (by simp)
     ·rw [if_neg c8] at H
      exact absurd H (by simp)
    ·rw [if_neg c7] at H
     exact absurd H (by simp)
   ·rw [if_neg c6] at H
    have c6b0 : decide (x7_1 < (s0_1.length : Int)) = false := decide_eq_false c6
    clear c6
    replace H := Option.bind_eq_some_iff.mp H
    obtain ⟨⟨t350, t351⟩, A210, H⟩ := H
    replace H : (some (t350, t351, t339)) = some (r1, r2, r3) := H
    have A21 := Aside0.mk A210
    clear A210
    simp only [Option.some.injEq, Prod.mk.injEq] at H
    obtain ⟨rfl, rfl, rfl⟩ := H
    obtain ⟨ASz22_1, cSz22_1, HGz22, hgz22, HSz22_1⟩ := HI0.out
    have hcz22_0 := cellS26_0 HGz22
    have hcz22_1 := cellS26_1 HGz22
    have hfz22_0 := blk_frozen HGz22 0
    clear HGz22 hgz22
    obtain ⟨Ao23, co23, eo23⟩ := Kd.R_slice HO_6.out
    subst eo23
    go_wp2_with (first | ((with_reducible refine gate_callee (f := 72) rfl ?_); refine goesL_ (some 52) rfl rfl Try.func72 (by kernel_rfl) rfl #[.slice Ao23 x6_1.length co23, .int .i64 t338] rfl (by (try simp only [List.map_toArray, List.map_cons, List.map_nil]); first | done | rfl | (simp only [List.length_drop, List.length_take]; rfl)) ?_; (with_reducible refine (spec_l10Lowest.calls k1 _ _ x6_1 t338 t350 t351 _ ?side1 ?side2 A21.out).mono ?_); (case side1 => repeat (first | exact (Kd.R_reads' HO_6.out).2.2 | (with_reducible refine Kd.C_alloc ?_ _) | (with_reducible refine Kd.C_drewN ?_ _) | (with_reducible refine Kd.C_drew ?_))); (case side2 => exact (Kd.R_reads' HO_6.out).2.1); rintro e w24 ⟨v352, rfl, ho0, hb⟩; refine ⟨_, rfl, ?_⟩; have n0_ := Aside0.mk (Kd.R_elder' (by (with_reducible repeat (first | apply Kd.R_alloc | apply Kd.R_drewN | apply Kd.R_drew)); exact HO_4.out) (Kd.R_base ho0) hb); have n1_ := Aside0.mk (Kd.R_elder' (by (with_reducible repeat (first | apply Kd.R_alloc | apply Kd.R_drewN | apply Kd.R_drew)); exact HO_6.out) (Kd.R_base ho0) hb); have n2_ := Aside0.mk (Kd.R_lower (Kd.R_new' (Kd.R_new' ho0 (Kd.R_lt (by (with_reducible repeat (first | apply Kd.R_alloc | apply Kd.R_drewN | apply Kd.R_drew)); exact HO_4.out))) (Kd.R_lt (by (with_reducible repeat (first | apply Kd.R_alloc | apply Kd.R_drewN | apply Kd.R_drew)); exact HO_6.out))) (keep_size (w := w) (g := g) (row := none) (by repeat (first | (with_reducible first | exact HK.out | apply KeepBut.set_ | apply keep_drewN | apply keep_drew | apply keep_alloc) | exact HK.out)))); have n3_ := Aside0.mk (IsS26.below (by repeat (first | (with_reducible first | exact HI0.out | apply IsS26.alloc | apply IsS26.drewN | apply IsS26.drew | apply IsS26.set_0) | exact HI0.out)) hb); have n4_ := Aside0.mk (KeepBut.trans (by repeat (first | (with_reducible first | exact HK.out | apply KeepBut.set_ | apply keep_drewN | apply keep_drew | apply keep_alloc) | exact HK.out)) (KeepBut.of_below hb g none) (.inl rfl)); have n5_ := Aside0.mk (below_step (by repeat (first | (with_reducible first | exact HB.out | apply below_alloc | apply pw_below_drewN | apply below_drew1 | refine below_set ?_ (IsS26.ge HI0.out)) | exact HB.out)) hb); clear HO_4; clear HO_6; clear HI0; clear HK; clear HB; have HO_4 := n0_; have HO_6 := n1_; have HO353 := n2_; have HI0 := n3_; have HK := n4_; have HB := n5_; clear n0_ n1_ n2_ n3_ n4_ n5_; (try clear hb); (try clear hb2); (try clear hk); (try clear hi); (try clear ho0)))
    go_ret2
    exact ⟨_, by first | rfl | (simp [errW_none, errW_some] <;> rfl) | (simp [*, errW_none, errW_some] <;> rfl), by (with_reducible repeat (first | apply Kd.R_alloc | apply Kd.R_drewN | apply Kd.R_drew)); exact Kd.R_mono HO353.out (fun _ hk => trivial), by repeat (first | (with_reducible first | exact HI0.out | apply IsS26.alloc | apply IsS26.drewN | apply IsS26.drew | apply IsS26.set_0) | exact HI0.out), by repeat (first | (with_reducible first | exact HB.out | apply below_alloc | apply pw_below_drewN | apply below_drew1 | refine below_set ?_ (IsS26.ge HI0.out)) | exact HB.out), by repeat (first | (with_reducible first | exact HK.out | apply KeepBut.set_ | apply keep_drewN | apply keep_drew | apply keep_alloc) | exact HK.out)⟩
end Go.Proofs.Ytkafbmanmffliaa.Q

namespace Go.Proofs.Ytkafbmanmffliaa.Q
open Go.RowKit YtkafbmanmffliaaW.PrintWords YtkafbmanmffliaaW.PrintLast YtkafbmanmffliaaW.PrintMore
attribute [local go_sem] max2_int min2_int max_two min_two max_three min_three max_four min_four
set_option linter.unusedVariables false
set_option linter.unusedSimpArgs false
def spec_ResidualsOf.f (k : Nat) (a0_0 : Int) (l0_1 : List (S32)) : Option (Int × List Int × Bool) := (spec_l10Whole.f a0_0 l0_1).bind fun bt355 => (if bt355.1 = true then ((spec_l10Residuals.f k bt355.2 l0_1).bind fun bt357 => (some (bt357.1, bt357.2.1, true))) else (some (0, ([] : List Int), false)))
set_option maxHeartbeats 8000000 in
set_option maxRecDepth 100000 in
theorem spec_ResidualsOf.calls (k : Nat) (a0_0 : Int) (A0_1 : Option Addr) (c0_1 : Nat) (l0_1 : List (S32)) (r1 : Int) (r2 : List Int) (r3 : Bool) (w : World) (hr0_1 : Kd.C k32 w A0_1 l0_1.length l0_1) (hc0_1 : l0_1.length ≤ c0_1) (h : spec_ResidualsOf.f k a0_0 l0_1 = some (r1, r2, r3)) :
  Calls Try.prog 50 #[.agg #[.int .i64 a0_0, .slice A0_1 l0_1.length c0_1]] w fun e w' => ∃ v1_ : Value, e = .returned (.tuple #[.int .i64 r1, v1_, .bool r3]) ∧ Kd.R (Kd.int .i64) 2 w' w.heap.size (fun _ => True) v1_ r2 ∧ Below w.heap.size w w' := by
 have hu26 := Try.underlying26
 have HR0_1 := Aside0.mk hr0_1
 have HC0_1 := Aside0.mk hc0_1
 clear hr0_1 hc0_1
 have HB := Aside0.mk (Below.refl w.heap.size w)
 have H : ((spec_l10Whole.f a0_0 l0_1).bind fun bt355 => (if bt355.1 = true then ((spec_l10Residuals.f k bt355.2 l0_1).bind fun bt357 => (some (bt357.1, bt357.2.1, true))) else (some (0, ([] : List Int), false)))) = some (r1, r2, r3) := h
 clear h
 replace H := Option.bind_eq_some_iff.mp H
 obtain ⟨⟨t355, t356⟩, A20, H⟩ := H
 replace H : (if t355 = true then ((spec_l10Residuals.f k t356 l0_1).bind fun bt357 => (some (bt357.1, bt357.2.1, true))) else (some (0, ([] : List Int), false))) = some (r1, r2, r3) := H
 have A2 := Aside0.mk A20
 clear A20
 by_cases c3 : t355 = true
 ·subst c3
  have H1 : ((spec_l10Residuals.f k t356 l0_1).bind fun bt357 => (some (bt357.1, bt357.2.1, true))) = some (r1, r2, r3) := by rw [if_pos rfl] at H; exact H
  clear H
  have H := H1
  clear H1
  replace H := Option.bind_eq_some_iff.mp H
  obtain ⟨⟨t357, t358, t361⟩, A40, H⟩ := H
  replace H : (some (t357, t358, true)) = some (r1, r2, r3) := H
  have A4 := Aside0.mk A40
  clear A40
  simp only [Option.some.injEq, Prod.mk.injEq] at H
  obtain ⟨rfl, rfl, rfl⟩ := H
  go_enter Try.func50, Try.ntmps50
  go_wp2_with (first | ((with_reducible refine gate_dst (N := 1) rfl ?_); refine box_event ?hg (N := 1) ?hd (cs := #[.int .i64 a0_0, .slice A0_1 l0_1.length c0_1]) (t := 26) ?hr ?_; (case hd => rfl); (case hg => rfl); (case hr => first | (go_simp; done) | (go_simp; rfl)); intro gb354 hg w5 hbox hb; have n0_ := Aside0.mk (below_step (by repeat (first | (with_reducible first | exact HB.out | apply below_alloc | apply pw_below_drewN | apply below_drew1) | exact HB.out)) hb); have n1_ := Aside0.mk ((by rw [hg]; exact (below_size (by repeat (first | (with_reducible first | exact HB.out | apply below_alloc | apply pw_below_drewN | apply below_drew1) | exact HB.out))) : w.heap.size ≤ gb354)); have n2_ := Aside0.mk ((by rw [hg]; exact (below_size (by repeat (first | (with_reducible first | exact HB.out | apply below_alloc | apply pw_below_drewN | apply below_drew1) | exact HB.out))) : w.heap.size ≤ gb354)); have n3_ := Aside0.mk ((⟨A0_1, c0_1, hbox, (by rw [hg]; exact (below_size (by repeat (first | (with_reducible first | exact HB.out | apply below_alloc | apply pw_below_drewN | apply below_drew1) | exact HB.out)))), HR0_1.out⟩ : IsS26 w w5 gb354 a0_0 l0_1)); clear HB; have HB := n0_; have GW354 := n1_; have GE354 := n2_; have HI354 := n3_; clear n0_ n1_ n2_ n3_; clear hb hbox hg) | ((with_reducible refine gate_callee (f := 58) rfl ?_); refine goesL_ (some 7) rfl rfl Try.func58 (by kernel_rfl) rfl #[.pointer (some ⟨gb354, 0, none⟩)] rfl (by (try simp only [List.map_toArray, List.map_cons, List.map_nil]); first | done | rfl | (simp only [List.length_drop, List.length_take]; rfl)) ?_; (with_reducible refine (spec_l10Whole.calls gb354 a0_0 l0_1 true t356 w _ ?side1 ?side2 A2.out).mono ?_); (case side1 => repeat (first | (with_reducible first | exact HI354.out | apply IsS26.alloc | apply IsS26.drewN | apply IsS26.drew | apply IsS26.set_0) | exact HI354.out)); (case side2 => repeat (first | (with_reducible first | exact HB.out | apply below_alloc | apply pw_below_drewN | apply below_drew1 | refine below_set ?_ (IsS26.ge HI354.out)) | exact HB.out)); rintro e w6 ⟨rfl, hi, hb, hk⟩; refine ⟨_, rfl, ?_⟩; have n0_ := Aside0.mk (hb); have n1_ := Aside0.mk (hi); clear HB; clear HI354; have HB := n0_; have HI354 := n1_; clear n0_ n1_; (try clear hb); (try clear hb2); (try clear hk); (try clear hi)) | ((with_reducible refine gate_callee (f := 83) rfl ?_); refine goesL_ (some 10) rfl rfl Try.func83 (by kernel_rfl) rfl #[.pointer (some ⟨gb354, 0, none⟩)] rfl (by (try simp only [List.map_toArray, List.map_cons, List.map_nil]); first | done | rfl | (simp only [List.length_drop, List.length_take]; rfl)) ?_; (with_reducible refine (spec_l10Residuals.calls k gb354 t356 l0_1 t357 t358 t361 w _ ?side1 ?side2 A4.out).mono ?_); (case side1 => repeat (first | (with_reducible first | exact HI354.out | apply IsS26.alloc | apply IsS26.drewN | apply IsS26.drew | apply IsS26.set_0) | exact HI354.out)); (case side2 => repeat (first | (with_reducible first | exact HB.out | apply below_alloc | apply pw_below_drewN | apply below_drew1 | refine below_set ?_ (IsS26.ge HI354.out)) | exact HB.out)); rintro e w7 ⟨v359, rfl, ho0, hi, hb, hk⟩; refine ⟨_, rfl, ?_⟩; have n0_ := Aside0.mk (Kd.R_lower ho0 (below_size (by repeat (first | (with_reducible first | exact HB.out | apply below_alloc | apply pw_below_drewN | apply below_drew1 | refine below_set ?_ (IsS26.ge HI354.out)) | exact HB.out)))); have n1_ := Aside0.mk (hb); have n2_ := Aside0.mk (hi); clear HB; clear HI354; have HO360 := n0_; have HB := n1_; have HI354 := n2_; clear n0_ n1_ n2_; (try clear hb); (try clear hb2); (try clear hk); (try clear hi); (try clear ho0)))
  go_ret3
  exact ⟨_, by first | rfl | (simp [errW_none, errW_some] <;> rfl) | (simp [*, errW_none, errW_some] <;> rfl), by (with_reducible repeat (first | apply Kd.R_alloc | apply Kd.R_drewN | apply Kd.R_drew)); exact HO360.out, by repeat (first | (with_reducible first | exact HB.out | apply below_alloc | apply pw_below_drewN | apply below_drew1 | refine below_set ?_ (IsS26.ge HI354.out)) | exact HB.out)⟩
 ·replace c3 := Bool.eq_false_iff.mpr c3
  subst c3
  have H1 : (some (0, ([] : List Int), false)) = some (r1, r2, r3) := by rw [if_neg (show ¬ (false = true) by decide)] at H; exact H
  clear H
  have H := H1
  clear H1
  simp only [Option.some.injEq, Prod.mk.injEq] at H
  obtain ⟨rfl, rfl, rfl⟩ := H
  go_enter Try.func50, Try.ntmps50
  go_wp2_with (first | ((with_reducible refine gate_dst (N := 1) rfl ?_); refine box_event ?hg (N := 1) ?hd (cs := #[.int .i64 a0_0, .slice A0_1 l0_1.length c0_1]) (t := 26) ?hr ?_; (case hd => rfl); (case hg => rfl); (case hr => first | (go_simp; done) | (go_simp; rfl)); intro gb354 hg w8 hbox hb; have n0_ := Aside0.mk (below_step (by repeat (first | (with_reducible first | exact HB.out | apply below_alloc | apply pw_below_drewN | apply below_drew1) | exact HB.out)) hb); have n1_ := Aside0.mk ((by rw [hg]; exact (below_size (by repeat (first | (with_reducible first | exact HB.out | apply below_alloc | apply pw_below_drewN | apply below_drew1) | exact HB.out))) : w.heap.size ≤ gb354)); have n2_ := Aside0.mk ((by rw [hg]; exact (below_size (by repeat (first | (with_reducible first | exact HB.out | apply below_alloc | apply pw_below_drewN | apply below_drew1) | exact HB.out))) : w.heap.size ≤ gb354)); have n3_ := Aside0.mk ((⟨A0_1, c0_1, hbox, (by rw [hg]; exact (below_size (by repeat (first | (with_reducible first | exact HB.out | apply below_alloc | apply pw_below_drewN | apply below_drew1) | exact HB.out)))), HR0_1.out⟩ : IsS26 w w8 gb354 a0_0 l0_1)); clear HB; have HB := n0_; have GW354 := n1_; have GE354 := n2_; have HI354 := n3_; clear n0_ n1_ n2_ n3_; clear hb hbox hg) | ((with_reducible refine gate_callee (f := 58) rfl ?_); refine goesL_ (some 7) rfl rfl Try.func58 (by kernel_rfl) rfl #[.pointer (some ⟨gb354, 0, none⟩)] rfl (by (try simp only [List.map_toArray, List.map_cons, List.map_nil]); first | done | rfl | (simp only [List.length_drop, List.length_take]; rfl)) ?_; (with_reducible refine (spec_l10Whole.calls gb354 a0_0 l0_1 false t356 w _ ?side1 ?side2 A2.out).mono ?_); (case side1 => repeat (first | (with_reducible first | exact HI354.out | apply IsS26.alloc | apply IsS26.drewN | apply IsS26.drew | apply IsS26.set_0) | exact HI354.out)); (case side2 => repeat (first | (with_reducible first | exact HB.out | apply below_alloc | apply pw_below_drewN | apply below_drew1 | refine below_set ?_ (IsS26.ge HI354.out)) | exact HB.out)); rintro e w9 ⟨rfl, hi, hb, hk⟩; refine ⟨_, rfl, ?_⟩; have n0_ := Aside0.mk (hb); have n1_ := Aside0.mk (hi); clear HB; clear HI354; have HB := n0_; have HI354 := n1_; clear n0_ n1_; (try clear hb); (try clear hb2); (try clear hk); (try clear hi)))
  go_ret3
  exact ⟨_, by first | rfl | (simp [errW_none, errW_some] <;> rfl) | (simp [*, errW_none, errW_some] <;> rfl), by first | exact Kd.R_nil _ _ _ _ _ | exact Kd.N_nil _ _ _ _ _ | exact Kd.V_nil _ _ _ _ _ | exact Kd.Q_nil _ _ _ _ _ | exact Kd.S_nil _ _ _ _ _, by repeat (first | (with_reducible first | exact HB.out | apply below_alloc | apply pw_below_drewN | apply below_drew1 | refine below_set ?_ (IsS26.ge HI354.out)) | exact HB.out)⟩
end Go.Proofs.Ytkafbmanmffliaa.Q

/- The reference's l10Redundancies. -/
namespace Go.Proofs.Ytkafbmanmffliaa.Sp3
open Go Go.RowKit YtkafbmanmffliaaW.PrintWords YtkafbmanmffliaaW.PrintLast YtkafbmanmffliaaW.PrintMore Q Gd Gf Ge Gi Hb Ha Hc Gs Gn Kc Ke Kf Gv Gw Lo2 Ex Sp2
set_option linter.unusedVariables false
set_option linter.unusedSimpArgs false
end Go.Proofs.Ytkafbmanmffliaa.Sp3

namespace Go.Proofs.Ytkafbmanmffliaa.Q
open Go.RowKit YtkafbmanmffliaaW.PrintWords YtkafbmanmffliaaW.PrintLast YtkafbmanmffliaaW.PrintMore
attribute [local go_sem] max2_int min2_int max_two min_two max_three min_three max_four min_four
set_option linter.unusedVariables false
set_option linter.unusedSimpArgs false
def spec_l10Redundancies.f (s0_0 : Int) (s0_1 : List (S32)) : Option (Int × List Int × Int) := if Gm.connB s0_0 s0_1 = true then some (Ex.redD s0_0 s0_1, Ex.redL s0_0 s0_1, s0_0) else none
end Go.Proofs.Ytkafbmanmffliaa.Q

namespace Go.Proofs.Ytkafbmanmffliaa.Q
open Go.RowKit YtkafbmanmffliaaW.PrintWords YtkafbmanmffliaaW.PrintLast YtkafbmanmffliaaW.PrintMore
attribute [local go_sem] max2_int min2_int max_two min_two max_three min_three max_four min_four
set_option linter.unusedVariables false
set_option linter.unusedSimpArgs false
def spec_RedundanciesOf.f (a0_0 : Int) (l0_1 : List (S32)) : Option (Int × List Int × Bool) := (spec_l10Whole.f a0_0 l0_1).bind fun bt415 => (if bt415.1 = true then ((spec_l10Redundancies.f bt415.2 l0_1).bind fun bt417 => (some (bt417.1, bt417.2.1, true))) else (some (0, ([] : List Int), false)))
end Go.Proofs.Ytkafbmanmffliaa.Q

/- The program's CofactorOf and RiseBetween: what they return. -/
namespace Go.Proofs.Ytkafbmanmffliaa.Ex2
open Go Go.RowKit YtkafbmanmffliaaW.PrintWords YtkafbmanmffliaaW.PrintLast YtkafbmanmffliaaW.PrintMore Q Bg Dd Bi Rt Ru Rx Ra Gd Gf Ge Hb Ha Hc Gs Gn Kc Ke Kf Gt Gu Gx Gy Gv Lo Lo2 Ex
set_option linter.unusedVariables false
set_option linter.unusedSimpArgs false
def okN (ok : Bool) (q : Rat) : Int := if ok = true then q.num else 0
def okD (ok : Bool) (q : Rat) : Int := if ok = true then (q.den : Int) else 0
def Post2 (w : World) (q : Rat) (ok : Bool) (e : Ending) (w' : World) : Prop := e = .returned (.tuple #[.int .i64 (okN ok q), .int .i64 (okD ok q), .bool ok]) ∧ Below w.heap.size w w'
def rise (n : Nat) (l : List S32) (a b : Int) : Rat := hts n l b - hts n l a
end Go.Proofs.Ytkafbmanmffliaa.Ex2

namespace Go.Proofs.Ytkafbmanmffliaa.Q
open Go.RowKit YtkafbmanmffliaaW.PrintWords YtkafbmanmffliaaW.PrintLast YtkafbmanmffliaaW.PrintMore
attribute [local go_sem] max2_int min2_int max_two min_two max_three min_three max_four min_four
set_option linter.unusedVariables false
set_option linter.unusedSimpArgs false
def spec_l10Cofactor.f (s0_0 : Int) (s0_1 : List (S32)) (a1 : Int) (a2 : Int) : Option (Int × Int × Int) := if Ex.ptsB s0_0 s0_1 a1 a2 = true then some (Ex.cofN (Ex.wp s0_0) s0_1 a1 a2, Gn.den s0_1 (Ex.wp s0_0), s0_0) else none
end Go.Proofs.Ytkafbmanmffliaa.Q

namespace Go.Proofs.Ytkafbmanmffliaa.Q
open Go.RowKit YtkafbmanmffliaaW.PrintWords YtkafbmanmffliaaW.PrintLast YtkafbmanmffliaaW.PrintMore
attribute [local go_sem] max2_int min2_int max_two min_two max_three min_three max_four min_four
set_option linter.unusedVariables false
set_option linter.unusedSimpArgs false
def spec_l10Point.f (s0_0 : Int) (s0_1 : List (S32)) (a1 : Int) : Option (Bool × Int) := (spec_l10Whole.f s0_0 s0_1).bind fun bt374 => (if bt374.1 = true then ((spec_l00In.f a1 0 (wrap64 (bt374.2 - 1))).bind fun t376 => (some (t376, bt374.2))) else (some (false, bt374.2)))
end Go.Proofs.Ytkafbmanmffliaa.Q

namespace Go.Proofs.Ytkafbmanmffliaa.Q
open Go.RowKit YtkafbmanmffliaaW.PrintWords YtkafbmanmffliaaW.PrintLast YtkafbmanmffliaaW.PrintMore
attribute [local go_sem] max2_int min2_int max_two min_two max_three min_three max_four min_four
set_option linter.unusedVariables false
set_option linter.unusedSimpArgs false
def spec_CofactorOf.j0 : Nat → Int → Int → Bool → Int → List (S32) → Option (Int × Int × Bool)
 | 0, _, _, _, _, _ => none
 | k + 1, x1, x2, x20, x476000, x476001 => if x20 = true then (some (0, 0, false)) else ((spec_l10Cofactor.f x476000 x476001 x1 x2).bind fun bt480 => ((spec_l10Lowest.f k (([bt480.1] : List Int)) bt480.2.1).bind fun bt486 => (if 0 < (bt486.2.length : Int) then (some (rd bt486.2 0, bt486.1, true)) else (none))))
def spec_CofactorOf.f (k : Nat) (a0_0 : Int) (l0_1 : List (S32)) (a1 : Int) (a2 : Int) : Option (Int × Int × Bool) := (spec_l10Point.f a0_0 l0_1 a1).bind fun bt476 => (if bt476.1 = true then ((spec_l10Point.f bt476.2 l0_1 a2).bind fun bt478 => (spec_CofactorOf.j0 k a1 a2 (!bt478.1) bt478.2 l0_1)) else (spec_CofactorOf.j0 k a1 a2 true bt476.2 l0_1))
end Go.Proofs.Ytkafbmanmffliaa.Q

namespace Go.Proofs.Ytkafbmanmffliaa.Q
open Go.RowKit YtkafbmanmffliaaW.PrintWords YtkafbmanmffliaaW.PrintLast YtkafbmanmffliaaW.PrintMore
attribute [local go_sem] max2_int min2_int max_two min_two max_three min_three max_four min_four
set_option linter.unusedVariables false
set_option linter.unusedSimpArgs false
def spec_RiseBetween.j0 : Nat → Int → Int → Bool → Int → List (S32) → Option (Int × Int × Bool)
 | 0, _, _, _, _, _ => none
 | k + 1, x1, x2, x20, x514000, x514001 => if x20 = true then (some (0, 0, false)) else ((spec_l10Adjusted.f x514000 x514001).bind fun bt518 => (if 0 ≤ x2 then (if x2 < (bt518.1.length : Int) then (if 0 ≤ x1 then (if x1 < (bt518.1.length : Int) then ((spec_l10Lowest.f k (([wrap64 ((rd bt518.1 x2) - (rd bt518.1 x1))] : List Int)) bt518.2.1).bind fun bt528 => (if 0 < (bt528.2.length : Int) then (some (rd bt528.2 0, bt528.1, true)) else (none))) else (none)) else (none)) else (none)) else (none)))
def spec_RiseBetween.f (k : Nat) (a0_0 : Int) (l0_1 : List (S32)) (a1 : Int) (a2 : Int) : Option (Int × Int × Bool) := (spec_l10Point.f a0_0 l0_1 a1).bind fun bt514 => (if bt514.1 = true then ((spec_l10Point.f bt514.2 l0_1 a2).bind fun bt516 => (spec_RiseBetween.j0 k a1 a2 (!bt516.1) bt516.2 l0_1)) else (spec_RiseBetween.j0 k a1 a2 true bt514.2 l0_1))
def spec_RiseBetween.T4 : Bool × List (List Nat × List Nat) := (true, [([], []), ([], []), ([0, 1], [0, 1]), ([2], [2]), ([], []), ([], []), ([4, 5], [4, 5]), ([6], [6]), ([3, 7], [3, 7]), ([8], [8]), ([], []), ([9, 10], [9, 10]), ([11], [11]), ([12], [12]), ([12], [12]), ([13, 11, 0, 1, 2, 3, 4, 5, 6, 7, 8, 9, 10, 11, 12, 13], [13]), ([14, 15, 0, 1, 2, 3, 4, 5, 6, 7, 8, 9, 10, 11, 12, 13, 14, 15], [14])])
def spec_RiseBetween.B4 : List Nat := [0, 0, 3, 7, 0, 0, 48, 112, 255, 511, 0, 2047, 4095, 8191, 8191, 16383, 65535]
end Go.Proofs.Ytkafbmanmffliaa.Q

namespace Go.Proofs.Ytkafbmanmffliaa.Q
open Go.RowKit YtkafbmanmffliaaW.PrintWords YtkafbmanmffliaaW.PrintLast YtkafbmanmffliaaW.PrintMore
attribute [local go_sem] max2_int min2_int max_two min_two max_three min_three max_four min_four
set_option linter.unusedVariables false
set_option linter.unusedSimpArgs false
def spec_AdjustSurvey.f (k : Nat) (a0_0 : Int) (l0_1 : List (S32)) : Option (Int × List Int × Bool) := (spec_l10Whole.f a0_0 l0_1).bind fun bt269 => (if bt269.1 = true then ((spec_l10Adjusted.f bt269.2 l0_1).bind fun bt271 => ((spec_l10Lowest.f k bt271.1 bt271.2.1).bind fun bt276 => (some (bt276.1, bt276.2, true)))) else (some (0, ([] : List Int), false)))
end Go.Proofs.Ytkafbmanmffliaa.Q

/- What the laws' helpers compute on lists of numbers: equality with itself, marks, and that marks are held. -/
namespace Go.Proofs.Ytkafbmanmffliaa.PuI
open Go.RowKit YtkafbmanmffliaaW.PrintWords Q PuS
theorem eqInt_loop (l : List Int) (hl : l.length ≤ 1048576) : ∀ (d k i : Nat), i + d = l.length → d < k → laws_eqInt64S.l0 k l l i = some true := by
 intro d
 induction d with
 | zero =>
  intro k i hi hk
  obtain ⟨k, rfl⟩ : ∃ m, k = m + 1 := ⟨k - 1, by omega⟩
  simp only [laws_eqInt64S.l0]
  rw [if_neg (by omega)]
 | succ d ih =>
  intro k i hi hk
  obtain ⟨k, rfl⟩ : ∃ m, k = m + 1 := ⟨k - 1, by omega⟩
  simp only [laws_eqInt64S.l0, if_true]
  rw [if_pos (by omega), if_pos (by omega), if_pos (by omega), wrap_id (by omega) (by omega), show (i : Int) + 1 = ((i + 1 : Nat) : Int) by omega]
  exact ih k (i + 1) (by omega) (by omega)
theorem eqInt_eq (l : List Int) (hl : l.length ≤ 1048576) (k : Nat) (hk : l.length < k) : laws_eqInt64S.f k l l = some true := by
 simp only [laws_eqInt64S.f, if_true]
 exact eqInt_loop l hl l.length k 0 (by omega) hk
def marked (n : Nat) : List Int := (List.range n).map fun j : Nat => (j : Int) + 1
theorem marked_len (n : Nat) : (marked n).length = n := by simp [marked]
theorem mark_loop (n : Nat) (hn : n ≤ 1048576) : ∀ (d k i : Nat) (x : List Int), x.length = n → i + d = n → d < k → (∀ j, j < i → x[j]? = (marked n)[j]?) → laws_markInt64S.l0 k x ((i : Int) + 1) i = some ((n : Int) + 1, marked n) := by
 intro d
 induction d with
 | zero =>
  intro k i x hx hi hk hj
  obtain ⟨k, rfl⟩ : ∃ m, k = m + 1 := ⟨k - 1, by omega⟩
  simp only [laws_markInt64S.l0]
  rw [if_neg (by omega)]
  have : x = marked n := by
   apply List.ext_getElem?
   intro j
   by_cases h : j < i
   ·exact hj j h
   ·rw [List.getElem?_eq_none (by omega), List.getElem?_eq_none (by rw [marked_len]; omega)]
  rw [this, show i = n by omega]
 | succ d ih =>
  intro k i x hx hi hk hj
  obtain ⟨k, rfl⟩ : ∃ m, k = m + 1 := ⟨k - 1, by omega⟩
  simp only [laws_markInt64S.l0]
  rw [if_pos (by omega), if_pos (by omega), wrap_id (x := (i : Int) + 1 + 1) (by omega) (by omega), wrap_id (x := (i : Int) + 1) (by omega) (by omega), Int.toNat_natCast, show (i : Int) + 1 = ((i + 1 : Nat) : Int) by omega]
  refine ih k (i + 1) _ (by simp [hx]) (by omega) (by omega) ?_
  intro j hlt
  by_cases h : j = i
  ·subst h
   rw [List.getElem?_set_self (by omega)]
   simp [marked, show j < n by omega]
  ·rw [List.getElem?_set_ne (by omega)]; exact hj j (by omega)
theorem mark_eq (l : List Int) (hl : l.length ≤ 1048576) (k : Nat) (hk : l.length < k) : laws_markInt64S.f k l 1 = some ((l.length : Int) + 1, marked l.length) := by
 have := mark_loop l.length hl l.length k 0 l rfl (by omega) hk (by intro j hj; omega)
 exact this
theorem held_loop (n : Nat) (hn : n ≤ 1048576) : ∀ (d k i : Nat), i + d = n → d < k → laws_heldInt64S.l0 k (marked n) ((i : Int) + 1) i = some ((n : Int) + 1) := by
 intro d
 have hl := marked_len n
 induction d with
 | zero =>
  intro k i hi hk
  obtain ⟨k, rfl⟩ : ∃ m, k = m + 1 := ⟨k - 1, by omega⟩
  simp only [laws_heldInt64S.l0]
  rw [if_neg (by omega), show i = n by omega]
 | succ d ih =>
  intro k i hi hk
  obtain ⟨k, rfl⟩ : ∃ m, k = m + 1 := ⟨k - 1, by omega⟩
  have hr : rd (marked n) i = (i : Int) + 1 := by
   simp [rd, marked, List.getD_eq_getElem?_getD, show i < n by omega]
  simp only [laws_heldInt64S.l0, hr, if_true]
  rw [if_pos (by omega), if_pos (by omega), wrap_id (x := (i : Int) + 1 + 1) (by omega) (by omega), wrap_id (x := (i : Int) + 1) (by omega) (by omega), show (i : Int) + 1 = ((i + 1 : Nat) : Int) by omega]
  exact ih k (i + 1) (by omega) (by omega)
theorem held_eq (n : Nat) (hn : n ≤ 1048576) (k : Nat) (hk : n < k) : laws_heldInt64S.f k (marked n) 1 = some ((n : Int) + 1) := by
 have := held_loop n hn n k 0 (by omega) hk
 exact this
theorem markS_loop (n : Nat) (hn : n ≤ 1048576) : ∀ (d k i : Nat) (x : List S32), x.length = n → i + d = n → d < k → ∃ y : List S32, laws_markSightS.l0 k x (4 * (i : Int) + 1) i = some (4 * (n : Int) + 1, y) ∧ y.length = n := by
 intro d
 induction d with
 | zero =>
  intro k i x hx hi hk
  obtain ⟨k, rfl⟩ : ∃ m, k = m + 1 := ⟨k - 1, by omega⟩
  simp only [laws_markSightS.l0]
  rw [if_neg (by omega), show i = n by omega]
  exact ⟨x, rfl, hx⟩
 | succ d ih =>
  intro k i x hx hi hk
  obtain ⟨k, rfl⟩ : ∃ m, k = m + 1 := ⟨k - 1, by omega⟩
  simp only [laws_markSightS.l0, Option.bind_some]
  rw [if_pos (by omega), if_pos (by omega), wrap_id (x := 4 * (i : Int) + 1 + 1) (by omega) (by omega), wrap_id (x := 4 * (i : Int) + 1 + 1 + 1) (by omega) (by omega), wrap_id (x := 4 * (i : Int) + 1 + 1 + 1 + 1) (by omega) (by omega), wrap_id (x := 4 * (i : Int) + 1 + 1 + 1 + 1 + 1) (by omega) (by omega), wrap_id (x := (i : Int) + 1) (by omega) (by omega), show 4 * (i : Int) + 1 + 1 + 1 + 1 + 1 = 4 * ((i + 1 : Nat) : Int) + 1 by omega, show (i : Int) + 1 = ((i + 1 : Nat) : Int) by omega]
  exact ih k (i + 1) _ (by simp [hx]) (by omega) (by omega)
theorem markSurvey_eq (p : Int) (l : List S32) (hl : l.length ≤ 1048576) (k : Nat) (hk : l.length < k) : ∃ y : List S32, laws_markSurvey.f k p l 1 = some (4 * (l.length : Int) + 1, y) ∧ y.length = l.length := by
 obtain ⟨y, hy, hl2⟩ := markS_loop l.length hl l.length k 0 l rfl (by omega) hk
 refine ⟨y, ?_, hl2⟩
 have : laws_markSightS.f k l 1 = some (4 * (l.length : Int) + 1, y) := hy
 simp [laws_markSurvey.f, this]
end Go.Proofs.Ytkafbmanmffliaa.PuI

/- What the reference returns: AdjustSurvey, ResidualsOf, RedundanciesOf, CofactorOf, RiseBetween. -/
namespace Go.Proofs.Ytkafbmanmffliaa.PuEx
open Go Go.RowKit YtkafbmanmffliaaW.PrintWords YtkafbmanmffliaaW.PrintLast YtkafbmanmffliaaW.PrintMore Q Bg Dd Bi Rt Ru Rx Ra Gd Gf Ge Hb Ha Hc Gs Gn Kc Ke Kf Gt Gu Gx Gy Gv Lo Lo2 Ex Ex2 PuS PuI
set_option linter.unusedVariables false
set_option linter.unusedSimpArgs false
abbrev KB : Nat := 1099511628000
theorem whole_eq (p : Int) (l : List S32) : spec_l10Whole.f p l = some (Gm.connB p l, p) := PuT.specConn_eq p l
theorem lowest_n {n : Nat} {l : List S32} (hc : Gm.connB ((n : Int) + 1) l = true) (S : List Int) (hS : ∀ s, s ∈ S → s.natAbs < 1099511627776) (hl : S.length ≤ 8) (k : Nat) (hk : KB ≤ k) :
  spec_l10Lowest.f k S (den l n) = some (((dn n l / gcdAll (dn n l) S : Nat) : Int), lowL (dn n l) S) := by
 have h := dn_pos hc
 rw [← h.2.2]
 exact lowest_eq h.1 (by omega) hS (by omega) (by omega) k (by unfold KB at hk; omega)
theorem res_l0 {n : Nat} {l : List S32} (hc : Gm.connB ((n : Int) + 1) l = true) : ∀ (d k i : Nat), i + d = l.length → KB + d < k → ∃ z : Int, spec_l10Residuals.l0 k (nuL l (rgt n l) n) (den l n) ((l.take i).map (resN n l)) i ((n : Int) + 1) l = some (resD ((n : Int) + 1) l, resL ((n : Int) + 1) l, z) ∧ z = (n : Int) + 1 := by
 have hn := conn_n hc
 intro d
 induction d with
 | zero =>
  intro k i hi hk
  obtain ⟨k, rfl⟩ : ∃ m, k = m + 1 := ⟨k - 1, by omega⟩
  refine ⟨_, ?_, rfl⟩
  simp only [spec_l10Residuals.l0]
  rw [if_neg (by omega), List.take_of_length_le (by omega), lowest_n hc _ (fun s hs => by obtain ⟨t, ht, rfl⟩ := List.mem_map.1 hs; exact resN_size hc t ht) (by simp; omega) k (by omega)]
  simp only [Option.bind_some, resD, resL, hc, if_true, wp_eq]
 | succ d ih =>
  intro k i hi hk
  obtain ⟨k, rfl⟩ : ∃ m, k = m + 1 := ⟨k - 1, by omega⟩
  have hlt : i < l.length := by omega
  have hm : l[i] ∈ l := List.getElem_mem hlt
  have hv := mem_at (conn_v hc) _ hm
  have hr := resN_size hc _ hm
  obtain ⟨z, hz, rfl⟩ := ih k (i + 1) (by omega) (by omega)
  refine ⟨_, ?_, rfl⟩
  rw [List.take_succ_eq_append_getElem hlt, List.map_append] at hz
  have h1 := nu_size (ok_rgt hc) l[i].f1 (by omega)
  have h2 := nu_size (ok_rgt hc) l[i].f0 (by omega)
  have h3 := dn_pos hc
  have h4 := Gn.mulb (X := 100) (Y := 1073741824) (a := l[i].f2) (b := den l n) (by decide) (by decide) (by unfold Gn.Bd; omega) (by unfold Gn.Bd; omega)
  unfold Gn.Bd at h4
  simp only [spec_l10Residuals.l0, rd_mem hlt]
  rw [rd_nuL _ _ _ _ (by omega) (by omega), rd_nuL _ _ _ _ (by omega) (by omega)]
  unfold resN at hr
  obtain ⟨pr, hpr⟩ : ∃ pr, pr = l[i].f2 * den l n := ⟨_, rfl⟩
  rw [← hpr] at h4 hr ⊢
  have e : wrap64 (wrap64 (wrap64 pr - nu l (rgt n l) n l[i].f1) + nu l (rgt n l) n l[i].f0) = resN n l l[i] := by
   unfold resN
   rw [← hpr, wrap_id (x := pr) (by omega) (by omega), wrap_id (x := pr - _) (by omega) (by omega), wrap_id (by omega) (by omega)]
  rw [e, wrap_id (x := (i : Int) + 1) (by omega) (by omega)]
  have c1 : (nuL l (rgt n l) n).length = n + 1 := nuL_len _ _ _
  have c2 : ((l.take i).map (resN n l)).length = i := by simp; omega
  simp only [c1, c2]
  rw [if_pos (by omega), if_pos (by omega), if_pos (by omega), if_pos (by omega), if_pos (by omega), if_pos (by omega), if_pos (by omega)]
  exact_mod_cast hz
theorem specResid (p : Int) (l : List S32) (k : Nat) (hk : KB + 9 ≤ k) : spec_ResidualsOf.f k p l = some (resD p l, resL p l, Gm.connB p l) := by
 simp only [spec_ResidualsOf.f, whole_eq, Option.bind_some, spec_l10Residuals.f, spec_l10Adjusted.f]
 by_cases h : Gm.connB p l = true
 ·obtain ⟨n, rfl⟩ := conn_nat h
  have hn := conn_n h
  obtain ⟨z, hz, -⟩ := res_l0 h l.length k 0 (by omega) (by omega)
  simp only [h, if_true, Option.bind_some, wp_eq]
  simp only [List.take_zero, List.map_nil] at hz
  rw [show ((0 : Nat) : Int) = 0 from rfl] at hz
  rw [hz]
  rfl
 ·have h' : Gm.connB p l = false := by simpa using h
  simp [h', resD, resL]
end Go.Proofs.Ytkafbmanmffliaa.PuEx

/- The law on the program's ResidualsOf, walked where both sides hand back the same. -/
namespace Go.Proofs.Ytkafbmanmffliaa.LwRO
open Go Go.RowKit YtkafbmanmffliaaW.PrintWords YtkafbmanmffliaaW.PrintLast YtkafbmanmffliaaW.PrintMore Q Hc Ex PuS PuI PuEx
set_option linter.unusedVariables false
set_option linter.unusedSimpArgs false
def TS (B : Nat) (W : World) (v : Value) (m : List S32) : Prop := Kd.R k32 32 W B (fun k => some k = v.ownBlock) v m
theorem TS.of {B : Nat} {W : World} {v : Value} {m : List S32} {ok : Nat → Prop} (h : Kd.R k32 32 W B ok v m) : TS B W v m := Kd.R_tight rfl h
theorem TS.below {B : Nat} {W W' : World} {v : Value} {m : List S32} (h : TS B W v m) (hb : Below W.heap.size W W') : TS B W' v m := Kd.R_below h hb
def Hands (f : FuncId) (p : Int) (m : List S32) (d : Int) (r : List Int) (b : Bool) : Prop :=
 ∀ (W : World) (A : Option Addr) (c : Nat), Kd.C k32 W A m.length m → m.length ≤ c → Calls Try.prog f #[.agg #[.int .i64 p, .slice A m.length c]] W fun e w' => ∃ v, e = .returned (.tuple #[.int .i64 d, v, .bool b]) ∧ T W.heap.size w' v r ∧ Below W.heap.size W w'
set_option maxHeartbeats 4000000 in
set_option maxRecDepth 100000 in
theorem walk (p : Int) (l : List S121) (A : Option Addr) (c : Nat) (m : List S32) (d : Int) (r : List Int) (b : Bool) (hl : l.length ≤ 1048576) (hm : m = l.map conv) (hrl : r.length ≤ 1048576)
  (h1 : Hands 50 p m d r b) (h2 : Hands 20 p m d r b) (w : World) (hr : Kd.C k121 w A l.length l) (hc : l.length ≤ c) :
  Calls Try.prog 13 #[.agg #[.int .i64 p, .slice A l.length c]] w fun e w' => e = .returned (.bool true) ∧ Below w.heap.size w w' := by
 have hu42 := Try.underlying42
 have hu26 := Try.underlying26
 have hml : m.length ≤ 1048576 := by rw [hm]; simpa using hl
 obtain ⟨K, hK⟩ : ∃ K, l.length + r.length + m.length + 5 ≤ K := ⟨_, Nat.le_refl _⟩
 have HSZ := Aside0.mk (szSurvey_eq p l (by omega))
 rw [if_pos hl] at HSZ
 have HT := Aside0.mk (show laws_toSurvey.f K p l = some (p, m) by rw [hm]; exact toSurvey_eq p l hl K (by omega))
 have HEY := Aside0.mk (eqSurvey_eq p m hml K (by omega))
 have HEI := Aside0.mk (eqInt_eq r hrl K (by omega))
 obtain ⟨y, hy, hyl⟩ := markSurvey_eq p m hml K (by omega)
 have HMS := Aside0.mk hy
 have HMI := Aside0.mk (mark_eq r hrl K (by omega))
 have HHE := Aside0.mk (held_eq r.length hrl K (by omega))
 have HML := Aside0.mk (marked_len r.length)
 obtain ⟨n, hn⟩ : ∃ n, n = r.length := ⟨_, rfl⟩
 have HN := Aside0.mk hn
 obtain ⟨q, hq⟩ : ∃ q, q = m.length := ⟨_, rfl⟩
 have HQ := Aside0.mk hq
 rw [← hq] at HMS
 rw [← hn] at HMI HHE HML
 obtain ⟨t, ht⟩ : ∃ t : Int, t = 1048576 - (l.length : Int) := ⟨_, rfl⟩
 rw [← ht] at HSZ
 have hbx := below_alloc (Below.refl w.heap.size w) (.cells #[.int .i64 p, .slice A l.length c] 42)
 have HR := Aside0.mk hr
 have HC := Aside0.mk hc
 have H1 := Aside0.mk h1
 have H2 := Aside0.mk h2
 have HBX := Aside0.mk hbx
 have hb0 : (b != b) = false := bne_self_eq_false b
 have hd0 : (d != d) = false := bne_self_eq_false d
 have c1 : decide (t < 0) = false := decide_eq_false (by omega)
 have c3 : decide (4 * (q : Int) + 1 < 0) = false := decide_eq_false (by omega)
 have c4 : decide ((n : Int) + 1 < 0) = false := decide_eq_false (by omega)
 have c5 : ((n : Int) + 1 != (n : Int) + 1) = false := bne_self_eq_false _
 clear hr hc h1 h2 hbx hm hml hrl hl hyl hy hn hq ht hK
 go_enter Try.func13, Try.ntmps13
 go_wp2_with (fail)
 refine (laws_szSurvey.calls p A c l 1048576 t _ (Kd.C_below HR.out HBX.out) HC.out HSZ.out).mono ?_
 rintro e w1 ⟨rfl, hb⟩
 have HB := Aside0.mk (below_step HBX.out hb)
 have K1 := Aside0.mk (blk_below (blk_new w (.cells #[.int .i64 p, .slice A l.length c] 42)) hb)
 clear hb HBX
 have e0 : w1.cell? ⟨w.heap.size, 0, none⟩ = some (.int .i64 p) := (blk_cell K1.out 0).trans rfl
 have e1 : w1.cell? ⟨w.heap.size, 1, none⟩ = some (.slice A l.length c) := (blk_cell K1.out 1).trans rfl
 go_wp2_with (fail)
 refine (laws_toSurvey.calls K p A c l p m _ (Kd.C_below HR.out HB.out) HC.out HT.out).mono ?_
 rintro e w2 ⟨s2, rfl, hS, hb⟩
 clear e0 e1
 obtain ⟨A2, c2, rfl⟩ := Kd.R_slice hS
 have HB2 := Aside0.mk (below_step HB.out hb)
 have K2 := Aside0.mk (blk_below K1.out hb)
 have hz := H1.out w2 A2 c2 (Kd.R_reads' hS).2.2 (Kd.R_reads' hS).2.1
 clear hS hb HB K1
 go_wp2_with (fail)
 refine hz.mono ?_
 rintro e w3 ⟨v3, rfl, t3, hb⟩
 have HB3 := Aside0.mk (below_step HB2.out hb)
 have K3 := Aside0.mk (blk_below K2.out hb)
 obtain ⟨A3, c3, rfl⟩ := Kd.R_slice t3
 have T3 := Aside0.mk t3
 have HW3 := HB3
 have KW3 := K3
 clear t3 hb hz HB2 K2
 have e0 : w3.cell? ⟨w.heap.size, 0, none⟩ = some (.int .i64 p) := (blk_cell K3.out 0).trans rfl
 have e1 : w3.cell? ⟨w.heap.size, 1, none⟩ = some (.slice A l.length c) := (blk_cell K3.out 1).trans rfl
 go_wp2_with (fail)
 refine (laws_toSurvey.calls K p A c l p m _ (Kd.C_below HR.out HB3.out) HC.out HT.out).mono ?_
 rintro e w4 ⟨s4, rfl, hS, hb⟩
 clear e0 e1
 obtain ⟨A4, c4', rfl⟩ := Kd.R_slice hS
 have hba := below_alloc (Below.refl w4.heap.size w4) (.cells #[.int .i64 p, .slice A4 m.length c4'] 26)
 have X4 := Aside0.mk (heap_alloc_new w4 (.cells #[.int .i64 p, .slice A4 m.length c4'] 26))
 have S4 := Aside0.mk (TS.below (TS.of hS) hba)
 have R4 := Aside0.mk (Kd.C_below (Kd.R_reads' hS).2.2 hba)
 have C4 := Aside0.mk (Kd.R_reads' hS).2.1
 have L4 := Aside0.mk (show ∀ k, (Value.slice A4 m.length c4').ownBlock = some k → w3.heap.size ≤ k ∧ k < w4.heap.size from fun k hk => ⟨Kd.R_base hS k hk, Kd.R_lt hS k hk⟩)
 have HB4 := Aside0.mk (below_step (below_step HB3.out hb) hba)
 have K4 := Aside0.mk (blk_below (blk_below K3.out hb) hba)
 have T4 := Aside0.mk ((T3.out.below hb).below hba)
 have G4 := Aside0.mk (below_step hb hba)
 have W34 := Aside0.mk hb.size
 have Z3 := Aside0.mk (show ∀ k, (Value.slice A3 r.length c3).ownBlock = some k → k < w3.heap.size from fun k hk => T3.out.lt hk)
 have hz := H2.out (w4.alloc (.cells #[.int .i64 p, .slice A4 m.length c4'] 26)) A4 c4' R4.out C4.out
 clear hS hb hba HB3 K3 T3 
 go_wp2_with (fail)
 refine hz.mono ?_
 rintro e w5 ⟨v5, rfl, t5, hb⟩
 obtain ⟨A5, c5', rfl⟩ := Kd.R_slice t5
 have T5 := Aside0.mk t5
 have HB5 := Aside0.mk (below_step HB4.out hb)
 have K5 := Aside0.mk (blk_below K4.out hb)
 have X5 := Aside0.mk (blk_below X4.out hb)
 have S5 := Aside0.mk (S4.out.below hb)
 have U5 := Aside0.mk (T4.out.below hb)
 have G5 := Aside0.mk (below_step G4.out hb)
 have B5 := Aside0.mk (show w3.heap.size ≤ (w4.alloc (.cells #[.int .i64 p, .slice A4 m.length c4'] 26)).heap.size from G4.out.size)
 have L6 := Aside0.mk (show w3.heap.size ≤ w4.heap.size from W34.out)
 have L5 := Aside0.mk (show ∀ k, (Value.slice A5 r.length c5').ownBlock = some k → w4.heap.size < k from fun k hk => by have := Kd.R_base t5 k hk; rw [World.size_alloc] at this; omega)
 have hei := laws_eqInt64S.calls K A5 c5' r A3 c3 r true w5 (Kd.R_reads' t5).2.2 (Kd.R_reads' t5).2.1 (Kd.R_reads' U5.out).2.2 (Kd.R_reads' U5.out).2.1 HEI.out
 clear t5 hb hz HB4 K4 X4 S4 T4 G4 R4
 go_wp2_with (fail)
 refine hei.mono ?_
 rintro e w6 ⟨rfl, hdr⟩
 have hb := hdr.below
 have T6 := Aside0.mk (T5.out.below hb)
 have HB6 := Aside0.mk (below_step HB5.out hb)
 have K6 := Aside0.mk (blk_below K5.out hb)
 have X6 := Aside0.mk (blk_below X5.out hb)
 have S6 := Aside0.mk (S5.out.below hb)
 have U6 := Aside0.mk (U5.out.below hb)
 have G6 := Aside0.mk (below_step G5.out hb)
 clear hb hdr hei T5 HB5 K5 X5 S5 U5 G5
 have e0 : w6.cell? ⟨w.heap.size, 0, none⟩ = some (.int .i64 p) := (blk_cell K6.out 0).trans rfl
 have e1 : w6.cell? ⟨w.heap.size, 1, none⟩ = some (.slice A l.length c) := (blk_cell K6.out 1).trans rfl
 have e2 : w6.cell? ⟨w4.heap.size, 0, none⟩ = some (.int .i64 p) := (blk_cell X6.out 0).trans rfl
 have e3 : w6.cell? ⟨w4.heap.size, 1, none⟩ = some (.slice A4 m.length c4') := (blk_cell X6.out 1).trans rfl
 go_wp2_with (fail)
 refine start_ (n := 5) (S := fun w' => w'.cell? ⟨w.heap.size, 0, none⟩ = some (.int .i64 p) ∧ w'.cell? ⟨w.heap.size, 1, none⟩ = some (.slice A l.length c) ∧ w'.cell? ⟨w4.heap.size, 0, none⟩ = some (.int .i64 p) ∧ w'.cell? ⟨w4.heap.size, 1, none⟩ = some (.slice A4 m.length c4')) (ds := []) #[false, false, false, false, false] (by kernel_rfl) rfl rfl ⟨e0, e1, e2, e3⟩ (fun hHeld => ?_)
 refine take_ (i := 0) (N := some 51) (v := ?_) (a' := ?_) #[true, false, false, false, false] rfl rfl (by kernel_rfl) (fun _ _ _ h => h) (Or.inl ⟨by rfl, ?_⟩) hHeld ?_ ?_
 rotate_left
 ·rintro w' ⟨s0, s1, s2, s3⟩
  go_simp
  with_reducible rfl
 rotate_left
 ·simp only [Act.put, List.setIfInBounds_toArray, List.set_cons_zero, List.set_cons_succ, i64_w, i32_w]
  rfl
 refine take_ (i := 1) (N := some 52) (v := ?_) (a' := ?_) #[true, true, false, false, false] rfl rfl (by kernel_rfl) (fun _ _ _ h => h) (Or.inl ⟨by rfl, ?_⟩) hHeld ?_ ?_
 rotate_left
 ·rintro w' ⟨s0, s1, s2, s3⟩
  go_simp
  with_reducible rfl
 rotate_left
 ·simp only [Act.put, List.setIfInBounds_toArray, List.set_cons_zero, List.set_cons_succ, i64_w, i32_w]
  rfl
 refine one_ (i := 2) (N := some 53) #[true, true, true, false, false] rfl rfl (by kernel_rfl) (by decide) (fun K_ hK => ?_)
 refine goes_ Try.func30 (by kernel_rfl) rfl #[.agg #[.int .i64 p, .slice A l.length c]] (by rfl) rfl rfl (by (try simp only [List.map_toArray, List.map_cons, List.map_nil]); first | done | rfl) ?_
 refine (laws_toSurvey.calls K p A c l p m w6.drew (Kd.C_below HR.out (below_drew HB6.out)) HC.out HT.out).mono ?_
 rintro e w7 ⟨s7, rfl, hS, hb⟩
 obtain ⟨A7, c7, rfl⟩ := Kd.R_slice hS
 have HBd := Aside0.mk (below_step (below_drew (Below.refl w6.heap.size w6)) hb)
 have D7 := Aside0.mk (Kd.R_reads' hS)
 clear hS hb
 refine ⟨_, rfl, ?_⟩
 refine hK.out _ _ (⟨(HBd.out.cell (World.block_lt_of_cell? _ _ e0)).trans e0, (HBd.out.cell (World.block_lt_of_cell? _ _ e1)).trans e1, (HBd.out.cell (World.block_lt_of_cell? _ _ e2)).trans e2, (HBd.out.cell (World.block_lt_of_cell? _ _ e3)).trans e3⟩) (fun hHeld => ?_)
 clear hK K_
 refine norm_ (a' := ?_) ?_ ?_
 rotate_left
 ·show Act.put _ (some 53) _ = _
  simp only [Act.put, List.setIfInBounds_toArray, List.set_cons_zero, List.set_cons_succ, i64_w, i32_w]
  rfl
 refine one_ (i := 3) (N := some 54) #[true, true, true, true, false] rfl rfl (by kernel_rfl) (by decide) (fun K_ hK => ?_)
 refine goes_ Try.func31 (by kernel_rfl) rfl #[.agg #[.int .i64 p, .slice A4 m.length c4'], .agg #[.int .i64 p, .slice A7 m.length c7]] (by rfl) rfl rfl (by (try simp only [List.map_toArray, List.map_cons, List.map_nil]); first | done | rfl) ?_
 refine (laws_eqSurvey.calls K p A4 c4' m p A7 c7 m true w7 (Kd.R_reads' (TS.below S6.out HBd.out)).2.2 C4.out D7.out.2.2 D7.out.2.1 HEY.out).mono ?_
 rintro e w8 ⟨rfl, hb⟩
 have HB8' := Aside0.mk (below_step HBd.out hb)
 clear hb
 refine ⟨_, rfl, ?_⟩
 refine hK.out _ _ (⟨(HB8'.out.cell (World.block_lt_of_cell? _ _ e0)).trans e0, (HB8'.out.cell (World.block_lt_of_cell? _ _ e1)).trans e1, (HB8'.out.cell (World.block_lt_of_cell? _ _ e2)).trans e2, (HB8'.out.cell (World.block_lt_of_cell? _ _ e3)).trans e3⟩) (fun hHeld => ?_)
 clear hK K_
 refine norm_ (a' := ?_) ?_ ?_
 rotate_left
 ·show Act.put _ (some 54) _ = _
  simp only [Act.put, List.setIfInBounds_toArray, List.set_cons_zero, List.set_cons_succ, i64_w, i32_w]
  rfl
 refine pure_ (i := 4) (N := some 55) (v := ?_) (a' := ?_) #[true, true, true, true, true] rfl rfl (by kernel_rfl) (fun _ _ _ h => h) (Or.inl ⟨by rfl, ?_⟩) ?_ ?_
 rotate_left
 ·intro w'
  go_simp
  with_reducible rfl
 rotate_left
 ·simp only [Act.put, List.setIfInBounds_toArray, List.set_cons_zero, List.set_cons_succ, i64_w, i32_w]
  rfl
 refine done_ (by kernel_rfl) ?_
 have T8 := Aside0.mk (T6.out.below HB8'.out)
 have X8 := Aside0.mk (blk_below X6.out HB8'.out)
 have S8 := Aside0.mk (S6.out.below HB8'.out)
 have U8 := Aside0.mk (U6.out.below HB8'.out)
 have G8 := Aside0.mk (below_step G6.out HB8'.out)
 clear e0 e1 e2 e3 HB8' HBd D7 T6 HB6 K6 X6 S6 U6 G6
 have e2 : w8.cell? ⟨w4.heap.size, 0, none⟩ = some (.int .i64 p) := (blk_cell X8.out 0).trans rfl
 have e3 : w8.cell? ⟨w4.heap.size, 1, none⟩ = some (.slice A4 m.length c4') := (blk_cell X8.out 1).trans rfl
 go_wp2_with (fail)
 refine (laws_markSurvey.calls K p (fun k => some k = (Value.slice A4 m.length c4').ownBlock) (.slice A4 m.length c4') m 1 (4 * (q : Int) + 1) y w3 w8 G8.out S8.out HMS.out).mono ?_
 rintro e w9 ⟨rfl, -, hb, hk⟩
 have T9 := Aside0.mk (T.of (Kd.R_kept (Kd.R_tight rfl T8.out) hk (fun k ho hS => by have h1 := L5.out k ho.symm; have h2 := L4.out k hS.symm; omega)))
 have U9 := Aside0.mk (T.of (Kd.R_kept (Kd.R_tight rfl U8.out) hk (fun k ho hS => by have h1 := Z3.out k ho.symm; have h2 := L4.out k hS.symm; omega)))
 have HB9 := Aside0.mk (below_step HW3.out hb)
 have K9 := Aside0.mk (blk_below KW3.out hb)
 have G9 := Aside0.mk hb
 have hei := laws_eqInt64S.calls K A5 c5' r A3 c3 r true w9 (Kd.R_reads' T9.out).2.2 (Kd.R_reads' T9.out).2.1 (Kd.R_reads' U9.out).2.2 (Kd.R_reads' U9.out).2.1 HEI.out
 clear hb hk e2 e3 T8 X8 S8 U8 G8
 go_wp2_with (fail)
 refine hei.mono ?_
 rintro e w10 ⟨rfl, hdr⟩
 have hb := hdr.below
 have T10 := Aside0.mk (T9.out.below hb)
 have U10 := Aside0.mk (U9.out.below hb)
 have HB10 := Aside0.mk (below_step HB9.out hb)
 have K10 := Aside0.mk (blk_below K9.out hb)
 have G10 := Aside0.mk (below_step G9.out hb)
 clear hb hdr hei T9 U9 HB9 K9 G9
 go_wp2_with (fail)
 refine (laws_markInt64S.calls K (fun k => some k = (Value.slice A5 r.length c5').ownBlock) (.slice A5 r.length c5') r 1 ((n : Int) + 1) (marked n) w3 w10 G10.out (Kd.R_lower (Kd.R_tight rfl T10.out) B5.out) HMI.out).mono ?_
 rintro e w11 ⟨rfl, hR, hb, hk⟩
 have M11 := Aside0.mk (T.of hR)
 have U11 := Aside0.mk (T.of (Kd.R_kept (Kd.R_tight rfl U10.out) hk (fun k ho hS => by have h1 := Z3.out k ho.symm; have h2 := L5.out k hS.symm; have h3 := B5.out; have h4 := L6.out; omega)))
 have HB11 := Aside0.mk (below_step HW3.out hb)
 have K11 := Aside0.mk (blk_below KW3.out hb)
 have hhe : Calls Try.prog 47 #[.slice A5 r.length c5', .int .i64 1] w11 fun e w' => e = .returned (.int .i64 ((n : Int) + 1)) ∧ Drawn0 w11 w' := by
  have hq := Kd.R_reads' hR
  have hh := laws_heldInt64S.calls K A5 c5' (marked n) 1 ((n : Int) + 1) w11 hq.2.2 (by have := hq.2.1; rw [HML.out]; have := HN.out; omega) HHE.out
  rw [HML.out] at hh
  rw [← HN.out]
  exact hh
 clear hR hb hk T10 U10 HB10 K10 G10
 go_wp2_with (fail)
 refine hhe.mono ?_
 rintro e w12 ⟨rfl, hdr⟩
 have hb := hdr.below
 have M12 := Aside0.mk (M11.out.below hb)
 have U12 := Aside0.mk (U11.out.below hb)
 have HB12 := Aside0.mk (below_step HB11.out hb)
 have K12 := Aside0.mk (blk_below K11.out hb)
 clear hb hdr hhe M11 U11 HB11 K11
 have e0 : w12.cell? ⟨w.heap.size, 0, none⟩ = some (.int .i64 p) := (blk_cell K12.out 0).trans rfl
 have e1 : w12.cell? ⟨w.heap.size, 1, none⟩ = some (.slice A l.length c) := (blk_cell K12.out 1).trans rfl
 go_wp2_with (fail)
 refine (laws_toSurvey.calls K p A c l p m _ (Kd.C_below HR.out HB12.out) HC.out HT.out).mono ?_
 rintro e w13 ⟨s13, rfl, hS, hb⟩
 clear e0 e1
 obtain ⟨A13, c13, rfl⟩ := Kd.R_slice hS
 have HB13 := Aside0.mk (below_step HB12.out hb)
 have M13 := Aside0.mk (M12.out.below hb)
 have U13 := Aside0.mk (U12.out.below hb)
 have hz := H2.out w13 A13 c13 (Kd.R_reads' hS).2.2 (Kd.R_reads' hS).2.1
 clear hS hb HB12 K12 M12 U12
 go_wp2_with (fail)
 refine hz.mono ?_
 rintro e w14 ⟨v14, rfl, t14, hb⟩
 obtain ⟨A14, c14, rfl⟩ := Kd.R_slice t14
 have HB14 := Aside0.mk (below_step HB13.out hb)
 have M14 := Aside0.mk (M13.out.below hb)
 have U14 := Aside0.mk (U13.out.below hb)
 have hei := laws_eqInt64S.calls K A14 c14 r A3 c3 r true w14 (Kd.R_reads' t14).2.2 (Kd.R_reads' t14).2.1 (Kd.R_reads' U14.out).2.2 (Kd.R_reads' U14.out).2.1 HEI.out
 clear hb hz t14 HB13 M13 U13
 go_wp2_with (fail)
 refine hei.mono ?_
 rintro e w15 ⟨rfl, hdr⟩
 have hb := hdr.below
 have M15 := Aside0.mk (M14.out.below hb)
 have HB15 := Aside0.mk (below_step HB14.out hb)
 have hhe : Calls Try.prog 47 #[.slice A5 r.length c5', .int .i64 1] w15 fun e w' => e = .returned (.int .i64 ((n : Int) + 1)) ∧ Drawn0 w15 w' := by
  have hq := Kd.R_reads' M15.out
  have hh := laws_heldInt64S.calls K A5 c5' (marked n) 1 ((n : Int) + 1) w15 hq.2.2 (by have := hq.2.1; rw [HML.out]; have := HN.out; omega) HHE.out
  rw [HML.out] at hh
  rw [← HN.out]
  exact hh
 clear hb hdr hei HB14 M14 U14
 go_wp2_with (fail)
 refine hhe.mono ?_
 rintro e w16 ⟨rfl, hdr⟩
 have HB16 := Aside0.mk (below_step HB15.out hdr.below)
 clear hdr hhe
 go_wp2_with (fail)
 go_ret
 exact ⟨rfl, HB16.out⟩
theorem resLen (p : Int) (l : List S32) : (resL p l).length ≤ 1048576 := by
 unfold resL
 split
 ·rename_i h
  obtain ⟨n, rfl⟩ := conn_nat h
  have := Kf.conn_n h
  simp only [Lo2.lowL, List.length_map, wp_eq, Gv.nuL_len]
  omega
 ·simp
set_option maxHeartbeats 4000000 in
theorem law_any (p : Int) (l : List S121) (A : Option Addr) (c : Nat) (w : World) (hr : Kd.C k121 w A l.length l) (hc : l.length ≤ c) (h : l.length ≤ 9223372036854775807) :
  Calls Try.prog 13 #[.agg #[.int .i64 p, .slice A l.length c]] w fun e w' => e = .returned (.bool true) ∧ Below w.heap.size w w' := by
 by_cases hl : l.length ≤ 1048576
 ·have hm : (l.map conv).length ≤ 1048576 := by simpa using hl
  obtain ⟨K, hK⟩ : ∃ K, KB + 9 ≤ K := ⟨_, Nat.le_refl _⟩
  exact walk p l A c (l.map conv) (resD p (l.map conv)) (resL p (l.map conv)) (Gm.connB p (l.map conv)) hl rfl (resLen _ _)
   (fun W A c hr hc => spec_ResidualsOf.calls K p A c (l.map conv) _ _ _ W hr hc (specResid p (l.map conv) K (by omega)))
   (fun W A c hr hc => resid_any p (l.map conv) A c W hr hc hm) w hr hc
 ·have hu42 := Try.underlying42
  have hsz := szSurvey_eq p l h
  rw [if_neg hl] at hsz
  have hbx := below_alloc (Below.refl w.heap.size w) (.cells #[.int .i64 p, .slice A l.length c] 42)
  have hz := laws_szSurvey.calls p A c l 1048576 (-1) _ (Kd.C_below hr hbx) hc hsz
  have HB := Aside0.mk hbx
  clear hr hc hbx hsz h hl
  go_enter Try.func13, Try.ntmps13
  go_wp2_with (fail)
  refine hz.mono ?_
  rintro e w1 ⟨rfl, hb⟩
  have HB1 := Aside0.mk (below_step HB.out hb)
  clear hb hz
  go_wp2_with (fail)
  go_ret
  exact ⟨rfl, HB1.out⟩
end Go.Proofs.Ytkafbmanmffliaa.LwRO

