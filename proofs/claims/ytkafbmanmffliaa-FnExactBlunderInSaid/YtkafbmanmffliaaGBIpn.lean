/- Parts of the proof that the law of this seat holds: Va6, Va7, Q127, Q128, Q129, Q130, Q131, PuI, PuEx, Ix, Hf, Hg, Hh, Bl1. -/
import Derived.Test.YtkafbmanmffliaaGBIpa
import Derived.Test.YtkafbmanmffliaaGBIpb
import Derived.Test.YtkafbmanmffliaaGBIpm
import Derived.Test.YtkafbmanmffliaaGBIpl
import Derived.Deep.RegionLaw
import Derived.Lib.SliceRun
import Derived.Deep.RegionWith
set_option linter.unusedVariables false
set_option linter.unusedSimpArgs false
namespace Go.Proofs.Ytkafbmanmffliaa.Q
open Go.RowKit YtkafbmanmffliaaW.PrintWords YtkafbmanmffliaaW.PrintLast YtkafbmanmffliaaW.PrintMore
attribute [local go_sem] max2_int min2_int max_two min_two max_three min_three max_four min_four
def spec_l10Residuals.l0 : Nat → List Int → Int → List Int → Int → Int → List (S32) → Option (Int × List Int × Int)
 | 0, _, _, _, _, _, _ => none
 | k + 1, x4, x5, x6, x7, x1000, x1001 => if x7 < (x1001.length : Int) then (if 0 ≤ x7 then (if 0 ≤ ((rd_T32 x1001 x7).f1) then (if ((rd_T32 x1001 x7).f1) < (x4.length : Int) then (if 0 ≤ ((rd_T32 x1001 x7).f0) then (if ((rd_T32 x1001 x7).f0) < (x4.length : Int) then (if x6.length < 17592186044416 then (spec_l10Residuals.l0 k x4 x5 (x6 ++ [wrap64 ((wrap64 ((wrap64 (((rd_T32 x1001 x7).f2) * x5)) - (rd x4 ((rd_T32 x1001 x7).f1)))) + (rd x4 ((rd_T32 x1001 x7).f0)))]) (wrap64 (x7 + 1)) x1000 x1001) else (none)) else (none)) else (none)) else (none)) else (none)) else (none)) else ((spec_l10Lowest.f k x6 x5).bind fun bt350 => (some (bt350.1, bt350.2, x1000)))
def spec_l10Residuals.f (k : Nat) (s0_0 : Int) (s0_1 : List (S32)) : Option (Int × List Int × Int) := (spec_l10Adjusted.f s0_0 s0_1).bind fun bt335 => (spec_l10Residuals.l0 k bt335.1 bt335.2.1 (([] : List Int)) 0 bt335.2.2 s0_1)
theorem spec_l10Residuals.mono_l : ∀ k, (∀ y0 y1 y2 y3 y4 y5, LeO (spec_l10Residuals.l0 k y0 y1 y2 y3 y4 y5) (spec_l10Residuals.l0 (k + 1) y0 y1 y2 y3 y4 y5))
 | 0 => fun _ _ _ _ _ _ r h => by simp [spec_l10Residuals.l0] at h
 | k + 1 => by
  have ih0 := spec_l10Residuals.mono_l k
  ·intro y0 y1 y2 y3 y4 y5
   unfold spec_l10Residuals.l0
   repeat' first
   | (with_reducible exact ih0 _ _ _ _ _ _)
   | (with_reducible exact spec_l10Lowest.mono _ _ _)
   | (with_reducible exact LeO.refl _)
   | (with_reducible exact LeO.none _)
   | (with_reducible refine LeO.ite ?_ ?_)
   | (with_reducible refine LeO.bind ?_ (fun _ => ?_))
   | exact ih0 _ _ _ _ _ _
   | exact spec_l10Lowest.mono _ _ _
   | exact LeO.none _
   | refine LeO.ite ?_ ?_
   | refine LeO.bind ?_ (fun _ => ?_)
theorem spec_l10Residuals.mono : ∀ a0 a1 k, LeO (spec_l10Residuals.f k a0 a1) (spec_l10Residuals.f (k + 1) a0 a1) := by
 intro a0 a1 k
 have ih0 := spec_l10Residuals.mono_l k
 unfold spec_l10Residuals.f
 repeat' first
   | (with_reducible exact ih0 _ _ _ _ _ _)
   | (with_reducible exact spec_l10Lowest.mono _ _ _)
   | (with_reducible exact LeO.refl _)
   | (with_reducible exact LeO.none _)
   | (with_reducible refine LeO.ite ?_ ?_)
   | (with_reducible refine LeO.bind ?_ (fun _ => ?_))
   | exact ih0 _ _ _ _ _ _
   | exact spec_l10Lowest.mono _ _ _
   | exact LeO.none _
   | refine LeO.ite ?_ ?_
   | refine LeO.bind ?_ (fun _ => ?_)
def spec_l10Residuals.T7 : Bool × List (List Nat × List Nat) := (true, [([], []), ([], []), ([1], [1]), ([], []), ([2, 3], [2, 3]), ([], []), ([], []), ([6], [6]), ([5, 7], [5, 7]), ([8], [8]), ([4, 9], [4, 9]), ([], []), ([], []), ([12], [12]), ([11, 13], [11, 13]), ([14], [14]), ([10, 15], [10, 15]), ([16], [16]), ([0, 17], [0, 17]), ([18, 18, 0, 1, 2, 3, 4, 5, 6, 7, 8, 9, 10, 11, 12, 13, 14, 15, 16, 17, 18], [0, 18])])
def spec_l10Residuals.B7 : List Nat := [0, 0, 2, 0, 14, 0, 0, 64, 224, 480, 1022, 0, 0, 4096, 14336, 30720, 65534, 131070, 262143, 524287]
theorem spec_l10Residuals.tab7 : rtab .any (opsOf Try.f83 7) = spec_l10Residuals.T7 := by kernel_rfl
theorem spec_l10Residuals.bits7 : waitsOk spec_l10Residuals.T7.2 spec_l10Residuals.B7 = true := by kernel_rfl
set_option maxHeartbeats 8000000 in
set_option maxRecDepth 100000 in
theorem spec_l10Residuals.calls (k : Nat) (g : Nat) (s0_0 : Int) (s0_1 : List (S32)) (r1 : Int) (r2 : List Int) (r3 : Int) (w0 w : World) (hI : IsS26 w0 w g s0_0 s0_1) (hB : Below w0.heap.size w0 w) (h : spec_l10Residuals.f k s0_0 s0_1 = some (r1, r2, r3)) :
  Calls Try.prog 83 #[.pointer (some ⟨g, 0, none⟩)] w fun e w' => ∃ v1_ : Value, e = .returned (.tuple #[.int .i64 r1, v1_]) ∧ Kd.R (Kd.int .i64) 2 w' w.heap.size (fun _ => True) v1_ r2 ∧ IsS26 w0 w' g r3 s0_1 ∧ Below w0.heap.size w0 w' ∧ KeepBut w w' g none := by
 have hu32 := Try.underlying32
 have HI0 := Aside0.mk hI
 have HK := Aside0.mk (KeepBut.refl w g none)
 have HL := Aside0.mk hB.size
 clear hI
 have HW0 := Aside0.mk hB.size
 have HB := Aside0.mk hB
 clear hB
 have H : ((spec_l10Adjusted.f s0_0 s0_1).bind fun bt335 => (spec_l10Residuals.l0 k bt335.1 bt335.2.1 (([] : List Int)) 0 bt335.2.2 s0_1)) = some (r1, r2, r3) := h
 clear h
 replace H := Option.bind_eq_some_iff.mp H
 obtain ⟨⟨t335, t338, t339⟩, A20, H⟩ := H
 replace H : (spec_l10Residuals.l0 k t335 t338 (([] : List Int)) 0 t339 s0_1) = some (r1, r2, r3) := H
 have A2 := Aside0.mk A20
 clear A20
 obtain ⟨y340, hy340⟩ : ∃ y_ : List Int, y_ = (([] : List Int)) := ⟨_, rfl⟩
 replace H : (spec_l10Residuals.l0 k t335 t338 y340 0 t339 s0_1) = some (r1, r2, r3) := by first | (rw [hy340]; with_reducible exact H) | (have H2_ := (Option.bind_some _ _).symm.trans H; rw [hy340]; with_reducible exact H2_) | (have H2_ := (Option.bind_some _ _).symm.trans H; with_reducible exact H2_) | with_reducible exact H | (rw [hy340]; exact H) | exact H
 have Ny340 := Aside0.mk hy340
 clear hy340
 have H' := Aside0.mk H
 clear H
 go_enter Try.func83, Try.ntmps83
 go_wp2_with (first | ((with_reducible refine gate_callee (f := 77) rfl ?_); refine goesL_ (some 11) rfl rfl Try.func77 (by kernel_rfl) rfl #[.pointer (some ⟨g, 0, none⟩)] rfl (by (try simp only [List.map_toArray, List.map_cons, List.map_nil]); first | done | rfl | (simp only [List.length_drop, List.length_take]; rfl)) ?_; (with_reducible refine (spec_l10Adjusted.calls g s0_0 s0_1 t335 t338 t339 w0 _ ?side1 ?side2 A2.out).mono ?_); (case side1 => repeat (first | (with_reducible first | exact HI0.out | apply IsS26.alloc | apply IsS26.drewN | apply IsS26.drew | apply IsS26.set_0) | exact HI0.out)); (case side2 => repeat (first | (with_reducible first | exact HB.out | apply below_alloc | apply pw_below_drewN | apply below_drew1 | refine below_set ?_ (IsS26.ge HI0.out)) | exact HB.out)); rintro e w3 ⟨v336, rfl, ho0, hi, hb, hk⟩; refine ⟨_, rfl, ?_⟩; have n0_ := Aside0.mk (Kd.R_lower ho0 (keep_size (w := w) (g := g) (row := none) (by repeat (first | (with_reducible first | exact HK.out | apply KeepBut.set_ | apply keep_drewN | apply keep_drew | apply keep_alloc) | exact HK.out)))); have n1_ := Aside0.mk (KeepBut.trans (by repeat (first | (with_reducible first | exact HK.out | apply KeepBut.set_ | apply keep_drewN | apply keep_drew | apply keep_alloc) | exact HK.out)) hk (.inl rfl)); have n2_ := Aside0.mk (hb); have n3_ := Aside0.mk (hi); clear HK; clear HB; clear HI0; have HO337 := n0_; have HK := n1_; have HB := n2_; have HI0 := n3_; clear n0_ n1_ n2_ n3_; (try clear hb); (try clear hb2); (try clear hk); (try clear hi); (try clear ho0)) | ((with_reducible refine gate_dst (N := 14) rfl ?_); refine Kd.R_lit (Kd.int .i64) _ 2 ?hg (N := 14) ?hd (xs := ([] : List Int)) (inner := []) (ok := fun _ => True) (okp := fun _ => True) ?hr ?hp (fun _ hk => hk) trivial (Below.refl _ _) (Nat.le_refl _) (by simp) ?_; (case hd => rfl); (case hg => rfl); (case hr => first | (go_simp; done) | (go_simp; rfl)); (case hp => exact (Reps.none _ _)); intro v341 w4 ho5 hb hg_ hnew_; clear hg_ hnew_; (first | rw [← Ny340.out] at ho5 | (simp only [Int.reduceToNat] at ho5; rw [← Ny340.out] at ho5)); have n0_ := Aside0.mk (Kd.R_elder' (by (with_reducible repeat (first | apply Kd.R_alloc | apply Kd.R_drewN | apply Kd.R_drew)); exact HO337.out) (Kd.R_base ho5) hb); have n1_ := Aside0.mk (Kd.R_lower (Kd.R_new' ho5 (Kd.R_lt (by (with_reducible repeat (first | apply Kd.R_alloc | apply Kd.R_drewN | apply Kd.R_drew)); exact HO337.out))) (keep_size (w := w) (g := g) (row := none) (by repeat (first | (with_reducible first | exact HK.out | apply KeepBut.set_ | apply keep_drewN | apply keep_drew | apply keep_alloc) | exact HK.out)))); have n2_ := Aside0.mk (IsS26.below (by repeat (first | (with_reducible first | exact HI0.out | apply IsS26.alloc | apply IsS26.drewN | apply IsS26.drew | apply IsS26.set_0) | exact HI0.out)) hb); have n3_ := Aside0.mk (KeepBut.trans (by repeat (first | (with_reducible first | exact HK.out | apply KeepBut.set_ | apply keep_drewN | apply keep_drew | apply keep_alloc) | exact HK.out)) (KeepBut.of_below hb g none) (.inl rfl)); have n4_ := Aside0.mk (below_step (by repeat (first | (with_reducible first | exact HB.out | apply below_alloc | apply pw_below_drewN | apply below_drew1 | refine below_set ?_ (IsS26.ge HI0.out)) | exact HB.out)) hb); clear HO337; clear HI0; clear HK; clear HB; have HO337 := n0_; have HO342 := n1_; have HI0 := n2_; have HK := n3_; have HB := n4_; clear n0_ n1_ n2_ n3_ n4_; clear hb ho5))
 go_loopg [6, 7] k (fun kq v6 v7 w' => ∃ (x6_1 : List Int) (x7_1 : Int), v7 = .int .i64 x7_1 ∧ Aside0 (spec_l10Residuals.l0 kq t335 t338 x6_1 x7_1 t339 s0_1 = some (r1, r2, r3)) ∧ Aside0 (kq ≤ k) ∧ Aside0 (Kd.R (Kd.int .i64) 2 w' w.heap.size (fun k_ => some k_ ≠ (v6 : Value).ownBlock) v336 t335) ∧ Aside0 (Kd.R (Kd.int .i64) 2 w' w.heap.size (fun k_ => some k_ ≠ (v336 : Value).ownBlock) v6 x6_1) ∧ Aside0 (IsS26 w0 w' g t339 s0_1) ∧ Aside0 (KeepBut w w' g none) ∧ Aside0 (Below w0.heap.size w0 w'))
 case atStart => exact ⟨(y340), (0), (by first | rfl | (simp; done) | (simp [*]; done)), H', ⟨Nat.le_refl _⟩, ⟨by (with_reducible repeat (first | apply Kd.R_alloc | apply Kd.R_drewN | apply Kd.R_drew)); exact Kd.R_mono HO337.out (fun _ hk => hk.2)⟩, ⟨by (with_reducible repeat (first | apply Kd.R_alloc | apply Kd.R_drewN | apply Kd.R_drew)); exact Kd.R_mono HO342.out (fun _ hk => hk.2)⟩, ⟨by repeat (first | (with_reducible first | exact HI0.out | apply IsS26.alloc | apply IsS26.drewN | apply IsS26.drew | apply IsS26.set_0) | exact HI0.out)⟩, ⟨by repeat (first | (with_reducible first | exact HK.out | apply KeepBut.set_ | apply keep_drewN | apply keep_drew | apply keep_alloc) | exact HK.out)⟩, ⟨by repeat (first | (with_reducible first | exact HB.out | apply below_alloc | apply pw_below_drewN | apply below_drew1 | refine below_set ?_ (IsS26.ge HI0.out)) | exact HB.out)⟩⟩
 case round =>
  clear H'
  try clear p2
  obtain ⟨x6_1, x7_1, rfl, HA, HK1, HO_4, HO_6, HI0, HK, HB⟩ := hrel
  cases gk with
  | zero => exact absurd HA.out (by simp [spec_l10Residuals.l0])
  | succ k1 =>
   have H := HA.out
   clear HA
   simp only [spec_l10Residuals.l0] at H
   by_cases c6 : x7_1 < (s0_1.length : Int)
   ·rw [if_pos c6] at H
    have c6b0 : decide (x7_1 < (s0_1.length : Int)) = true := decide_eq_true c6
    clear c6
    by_cases c7 : 0 ≤ x7_1
    ·rw [if_pos c7] at H
     have c7b0 : decide (0 ≤ x7_1) = true := decide_eq_true c7
     clear c7
     by_cases c8 : 0 ≤ ((rd_T32 s0_1 x7_1).f1)
     ·rw [if_pos c8] at H
      have c8b0 : decide (0 ≤ ((rd_T32 s0_1 x7_1).f1)) = true := decide_eq_true c8
      clear c8
      by_cases c9 : ((rd_T32 s0_1 x7_1).f1) < (t335.length : Int)
      ·rw [if_pos c9] at H
       have c9b0 : decide (((rd_T32 s0_1 x7_1).f1) < (t335.length : Int)) = true := decide_eq_true c9
       clear c9
       by_cases c10 : 0 ≤ ((rd_T32 s0_1 x7_1).f0)
       ·rw [if_pos c10] at H
        have c10b0 : decide (0 ≤ ((rd_T32 s0_1 x7_1).f0)) = true := decide_eq_true c10
        clear c10
        by_cases c11 : ((rd_T32 s0_1 x7_1).f0) < (t335.length : Int)
        ·rw [if_pos c11] at H
         have c11b0 : decide (((rd_T32 s0_1 x7_1).f0) < (t335.length : Int)) = true := decide_eq_true c11
         clear c11
         by_cases c12 : x6_1.length < 17592186044416
         ·rw [if_pos c12] at H
          have LMc12 := Aside0.mk c12
          clear c12
          obtain ⟨y347, hy347⟩ : ∃ y_ : List Int, y_ = (x6_1 ++ [wrap64 ((wrap64 ((wrap64 (((rd_T32 s0_1 x7_1).f2) * t338)) - (rd t335 ((rd_T32 s0_1 x7_1).f1)))) + (rd t335 ((rd_T32 s0_1 x7_1).f0)))]) := ⟨_, rfl⟩
          replace H : (spec_l10Residuals.l0 k1 t335 t338 y347 (wrap64 (x7_1 + 1)) t339 s0_1) = some (r1, r2, r3) := by first | (rw [hy347]; with_reducible exact H) | (have H2_ := (Option.bind_some _ _).symm.trans H; rw [hy347]; with_reducible exact H2_) | (have H2_ := (Option.bind_some _ _).symm.trans H; with_reducible exact H2_) | with_reducible exact H | (rw [hy347]; exact H) | exact H
          have Ny347 := Aside0.mk hy347
          clear hy347
          have H' := Aside0.mk H
          clear H
          obtain ⟨ASz13_1, cSz13_1, HGz13, hgz13, HSz13_1⟩ := HI0.out
          have hcz13_0 := cellS26_0 HGz13
          have hcz13_1 := cellS26_1 HGz13
          have hfz13_0 := blk_frozen HGz13 0
          clear HGz13 hgz13
          have p343 : 0 ≤ (x7_1 : Int) := of_decide_eq_true (by first | (with_reducible assumption) | assumption)
          have q343 : x7_1 < (s0_1.length : Int) := of_decide_eq_true (by first | (with_reducible assumption) | assumption)
          obtain ⟨ad343, e343, hx343_0, hx343_1, hx343_2, hx343_3⟩ := at_T32 HSz13_1 x7_1 p343 q343
          cases e343
          replace hx343_0 := pw_cell_below HB.out hx343_0
          replace hx343_1 := pw_cell_below HB.out hx343_1
          replace hx343_2 := pw_cell_below HB.out hx343_2
          replace hx343_3 := pw_cell_below HB.out hx343_3
          replace p343 := eq_true p343
          replace q343 := eq_true q343
          try go_wp2_with (first | ((with_reducible refine gate_dst (N := 8) rfl ?_); refine box_event ?hg (N := 8) ?hd (cs := #[.int .i64 0, .int .i64 0, .int .i64 0, .int .i64 0]) (t := 32) ?hr ?_; (case hd => rfl); (case hg => rfl); (case hr => first | (go_simp; done) | (go_simp; rfl)); intro gb344 hg w14 hbox hb; have n0_ := Aside0.mk (Kd.R_below (by (with_reducible repeat (first | apply Kd.R_alloc | apply Kd.R_drewN | apply Kd.R_drew)); exact HO_4.out) hb); have n1_ := Aside0.mk (Kd.R_below (by (with_reducible repeat (first | apply Kd.R_alloc | apply Kd.R_drewN | apply Kd.R_drew)); exact HO_6.out) hb); have n2_ := Aside0.mk (IsS26.below (by repeat (first | (with_reducible first | exact HI0.out | apply IsS26.alloc | apply IsS26.drewN | apply IsS26.drew | apply IsS26.set_0) | exact HI0.out)) hb); have n3_ := Aside0.mk (KeepBut.trans (by repeat (first | (with_reducible first | exact HK.out | apply KeepBut.set_ | apply keep_drewN | apply keep_drew | apply keep_alloc) | exact HK.out)) (KeepBut.of_below hb g none) (.inl rfl)); have n4_ := Aside0.mk (below_step (by repeat (first | (with_reducible first | exact HB.out | apply below_alloc | apply pw_below_drewN | apply below_drew1 | refine below_set ?_ (IsS26.ge HI0.out)) | exact HB.out)) hb); have n5_ := Aside0.mk (hbox); have n6_ := Aside0.mk ((by rw [hg]; exact (keep_size (w := w) (g := g) (row := none) (by repeat (first | (with_reducible first | exact HK.out | apply KeepBut.set_ | apply keep_drewN | apply keep_drew | apply keep_alloc) | exact HK.out))) : w.heap.size ≤ gb344)); have n7_ := Aside0.mk ((Nat.le_trans HW0.out (by rw [hg]; exact (keep_size (w := w) (g := g) (row := none) (by repeat (first | (with_reducible first | exact HK.out | apply KeepBut.set_ | apply keep_drewN | apply keep_drew | apply keep_alloc) | exact HK.out))) : w.heap.size ≤ gb344) : w0.heap.size ≤ gb344)); have n8_ := Aside0.mk ((by rw [hg]; exact Nat.ne_of_lt (IsS26.lt (show IsS26 w0 _ g t339 s0_1 from by repeat (first | (with_reducible first | exact HI0.out | apply IsS26.alloc | apply IsS26.drewN | apply IsS26.drew | apply IsS26.set_0) | exact HI0.out))) : g ≠ gb344)); have n9_ := Aside0.mk ((by rw [hg]; exact Nat.ne_of_gt (IsS26.lt (show IsS26 w0 _ g t339 s0_1 from by repeat (first | (with_reducible first | exact HI0.out | apply IsS26.alloc | apply IsS26.drewN | apply IsS26.drew | apply IsS26.set_0) | exact HI0.out))) : gb344 ≠ g)); clear HO_4; clear HO_6; clear HI0; clear HK; clear HB; have HO_4 := n0_; have HO_6 := n1_; have HI0 := n2_; have HK := n3_; have HB := n4_; have BK344 := n5_; have GW344 := n6_; have GE344 := n7_; have NB0_344 := n8_; have NB344_0 := n9_; clear n0_ n1_ n2_ n3_ n4_ n5_ n6_ n7_ n8_ n9_; clear hb hbox hg; have hnb15 := NB344_0.out; have hnc15 := NB0_344.out; have hcz16_0 : w14.cell? ⟨gb344, 0, none⟩ = some (.int .i64 0) := (blk_cell BK344.out 0).trans rfl; have hcz16_1 : w14.cell? ⟨gb344, 1, none⟩ = some (.int .i64 0) := (blk_cell BK344.out 1).trans rfl; have hcz16_2 : w14.cell? ⟨gb344, 2, none⟩ = some (.int .i64 0) := (blk_cell BK344.out 2).trans rfl; have hcz16_3 : w14.cell? ⟨gb344, 3, none⟩ = some (.int .i64 0) := (blk_cell BK344.out 3).trans rfl; have hfz16_0 := blk_frozen BK344.out 0; have hfz16_1 := blk_frozen BK344.out 1; have hfz16_2 := blk_frozen BK344.out 2; have hfz16_3 := blk_frozen BK344.out 3))
          have n0_ : Aside0 (Kd.R (Kd.int .i64) 2 ((((w14.setCell ⟨gb344, 0, none⟩ (.int .i64 ((rd_T32 s0_1 x7_1).f0))).setCell ⟨gb344, 1, none⟩ (.int .i64 ((rd_T32 s0_1 x7_1).f1))).setCell ⟨gb344, 2, none⟩ (.int .i64 ((rd_T32 s0_1 x7_1).f2))).setCell ⟨gb344, 3, none⟩ (.int .i64 ((rd_T32 s0_1 x7_1).f3))) w.heap.size (fun k_ => some k_ ≠ (u6 : Value).ownBlock) v336 t335) := ⟨by (with_reducible repeat (first | apply Kd.R_alloc | apply Kd.R_drewN | apply Kd.R_drew)); exact Kd.R_mono (Kd.R_far (p := ⟨gb344, 3, none⟩) (Kd.R_far (p := ⟨gb344, 2, none⟩) (Kd.R_far (p := ⟨gb344, 1, none⟩) (Kd.R_far (p := ⟨gb344, 0, none⟩) (Kd.R_types HO_4.out BK344.out (by decide)) (fun _ hk => hk.2) (.int .i64 ((rd_T32 s0_1 x7_1).f0))) (fun _ hk => hk.2) (.int .i64 ((rd_T32 s0_1 x7_1).f1))) (fun _ hk => hk.2) (.int .i64 ((rd_T32 s0_1 x7_1).f2))) (fun _ hk => hk.2) (.int .i64 ((rd_T32 s0_1 x7_1).f3))) (fun _ hk => hk.1)⟩
          have n1_ : Aside0 (Kd.R (Kd.int .i64) 2 ((((w14.setCell ⟨gb344, 0, none⟩ (.int .i64 ((rd_T32 s0_1 x7_1).f0))).setCell ⟨gb344, 1, none⟩ (.int .i64 ((rd_T32 s0_1 x7_1).f1))).setCell ⟨gb344, 2, none⟩ (.int .i64 ((rd_T32 s0_1 x7_1).f2))).setCell ⟨gb344, 3, none⟩ (.int .i64 ((rd_T32 s0_1 x7_1).f3))) w.heap.size (fun k_ => some k_ ≠ (v336 : Value).ownBlock) u6 x6_1) := ⟨by (with_reducible repeat (first | apply Kd.R_alloc | apply Kd.R_drewN | apply Kd.R_drew)); exact Kd.R_mono (Kd.R_far (p := ⟨gb344, 3, none⟩) (Kd.R_far (p := ⟨gb344, 2, none⟩) (Kd.R_far (p := ⟨gb344, 1, none⟩) (Kd.R_far (p := ⟨gb344, 0, none⟩) (Kd.R_types HO_6.out BK344.out (by decide)) (fun _ hk => hk.2) (.int .i64 ((rd_T32 s0_1 x7_1).f0))) (fun _ hk => hk.2) (.int .i64 ((rd_T32 s0_1 x7_1).f1))) (fun _ hk => hk.2) (.int .i64 ((rd_T32 s0_1 x7_1).f2))) (fun _ hk => hk.2) (.int .i64 ((rd_T32 s0_1 x7_1).f3))) (fun _ hk => hk.1)⟩
          have n2_ : Aside0 (((((w14.setCell ⟨gb344, 0, none⟩ (.int .i64 ((rd_T32 s0_1 x7_1).f0))).setCell ⟨gb344, 1, none⟩ (.int .i64 ((rd_T32 s0_1 x7_1).f1))).setCell ⟨gb344, 2, none⟩ (.int .i64 ((rd_T32 s0_1 x7_1).f2))).setCell ⟨gb344, 3, none⟩ (.int .i64 ((rd_T32 s0_1 x7_1).f3))).heap[gb344]? = some (.cells #[.int .i64 ((rd_T32 s0_1 x7_1).f0), .int .i64 ((rd_T32 s0_1 x7_1).f1), .int .i64 ((rd_T32 s0_1 x7_1).f2), .int .i64 ((rd_T32 s0_1 x7_1).f3)] 32 (0, 0))) := ⟨by (with_reducible repeat (first | refine blk_drewN ?_ _ | refine blk_drew ?_ | refine blk_alloc ?_ _)); refine blk_put (cs := #[.int .i64 ((rd_T32 s0_1 x7_1).f0), .int .i64 ((rd_T32 s0_1 x7_1).f1), .int .i64 ((rd_T32 s0_1 x7_1).f2), .int .i64 0]) ?_ 3 _ rfl; (with_reducible repeat (first | refine blk_drewN ?_ _ | refine blk_drew ?_ | refine blk_alloc ?_ _)); refine blk_put (cs := #[.int .i64 ((rd_T32 s0_1 x7_1).f0), .int .i64 ((rd_T32 s0_1 x7_1).f1), .int .i64 0, .int .i64 0]) ?_ 2 _ rfl; (with_reducible repeat (first | refine blk_drewN ?_ _ | refine blk_drew ?_ | refine blk_alloc ?_ _)); refine blk_put (cs := #[.int .i64 ((rd_T32 s0_1 x7_1).f0), .int .i64 0, .int .i64 0, .int .i64 0]) ?_ 1 _ rfl; (with_reducible repeat (first | refine blk_drewN ?_ _ | refine blk_drew ?_ | refine blk_alloc ?_ _)); refine blk_put (cs := #[.int .i64 0, .int .i64 0, .int .i64 0, .int .i64 0]) ?_ 0 _ rfl; (with_reducible repeat (first | refine blk_drewN ?_ _ | refine blk_drew ?_ | refine blk_alloc ?_ _)); exact BK344.out⟩
          have n3_ : Aside0 (IsS26 w0 ((((w14.setCell ⟨gb344, 0, none⟩ (.int .i64 ((rd_T32 s0_1 x7_1).f0))).setCell ⟨gb344, 1, none⟩ (.int .i64 ((rd_T32 s0_1 x7_1).f1))).setCell ⟨gb344, 2, none⟩ (.int .i64 ((rd_T32 s0_1 x7_1).f2))).setCell ⟨gb344, 3, none⟩ (.int .i64 ((rd_T32 s0_1 x7_1).f3))) g t339 s0_1) := ⟨by repeat (first | (with_reducible first | exact HI0.out | apply IsS26.alloc | apply IsS26.drewN | apply IsS26.drew | apply IsS26.set_0 | refine IsS26.far ?_ NB0_344.out _) | exact HI0.out)⟩
          have n4_ : Aside0 (KeepBut w ((((w14.setCell ⟨gb344, 0, none⟩ (.int .i64 ((rd_T32 s0_1 x7_1).f0))).setCell ⟨gb344, 1, none⟩ (.int .i64 ((rd_T32 s0_1 x7_1).f1))).setCell ⟨gb344, 2, none⟩ (.int .i64 ((rd_T32 s0_1 x7_1).f2))).setCell ⟨gb344, 3, none⟩ (.int .i64 ((rd_T32 s0_1 x7_1).f3))) g none) := ⟨by repeat (first | (with_reducible first | exact HK.out | apply KeepBut.set_ | apply keep_drewN | apply keep_drew | apply keep_alloc | refine keep_far ?_ GW344.out _) | exact HK.out)⟩
          have n5_ : Aside0 (Below w0.heap.size w0 ((((w14.setCell ⟨gb344, 0, none⟩ (.int .i64 ((rd_T32 s0_1 x7_1).f0))).setCell ⟨gb344, 1, none⟩ (.int .i64 ((rd_T32 s0_1 x7_1).f1))).setCell ⟨gb344, 2, none⟩ (.int .i64 ((rd_T32 s0_1 x7_1).f2))).setCell ⟨gb344, 3, none⟩ (.int .i64 ((rd_T32 s0_1 x7_1).f3)))) := ⟨by repeat (first | (with_reducible first | exact HB.out | apply below_alloc | apply pw_below_drewN | apply below_drew1 | refine below_set ?_ (IsS26.ge HI0.out) | refine below_set ?_ GE344.out) | exact HB.out)⟩
          (try clear HO_4)
          (try clear HO_6)
          (try clear BK344)
          (try clear HI0)
          (try clear HK)
          (try clear HB)
          generalize ((((w14.setCell ⟨gb344, 0, none⟩ (.int .i64 ((rd_T32 s0_1 x7_1).f0))).setCell ⟨gb344, 1, none⟩ (.int .i64 ((rd_T32 s0_1 x7_1).f1))).setCell ⟨gb344, 2, none⟩ (.int .i64 ((rd_T32 s0_1 x7_1).f2))).setCell ⟨gb344, 3, none⟩ (.int .i64 ((rd_T32 s0_1 x7_1).f3))) = w17 at n0_ n1_ n2_ n3_ n4_ n5_ ⊢
          have HO_4 := n0_
          have HO_6 := n1_
          have BK344 := n2_
          have HI0 := n3_
          have HK := n4_
          have HB := n5_
          clear n0_ n1_ n2_ n3_ n4_ n5_
          have n0_ := Aside0.mk (Kd.R_drew HO_4.out)
          have n1_ := Aside0.mk (Kd.R_drew HO_6.out)
          have n2_ := Aside0.mk (blk_drew BK344.out)
          have n3_ := Aside0.mk (IsS26.drew HI0.out)
          have n4_ := Aside0.mk (keep_drew HK.out)
          have n5_ := Aside0.mk (below_drew1 HB.out)
          clear HO_4
          clear HO_6
          clear BK344
          clear HI0
          clear HK
          clear HB
          have HO_4 := n0_
          have HO_6 := n1_
          have BK344 := n2_
          have HI0 := n3_
          have HK := n4_
          have HB := n5_
          clear n0_ n1_ n2_ n3_ n4_ n5_
          obtain ⟨Ao19, co19, eo19⟩ := Kd.R_slice HO_4.out
          (first | subst eo19 | (injection eo19 with f1_ f2_ f3_; have f4_ := f1_.symm; have f5_ := f3_.symm; clear f1_ f2_ f3_; subst f4_; subst f5_))
          have p345 : 0 ≤ (((rd_T32 s0_1 x7_1).f1) : Int) := of_decide_eq_true (by first | (with_reducible assumption) | assumption)
          have q345 : ((rd_T32 s0_1 x7_1).f1) < (t335.length : Int) := of_decide_eq_true (by first | (with_reducible assumption) | assumption)
          obtain ⟨ad345, e345, hx345_0⟩ := Kd.at_int (Kd.R_reads' HO_4.out).2.2 ((rd_T32 s0_1 x7_1).f1) p345 q345
          cases e345
          replace p345 := eq_true p345
          replace q345 := eq_true q345
          have p346 : 0 ≤ (((rd_T32 s0_1 x7_1).f0) : Int) := of_decide_eq_true (by first | (with_reducible assumption) | assumption)
          have q346 : ((rd_T32 s0_1 x7_1).f0) < (t335.length : Int) := of_decide_eq_true (by first | (with_reducible assumption) | assumption)
          obtain ⟨ad346, e346, hx346_0⟩ := Kd.at_int (Kd.R_reads' HO_4.out).2.2 ((rd_T32 s0_1 x7_1).f0) p346 q346
          obtain rfl : ad345 = ad346 := (by injection e346)
          replace p346 := eq_true p346
          replace q346 := eq_true q346
          refine start_ (n:=20) (S := fun w' => w'.cell? ⟨gb344, 0, none⟩ = some (.int .i64 ((rd_T32 s0_1 x7_1).f0)) ∧ w'.cell? ⟨gb344, 1, none⟩ = some (.int .i64 ((rd_T32 s0_1 x7_1).f1)) ∧ w'.cell? ⟨gb344, 2, none⟩ = some (.int .i64 ((rd_T32 s0_1 x7_1).f2)) ∧ w'.cell? ⟨gb344, 3, none⟩ = some (.int .i64 ((rd_T32 s0_1 x7_1).f3)) ∧ w'.cell? (ad345.add (((rd_T32 s0_1 x7_1).f1)).toNat) = some (.int .i64 (rd t335 ((rd_T32 s0_1 x7_1).f1))) ∧ w'.cell? (ad345.add (((rd_T32 s0_1 x7_1).f0)).toNat) = some (.int .i64 (rd t335 ((rd_T32 s0_1 x7_1).f0)))) (ds:=[17, 18]) #[false,false,false,false,false,false,false,false,false,false,false,false,false,false,false,false,false,false,false,false] (by kernel_rfl) rfl rfl ⟨(blk_cell BK344.out 0).trans rfl, (blk_cell BK344.out 1).trans rfl, (blk_cell BK344.out 2).trans rfl, (blk_cell BK344.out 3).trans rfl, hx345_0, hx346_0⟩ (fun hHeld => ?_); refine with_tabW spec_l10Residuals.tab7 spec_l10Residuals.bits7 (fun HT_ HW_ => ?_)
          generalize w17.drew = w18 at HO_4 HO_6 BK344 HI0 HK HB hx345_0 hx346_0 hHeld ⊢
          refine pure_ (i:=0) (N:=some 31) (v:=?_) (a':=?_) #[true,false,false,false,false,false,false,false,false,false,false,false,false,false,false,false,false,false,false,false] rfl rfl (any_of HT_.out (by kernel_rfl)) (fun _ _ _ h => h) (Or.inl ⟨by rfl, ?_⟩) ?_ ?_
          rotate_left
          ·intro w'
           go_simp
           with_reducible rfl
          rotate_left
          ·simp only [Act.put, List.setIfInBounds_toArray, List.set_cons_zero, List.set_cons_succ, i64_w, i32_w]
           rfl
          refine pure_ (i:=1) (N:=some 32) (v:=?_) (a':=?_) #[true,true,false,false,false,false,false,false,false,false,false,false,false,false,false,false,false,false,false,false] rfl rfl (any_of HT_.out (by kernel_rfl)) (fun _ _ _ h => h) (Or.inl ⟨by rfl, ?_⟩) ?_ ?_
          rotate_left
          ·intro w'
           go_simp
           with_reducible rfl
          rotate_left
          ·simp only [Act.put, List.setIfInBounds_toArray, List.set_cons_zero, List.set_cons_succ, i64_w, i32_w]
           rfl
          refine pure_ (i:=3) (N:=some 34) (v:=?_) (a':=?_) #[true,true,false,true,false,false,false,false,false,false,false,false,false,false,false,false,false,false,false,false] rfl rfl (any_of HT_.out (by kernel_rfl)) (fun _ _ _ h => h) (Or.inl ⟨by rfl, ?_⟩) ?_ ?_
          rotate_left
          ·intro w'
           go_simp
           with_reducible rfl
          rotate_left
          ·simp only [Act.put, List.setIfInBounds_toArray, List.set_cons_zero, List.set_cons_succ, i64_w, i32_w]
           rfl
          refine pure_ (i:=5) (N:=some 36) (v:=?_) (a':=?_) #[true,true,false,true,false,true,false,false,false,false,false,false,false,false,false,false,false,false,false,false] rfl rfl (any_of HT_.out (by kernel_rfl)) (fun _ _ _ h => h) (Or.inl ⟨by rfl, ?_⟩) ?_ ?_
          rotate_left
          ·intro w'
           go_simp
           with_reducible rfl
          rotate_left
          ·simp only [Act.put, List.setIfInBounds_toArray, List.set_cons_zero, List.set_cons_succ, i64_w, i32_w]
           rfl
          refine pure_ (i:=6) (N:=some 37) (v:=?_) (a':=?_) #[true,true,false,true,false,true,true,false,false,false,false,false,false,false,false,false,false,false,false,false] rfl rfl (any_of HT_.out (by kernel_rfl)) (fun _ _ _ h => h) (Or.inl ⟨by rfl, ?_⟩) ?_ ?_
          rotate_left
          ·intro w'
           go_simp
           with_reducible rfl
          rotate_left
          ·simp only [Act.put, List.setIfInBounds_toArray, List.set_cons_zero, List.set_cons_succ, i64_w, i32_w]
           rfl
          refine pure_ (i:=11) (N:=some 42) (v:=?_) (a':=?_) #[true,true,false,true,false,true,true,false,false,false,false,true,false,false,false,false,false,false,false,false] rfl rfl (any_of HT_.out (by kernel_rfl)) (fun _ _ _ h => h) (Or.inl ⟨by rfl, ?_⟩) ?_ ?_
          rotate_left
          ·intro w'
           go_simp
           with_reducible rfl
          rotate_left
          ·simp only [Act.put, List.setIfInBounds_toArray, List.set_cons_zero, List.set_cons_succ, i64_w, i32_w]
           rfl
          refine pure_ (i:=12) (N:=some 43) (v:=?_) (a':=?_) #[true,true,false,true,false,true,true,false,false,false,false,true,true,false,false,false,false,false,false,false] rfl rfl (any_of HT_.out (by kernel_rfl)) (fun _ _ _ h => h) (Or.inl ⟨by rfl, ?_⟩) ?_ ?_
          rotate_left
          ·intro w'
           go_simp
           with_reducible rfl
          rotate_left
          ·simp only [Act.put, List.setIfInBounds_toArray, List.set_cons_zero, List.set_cons_succ, i64_w, i32_w]
           rfl
          refine take_ (i:=2) (N:=some 33) (v:=?_) (a':=?_) #[true,true,true,true,false,true,true,false,false,false,false,true,true,false,false,false,false,false,false,false] rfl rfl (take_ofW HT_.out HW_.out (by kernel_rfl)) (fun _ _ _ h => h) (Or.inl ⟨by rfl, ?_⟩) hHeld ?_ ?_
          rotate_left
          ·rintro w' ⟨s0, s1, s2, s3, s4, s5⟩
           go_simp
           with_reducible rfl
          rotate_left
          ·simp only [Act.put, List.setIfInBounds_toArray, List.set_cons_zero, List.set_cons_succ, i64_w, i32_w]
           rfl
          refine pure_ (i:=4) (N:=some 35) (v:=?_) (a':=?_) #[true,true,true,true,true,true,true,false,false,false,false,true,true,false,false,false,false,false,false,false] rfl rfl (any_of HT_.out (by kernel_rfl)) (fun _ _ _ h => h) (Or.inl ⟨by rfl, ?_⟩) ?_ ?_
          rotate_left
          ·intro w'
           go_simp
           with_reducible rfl
          rotate_left
          ·simp only [Act.put, List.setIfInBounds_toArray, List.set_cons_zero, List.set_cons_succ, i64_w, i32_w]
           rfl
          refine take_ (i:=7) (N:=some 38) (v:=?_) (a':=?_) #[true,true,true,true,true,true,true,true,false,false,false,true,true,false,false,false,false,false,false,false] rfl rfl (take_ofW HT_.out HW_.out (by kernel_rfl)) (fun _ _ _ h => h) (Or.inl ⟨by rfl, ?_⟩) hHeld ?_ ?_
          rotate_left
          ·rintro w' ⟨s0, s1, s2, s3, s4, s5⟩
           go_simp
           with_reducible rfl
          rotate_left
          ·simp only [Act.put, List.setIfInBounds_toArray, List.set_cons_zero, List.set_cons_succ, i64_w, i32_w]
           rfl
          refine pure_ (i:=8) (N:=some 39) (v:=?_) (a':=?_) #[true,true,true,true,true,true,true,true,true,false,false,true,true,false,false,false,false,false,false,false] rfl rfl (any_of HT_.out (by kernel_rfl)) (fun _ _ _ h => h) (Or.inl ⟨by rfl, ?_⟩) ?_ ?_
          rotate_left
          ·intro w'
           go_simp
           with_reducible rfl
          rotate_left
          ·simp only [Act.put, List.setIfInBounds_toArray, List.set_cons_zero, List.set_cons_succ, i64_w, i32_w]
           rfl
          refine take_ (i:=9) (N:=some 40) (v:=?_) (a':=?_) #[true,true,true,true,true,true,true,true,true,true,false,true,true,false,false,false,false,false,false,false] rfl rfl (take_ofW HT_.out HW_.out (by kernel_rfl)) (fun _ _ _ h => h) (Or.inl ⟨by rfl, ?_⟩) hHeld ?_ ?_
          rotate_left
          ·rintro w' ⟨s0, s1, s2, s3, s4, s5⟩
           go_simp
           with_reducible rfl
          rotate_left
          ·simp only [Act.put, List.setIfInBounds_toArray, List.set_cons_zero, List.set_cons_succ, i64_w, i32_w]
           rfl
          refine pure_ (i:=10) (N:=some 41) (v:=?_) (a':=?_) #[true,true,true,true,true,true,true,true,true,true,true,true,true,false,false,false,false,false,false,false] rfl rfl (any_of HT_.out (by kernel_rfl)) (fun _ _ _ h => h) (Or.inl ⟨by rfl, ?_⟩) ?_ ?_
          rotate_left
          ·intro w'
           go_simp
           with_reducible rfl
          rotate_left
          ·simp only [Act.put, List.setIfInBounds_toArray, List.set_cons_zero, List.set_cons_succ, i64_w, i32_w]
           rfl
          refine take_ (i:=13) (N:=some 44) (v:=?_) (a':=?_) #[true,true,true,true,true,true,true,true,true,true,true,true,true,true,false,false,false,false,false,false] rfl rfl (take_ofW HT_.out HW_.out (by kernel_rfl)) (fun _ _ _ h => h) (Or.inl ⟨by rfl, ?_⟩) hHeld ?_ ?_
          rotate_left
          ·rintro w' ⟨s0, s1, s2, s3, s4, s5⟩
           go_simp
           with_reducible rfl
          rotate_left
          ·simp only [Act.put, List.setIfInBounds_toArray, List.set_cons_zero, List.set_cons_succ, i64_w, i32_w]
           rfl
          refine pure_ (i:=14) (N:=some 45) (v:=?_) (a':=?_) #[true,true,true,true,true,true,true,true,true,true,true,true,true,true,true,false,false,false,false,false] rfl rfl (any_of HT_.out (by kernel_rfl)) (fun _ _ _ h => h) (Or.inl ⟨by rfl, ?_⟩) ?_ ?_
          rotate_left
          ·intro w'
           go_simp
           with_reducible rfl
          rotate_left
          ·simp only [Act.put, List.setIfInBounds_toArray, List.set_cons_zero, List.set_cons_succ, i64_w, i32_w]
           rfl
          refine take_ (i:=15) (N:=some 46) (v:=?_) (a':=?_) #[true,true,true,true,true,true,true,true,true,true,true,true,true,true,true,true,false,false,false,false] rfl rfl (take_ofW HT_.out HW_.out (by kernel_rfl)) (fun _ _ _ h => h) (Or.inl ⟨by rfl, ?_⟩) hHeld ?_ ?_
          rotate_left
          ·rintro w' ⟨s0, s1, s2, s3, s4, s5⟩
           go_simp
           with_reducible rfl
          rotate_left
          ·simp only [Act.put, List.setIfInBounds_toArray, List.set_cons_zero, List.set_cons_succ, i64_w, i32_w]
           rfl
          refine pure_ (i:=16) (N:=some 47) (v:=?_) (a':=?_) #[true,true,true,true,true,true,true,true,true,true,true,true,true,true,true,true,true,false,false,false] rfl rfl (any_of HT_.out (by kernel_rfl)) (fun _ _ _ h => h) (Or.inl ⟨by rfl, ?_⟩) ?_ ?_
          rotate_left
          ·intro w'
           go_simp
           with_reducible rfl
          rotate_left
          ·simp only [Act.put, List.setIfInBounds_toArray, List.set_cons_zero, List.set_cons_succ, i64_w, i32_w]
           rfl
          refine last_ (i:=17) (N:=some 48) #[true,true,true,true,true,true,true,true,true,true,true,true,true,true,true,true,true,true,false,false] rfl rfl (one_of HT_.out (by kernel_rfl)) (by decide) (fun K hK => ?_)
          refine value_ (w1 := ?_) (v := ?_) (by rfl) rfl ?_ ?_
          rotate_left 2
          ·go_simp
           constructor
           ·rfl
           ·rfl
          refine hK.out _ _ ?_
          clear hK K
          refine norm_ (a':=?_) ?_ ?_
          rotate_left
          ·show Act.put _ (some 48) _ = _
           simp only [Act.put, List.setIfInBounds_toArray, List.set_cons_zero, List.set_cons_succ, i64_w, i32_w]
           rfl
          refine last_ (i:=18) (N:=some 49) #[true,true,true,true,true,true,true,true,true,true,true,true,true,true,true,true,true,true,true,false] rfl rfl (one_of HT_.out (by kernel_rfl)) (by decide) (fun K hK => ?_)
          refine Kd.R_append_step (Kd.int .i64) w.heap.size (by rfl) (.tmp 31) (.tmp 48) 28 2 (.int .i64 0) 8 rfl Try.underlying28 info2 rfl (by decide) (by omega) u6 x6_1 (wrap64 ((wrap64 ((wrap64 (((rd_T32 s0_1 x7_1).f2) * t338)) - (rd t335 ((rd_T32 s0_1 x7_1).f1)))) + (rd t335 ((rd_T32 s0_1 x7_1).f0)))) [.int .i64 (wrap64 ((wrap64 ((wrap64 (((rd_T32 s0_1 x7_1).f2) * t338)) - (rd t335 ((rd_T32 s0_1 x7_1).f1)))) + (rd t335 ((rd_T32 s0_1 x7_1).f0))))] (fun k_ => some k_ ≠ (.slice (some ad345) t335.length co19 : Value).ownBlock) (fun _ => False) rfl rfl ?aP (fun _ hk => hk.elim) ?aF ?aO (Below.refl _ _) ?aS ?aL ?_
          (case aP => exact rfl)
          (case aF => exact (fun k_ hk => Kd.fresh' (Kd.R_lt (by (with_reducible repeat (first | apply Kd.R_alloc | apply Kd.R_drewN | apply Kd.R_drew)); exact HO_4.out)) k_ hk))
          (case aO => exact (by (with_reducible repeat (first | apply Kd.R_alloc | apply Kd.R_drewN | apply Kd.R_drew)); exact HO_6.out))
          (case aS => exact (keep_size (w := w) (g := g) (row := none) (by repeat (first | (with_reducible first | exact HK.out | apply KeepBut.set_ | apply keep_drewN | apply keep_drew | apply keep_alloc | refine keep_far ?_ GW344.out _) | exact HK.out))))
          (case aL => have := LMc12.out; omega)
          intro v348 w20 ho hb hg hat
          rw [← Ny347.out] at ho
          have n0_ := Aside0.mk (Kd.R_after (ok := (fun _ => True)) (by (with_reducible repeat (first | apply Kd.R_alloc | apply Kd.R_drewN | apply Kd.R_drew)); exact Kd.R_mono HO_4.out (fun _ hk => ⟨trivial, hk⟩)) hg hat)
          have n1_ := Aside0.mk (IsS26.grown (by repeat (first | (with_reducible first | exact HI0.out | apply IsS26.alloc | apply IsS26.drewN | apply IsS26.drew | apply IsS26.set_0 | refine IsS26.far ?_ NB0_344.out _) | exact HI0.out)) hg (IsS26.own_ne HI0.out HO_6.out (by decide)))
          have n2_ := Aside0.mk (blk_grown (g := gb344) (o := .cells #[.int .i64 ((rd_T32 s0_1 x7_1).f0), .int .i64 ((rd_T32 s0_1 x7_1).f1), .int .i64 ((rd_T32 s0_1 x7_1).f2), .int .i64 ((rd_T32 s0_1 x7_1).f3)] 32 (0, 0)) (by (with_reducible repeat (first | refine blk_drewN ?_ _ | refine blk_drew ?_ | refine blk_alloc ?_ _)); exact BK344.out) hg (Kd.R_ne HO_6.out BK344.out (by decide)))
          have n3_ := Aside0.mk (below_weaken (by repeat (first | (with_reducible first | exact HB.out | apply below_alloc | apply pw_below_drewN | apply below_drew1 | refine below_set ?_ (IsS26.ge HI0.out) | refine below_set ?_ GE344.out) | exact HB.out)) HL.out hb)
          have n4_ := Aside0.mk (KeepBut.trans (by repeat (first | (with_reducible first | exact HK.out | apply KeepBut.set_ | apply keep_drewN | apply keep_drew | apply keep_alloc | refine keep_far ?_ GW344.out _) | exact HK.out)) (KeepBut.of_grown hg g) (Kd.R_base2 HO_6.out))
          have n5_ := Aside0.mk (ho)
          clear HO_4
          clear HI0
          clear BK344
          clear HB
          clear HK
          clear HO_6
          have HO_4 := n0_
          have HI0 := n1_
          have BK344 := n2_
          have HB := n3_
          have HK := n4_
          have HO349 := n5_
          clear n0_ n1_ n2_ n3_ n4_ n5_
          clear ho hb hg hat
          refine hK.out _ _ ?_
          clear hK K
          refine norm_ (a':=?_) ?_ ?_
          rotate_left
          ·show Act.put _ (some 49) _ = _
           simp only [Act.put, List.setIfInBounds_toArray, List.set_cons_zero, List.set_cons_succ, i64_w, i32_w]
           rfl
          refine pure_ (i:=19) (N:=some 6) (v:=?_) (a':=?_) #[true,true,true,true,true,true,true,true,true,true,true,true,true,true,true,true,true,true,true,true] rfl rfl (any_of HT_.out (by kernel_rfl)) (fun _ _ _ h => h) (Or.inl ⟨by rfl, ?_⟩) ?_ ?_
          rotate_left
          ·intro w'
           go_simp
           with_reducible rfl
          rotate_left
          ·simp only [Act.put, List.setIfInBounds_toArray, List.set_cons_zero, List.set_cons_succ, i64_w, i32_w]
           rfl
          refine done_ (done_of HT_.out (by kernel_rfl)) ?_
          try go_wp2
          go_roundg k1
          case measure => have := HK1.out; omega
          case rel => exact ⟨(y347), (wrap64 (x7_1 + 1)), (by first | rfl | (simp; done) | (simp [*]; done)), H', ⟨by have := HK1.out; omega⟩, ⟨by (with_reducible repeat (first | apply Kd.R_alloc | apply Kd.R_drewN | apply Kd.R_drew)); exact Kd.R_mono HO_4.out (fun _ hk => hk.2)⟩, ⟨by (with_reducible repeat (first | apply Kd.R_alloc | apply Kd.R_drewN | apply Kd.R_drew)); exact HO349.out⟩, ⟨by repeat (first | (with_reducible first | exact HI0.out | apply IsS26.alloc | apply IsS26.drewN | apply IsS26.drew | apply IsS26.set_0 | refine IsS26.far ?_ NB0_344.out _) | exact HI0.out)⟩, ⟨by repeat (first | (with_reducible first | exact HK.out | apply KeepBut.set_ | apply keep_drewN | apply keep_drew | apply keep_alloc | refine keep_far ?_ GW344.out _) | exact HK.out)⟩, ⟨by repeat (first | (with_reducible first | exact HB.out | apply below_alloc | apply pw_below_drewN | apply below_drew1 | refine below_set ?_ (IsS26.ge HI0.out) | refine below_set ?_ GE344.out) | exact HB.out)⟩⟩
         ·rw [if_neg c12] at H
          exact absurd H (by simp)
        ·rw [if_neg c11] at H
         exact absurd H (by simp)
       ·rw [if_neg c10] at H
        exact absurd H (by simp)
      ·rw [if_neg c9] at H
       exact absurd H (by simp)
     ·rw [if_neg c8] at H
      exact absurd H (by simp)
    ·rw [if_neg c7] at H
     exact absurd H (by simp)
   ·rw [if_neg c6] at H
    have c6b0 : decide (x7_1 < (s0_1.length : Int)) = false := decide_eq_false c6
    clear c6
    replace H := Option.bind_eq_some_iff.mp H
    obtain ⟨⟨t350, t351⟩, A210, H⟩ := H
    replace H : (some (t350, t351, t339)) = some (r1, r2, r3) := H
    have A21 := Aside0.mk A210
    clear A210
    simp only [Option.some.injEq, Prod.mk.injEq] at H
    obtain ⟨rfl, rfl, rfl⟩ := H
    obtain ⟨ASz22_1, cSz22_1, HGz22, hgz22, HSz22_1⟩ := HI0.out
    have hcz22_0 := cellS26_0 HGz22
    have hcz22_1 := cellS26_1 HGz22
    have hfz22_0 := blk_frozen HGz22 0
    clear HGz22 hgz22
    obtain ⟨Ao23, co23, eo23⟩ := Kd.R_slice HO_6.out
    subst eo23
    go_wp2_with (first | ((with_reducible refine gate_callee (f := 72) rfl ?_); refine goesL_ (some 52) rfl rfl Try.func72 (by kernel_rfl) rfl #[.slice Ao23 x6_1.length co23, .int .i64 t338] rfl (by (try simp only [List.map_toArray, List.map_cons, List.map_nil]); first | done | rfl | (simp only [List.length_drop, List.length_take]; rfl)) ?_; (with_reducible refine (spec_l10Lowest.calls k1 _ _ x6_1 t338 t350 t351 _ ?side1 ?side2 A21.out).mono ?_); (case side1 => repeat (first | exact (Kd.R_reads' HO_6.out).2.2 | (with_reducible refine Kd.C_alloc ?_ _) | (with_reducible refine Kd.C_drewN ?_ _) | (with_reducible refine Kd.C_drew ?_))); (case side2 => exact (Kd.R_reads' HO_6.out).2.1); rintro e w24 ⟨v352, rfl, ho0, hb⟩; refine ⟨_, rfl, ?_⟩; have n0_ := Aside0.mk (Kd.R_elder' (by (with_reducible repeat (first | apply Kd.R_alloc | apply Kd.R_drewN | apply Kd.R_drew)); exact HO_4.out) (Kd.R_base ho0) hb); have n1_ := Aside0.mk (Kd.R_elder' (by (with_reducible repeat (first | apply Kd.R_alloc | apply Kd.R_drewN | apply Kd.R_drew)); exact HO_6.out) (Kd.R_base ho0) hb); have n2_ := Aside0.mk (Kd.R_lower (Kd.R_new' (Kd.R_new' ho0 (Kd.R_lt (by (with_reducible repeat (first | apply Kd.R_alloc | apply Kd.R_drewN | apply Kd.R_drew)); exact HO_4.out))) (Kd.R_lt (by (with_reducible repeat (first | apply Kd.R_alloc | apply Kd.R_drewN | apply Kd.R_drew)); exact HO_6.out))) (keep_size (w := w) (g := g) (row := none) (by repeat (first | (with_reducible first | exact HK.out | apply KeepBut.set_ | apply keep_drewN | apply keep_drew | apply keep_alloc) | exact HK.out)))); have n3_ := Aside0.mk (IsS26.below (by repeat (first | (with_reducible first | exact HI0.out | apply IsS26.alloc | apply IsS26.drewN | apply IsS26.drew | apply IsS26.set_0) | exact HI0.out)) hb); have n4_ := Aside0.mk (KeepBut.trans (by repeat (first | (with_reducible first | exact HK.out | apply KeepBut.set_ | apply keep_drewN | apply keep_drew | apply keep_alloc) | exact HK.out)) (KeepBut.of_below hb g none) (.inl rfl)); have n5_ := Aside0.mk (below_step (by repeat (first | (with_reducible first | exact HB.out | apply below_alloc | apply pw_below_drewN | apply below_drew1 | refine below_set ?_ (IsS26.ge HI0.out)) | exact HB.out)) hb); clear HO_4; clear HO_6; clear HI0; clear HK; clear HB; have HO_4 := n0_; have HO_6 := n1_; have HO353 := n2_; have HI0 := n3_; have HK := n4_; have HB := n5_; clear n0_ n1_ n2_ n3_ n4_ n5_; (try clear hb); (try clear hb2); (try clear hk); (try clear hi); (try clear ho0)))
    go_ret2
    exact ⟨_, by first | rfl | (simp [errW_none, errW_some] <;> rfl) | (simp [*, errW_none, errW_some] <;> rfl), by (with_reducible repeat (first | apply Kd.R_alloc | apply Kd.R_drewN | apply Kd.R_drew)); exact Kd.R_mono HO353.out (fun _ hk => trivial), by repeat (first | (with_reducible first | exact HI0.out | apply IsS26.alloc | apply IsS26.drewN | apply IsS26.drew | apply IsS26.set_0) | exact HI0.out), by repeat (first | (with_reducible first | exact HB.out | apply below_alloc | apply pw_below_drewN | apply below_drew1 | refine below_set ?_ (IsS26.ge HI0.out)) | exact HB.out), by repeat (first | (with_reducible first | exact HK.out | apply KeepBut.set_ | apply keep_drewN | apply keep_drew | apply keep_alloc) | exact HK.out)⟩
end Go.Proofs.Ytkafbmanmffliaa.Q

namespace Go.Proofs.Ytkafbmanmffliaa.Q
open Go.RowKit YtkafbmanmffliaaW.PrintWords YtkafbmanmffliaaW.PrintLast YtkafbmanmffliaaW.PrintMore
attribute [local go_sem] max2_int min2_int max_two min_two max_three min_three max_four min_four
def spec_ResidualsOf.f (k : Nat) (a0_0 : Int) (l0_1 : List (S32)) : Option (Int × List Int × Bool) := (spec_l10Whole.f a0_0 l0_1).bind fun bt355 => (if bt355.1 = true then ((spec_l10Residuals.f k bt355.2 l0_1).bind fun bt357 => (some (bt357.1, bt357.2.1, true))) else (some (0, ([] : List Int), false)))
theorem spec_ResidualsOf.mono : ∀ a0 a1 k, LeO (spec_ResidualsOf.f k a0 a1) (spec_ResidualsOf.f (k + 1) a0 a1) := by
 intro a0 a1 k
 unfold spec_ResidualsOf.f
 repeat' first
   | (with_reducible exact spec_l10Residuals.mono _ _ _)
   | (with_reducible exact LeO.refl _)
   | (with_reducible exact LeO.none _)
   | (with_reducible refine LeO.ite ?_ ?_)
   | (with_reducible refine LeO.bind ?_ (fun _ => ?_))
   | exact spec_l10Residuals.mono _ _ _
   | exact LeO.none _
   | refine LeO.ite ?_ ?_
   | refine LeO.bind ?_ (fun _ => ?_)
end Go.Proofs.Ytkafbmanmffliaa.Q

namespace Go.Proofs.Ytkafbmanmffliaa.Q
open Go.RowKit YtkafbmanmffliaaW.PrintWords YtkafbmanmffliaaW.PrintLast YtkafbmanmffliaaW.PrintMore
attribute [local go_sem] max2_int min2_int max_two min_two max_three min_three max_four min_four
def laws_eqInt64S.l0 : Nat → List Int → List Int → Int → Option (Bool)
 | 0, _, _, _ => none
 | k + 1, x0, x1, x5 => if x5 < (x0.length : Int) then (if 0 ≤ x5 then (if x5 < (x1.length : Int) then (if (rd x0 x5) = (rd x1 x5) then (laws_eqInt64S.l0 k x0 x1 (wrap64 (x5 + 1))) else (some false)) else (none)) else (none)) else (some true)
def laws_eqInt64S.f (k : Nat) (l0 : List Int) (l1 : List Int) : Option (Bool) := if (l0.length : Int) = (l1.length : Int) then (laws_eqInt64S.l0 k l0 l1 0) else (some false)
theorem laws_eqInt64S.mono_l : ∀ k, (∀ y0 y1 y2, LeO (laws_eqInt64S.l0 k y0 y1 y2) (laws_eqInt64S.l0 (k + 1) y0 y1 y2))
 | 0 => fun _ _ _ r h => by simp [laws_eqInt64S.l0] at h
 | k + 1 => by
  have ih0 := laws_eqInt64S.mono_l k
  ·intro y0 y1 y2
   unfold laws_eqInt64S.l0
   repeat' first
   | (with_reducible exact ih0 _ _ _)
   | (with_reducible exact LeO.refl _)
   | (with_reducible exact LeO.none _)
   | (with_reducible refine LeO.ite ?_ ?_)
   | (with_reducible refine LeO.bind ?_ (fun _ => ?_))
   | exact ih0 _ _ _
   | exact LeO.none _
   | refine LeO.ite ?_ ?_
   | refine LeO.bind ?_ (fun _ => ?_)
theorem laws_eqInt64S.mono : ∀ a0 a1 k, LeO (laws_eqInt64S.f k a0 a1) (laws_eqInt64S.f (k + 1) a0 a1) := by
 intro a0 a1 k
 have ih0 := laws_eqInt64S.mono_l k
 unfold laws_eqInt64S.f
 repeat' first
   | (with_reducible exact ih0 _ _ _)
   | (with_reducible exact LeO.refl _)
   | (with_reducible exact LeO.none _)
   | (with_reducible refine LeO.ite ?_ ?_)
   | (with_reducible refine LeO.bind ?_ (fun _ => ?_))
   | exact ih0 _ _ _
   | exact LeO.none _
   | refine LeO.ite ?_ ?_
   | refine LeO.bind ?_ (fun _ => ?_)
end Go.Proofs.Ytkafbmanmffliaa.Q

namespace Go.Proofs.Ytkafbmanmffliaa.Q
open Go.RowKit YtkafbmanmffliaaW.PrintWords YtkafbmanmffliaaW.PrintLast YtkafbmanmffliaaW.PrintMore
attribute [local go_sem] max2_int min2_int max_two min_two max_three min_three max_four min_four
def laws_markSightS.l0 : Nat → List (S32) → Int → Int → Option (Int × (List (S32)))
 | 0, _, _, _ => none
 | k + 1, x0, x1, x5 => if x5 < (x0.length : Int) then (if 0 ≤ x5 then ((some (x0.set (x5 : Int).toNat (⟨x1, (rd_T32 x0 x5).f1, (rd_T32 x0 x5).f2, (rd_T32 x0 x5).f3⟩ : S32) : List (S32))).bind fun y546 => ((some (y546.set (x5 : Int).toNat (⟨(rd_T32 y546 x5).f0, wrap64 (x1 + 1), (rd_T32 y546 x5).f2, (rd_T32 y546 x5).f3⟩ : S32) : List (S32))).bind fun y547 => ((some (y547.set (x5 : Int).toNat (⟨(rd_T32 y547 x5).f0, (rd_T32 y547 x5).f1, wrap64 ((wrap64 (x1 + 1)) + 1), (rd_T32 y547 x5).f3⟩ : S32) : List (S32))).bind fun y548 => (laws_markSightS.l0 k (y548.set (x5 : Int).toNat (⟨(rd_T32 y548 x5).f0, (rd_T32 y548 x5).f1, (rd_T32 y548 x5).f2, wrap64 ((wrap64 ((wrap64 (x1 + 1)) + 1)) + 1)⟩ : S32)) (wrap64 ((wrap64 ((wrap64 ((wrap64 (x1 + 1)) + 1)) + 1)) + 1)) (wrap64 (x5 + 1)))))) else (none)) else (some (x1, x0))
def laws_markSightS.f (k : Nat) (l0 : List (S32)) (a1 : Int) : Option (Int × (List (S32))) := laws_markSightS.l0 k l0 a1 0
theorem laws_markSightS.mono_l : ∀ k, (∀ y0 y1 y2, LeO (laws_markSightS.l0 k y0 y1 y2) (laws_markSightS.l0 (k + 1) y0 y1 y2))
 | 0 => fun _ _ _ r h => by simp [laws_markSightS.l0] at h
 | k + 1 => by
  have ih0 := laws_markSightS.mono_l k
  ·intro y0 y1 y2
   unfold laws_markSightS.l0
   repeat' first
   | (with_reducible exact ih0 _ _ _)
   | (with_reducible exact LeO.refl _)
   | (with_reducible exact LeO.none _)
   | (with_reducible refine LeO.ite ?_ ?_)
   | (with_reducible refine LeO.bind ?_ (fun _ => ?_))
   | exact ih0 _ _ _
   | exact LeO.none _
   | refine LeO.ite ?_ ?_
   | refine LeO.bind ?_ (fun _ => ?_)
theorem laws_markSightS.mono : ∀ a0 a1 k, LeO (laws_markSightS.f k a0 a1) (laws_markSightS.f (k + 1) a0 a1) := by
 intro a0 a1 k
 have ih0 := laws_markSightS.mono_l k
 unfold laws_markSightS.f
 repeat' first
   | (with_reducible exact ih0 _ _ _)
   | (with_reducible exact LeO.refl _)
   | (with_reducible exact LeO.none _)
   | (with_reducible refine LeO.ite ?_ ?_)
   | (with_reducible refine LeO.bind ?_ (fun _ => ?_))
   | exact ih0 _ _ _
   | exact LeO.none _
   | refine LeO.ite ?_ ?_
   | refine LeO.bind ?_ (fun _ => ?_)
end Go.Proofs.Ytkafbmanmffliaa.Q

namespace Go.Proofs.Ytkafbmanmffliaa.Q
open Go.RowKit YtkafbmanmffliaaW.PrintWords YtkafbmanmffliaaW.PrintLast YtkafbmanmffliaaW.PrintMore
attribute [local go_sem] max2_int min2_int max_two min_two max_three min_three max_four min_four
def laws_markSurvey.f (k : Nat) (a0_0 : Int) (l0_1 : List (S32)) (a1 : Int) : Option (Int × (List (S32))) := (laws_markSightS.f k l0_1 a1).bind fun bt551 => (some (bt551.1, bt551.2))
theorem laws_markSurvey.mono : ∀ a0 a1 a2 k, LeO (laws_markSurvey.f k a0 a1 a2) (laws_markSurvey.f (k + 1) a0 a1 a2) := by
 intro a0 a1 a2 k
 unfold laws_markSurvey.f
 repeat' first
   | (with_reducible exact laws_markSightS.mono _ _ _)
   | (with_reducible exact LeO.refl _)
   | (with_reducible exact LeO.none _)
   | (with_reducible refine LeO.ite ?_ ?_)
   | (with_reducible refine LeO.bind ?_ (fun _ => ?_))
   | exact laws_markSightS.mono _ _ _
   | exact LeO.none _
   | refine LeO.ite ?_ ?_
   | refine LeO.bind ?_ (fun _ => ?_)
end Go.Proofs.Ytkafbmanmffliaa.Q

namespace Go.Proofs.Ytkafbmanmffliaa.Q
open Go.RowKit YtkafbmanmffliaaW.PrintWords YtkafbmanmffliaaW.PrintLast YtkafbmanmffliaaW.PrintMore
attribute [local go_sem] max2_int min2_int max_two min_two max_three min_three max_four min_four
def laws_markInt64S.l0 : Nat → List Int → Int → Int → Option (Int × List Int)
 | 0, _, _, _ => none
 | k + 1, x0, x1, x5 => if x5 < (x0.length : Int) then (if 0 ≤ x5 then (laws_markInt64S.l0 k (x0.set (x5 : Int).toNat x1) (wrap64 (x1 + 1)) (wrap64 (x5 + 1))) else (none)) else (some (x1, x0))
def laws_markInt64S.f (k : Nat) (l0 : List Int) (a1 : Int) : Option (Int × List Int) := laws_markInt64S.l0 k l0 a1 0
theorem laws_markInt64S.mono_l : ∀ k, (∀ y0 y1 y2, LeO (laws_markInt64S.l0 k y0 y1 y2) (laws_markInt64S.l0 (k + 1) y0 y1 y2))
 | 0 => fun _ _ _ r h => by simp [laws_markInt64S.l0] at h
 | k + 1 => by
  have ih0 := laws_markInt64S.mono_l k
  ·intro y0 y1 y2
   unfold laws_markInt64S.l0
   repeat' first
   | (with_reducible exact ih0 _ _ _)
   | (with_reducible exact LeO.refl _)
   | (with_reducible exact LeO.none _)
   | (with_reducible refine LeO.ite ?_ ?_)
   | (with_reducible refine LeO.bind ?_ (fun _ => ?_))
   | exact ih0 _ _ _
   | exact LeO.none _
   | refine LeO.ite ?_ ?_
   | refine LeO.bind ?_ (fun _ => ?_)
theorem laws_markInt64S.mono : ∀ a0 a1 k, LeO (laws_markInt64S.f k a0 a1) (laws_markInt64S.f (k + 1) a0 a1) := by
 intro a0 a1 k
 have ih0 := laws_markInt64S.mono_l k
 unfold laws_markInt64S.f
 repeat' first
   | (with_reducible exact ih0 _ _ _)
   | (with_reducible exact LeO.refl _)
   | (with_reducible exact LeO.none _)
   | (with_reducible refine LeO.ite ?_ ?_)
   | (with_reducible refine LeO.bind ?_ (fun _ => ?_))
   | exact ih0 _ _ _
   | exact LeO.none _
   | refine LeO.ite ?_ ?_
   | refine LeO.bind ?_ (fun _ => ?_)
end Go.Proofs.Ytkafbmanmffliaa.Q

namespace Go.Proofs.Ytkafbmanmffliaa.Q
open Go.RowKit YtkafbmanmffliaaW.PrintWords YtkafbmanmffliaaW.PrintLast YtkafbmanmffliaaW.PrintMore
attribute [local go_sem] max2_int min2_int max_two min_two max_three min_three max_four min_four
def laws_heldInt64S.l0 : Nat → List Int → Int → Int → Option (Int)
 | 0, _, _, _ => none
 | k + 1, x0, x1, x5 => if x5 < (x0.length : Int) then (if 0 ≤ x5 then (if (rd x0 x5) = x1 then (laws_heldInt64S.l0 k x0 (wrap64 (x1 + 1)) (wrap64 (x5 + 1))) else (some (-1))) else (none)) else (some x1)
def laws_heldInt64S.f (k : Nat) (l0 : List Int) (a1 : Int) : Option (Int) := laws_heldInt64S.l0 k l0 a1 0
theorem laws_heldInt64S.mono_l : ∀ k, (∀ y0 y1 y2, LeO (laws_heldInt64S.l0 k y0 y1 y2) (laws_heldInt64S.l0 (k + 1) y0 y1 y2))
 | 0 => fun _ _ _ r h => by simp [laws_heldInt64S.l0] at h
 | k + 1 => by
  have ih0 := laws_heldInt64S.mono_l k
  ·intro y0 y1 y2
   unfold laws_heldInt64S.l0
   repeat' first
   | (with_reducible exact ih0 _ _ _)
   | (with_reducible exact LeO.refl _)
   | (with_reducible exact LeO.none _)
   | (with_reducible refine LeO.ite ?_ ?_)
   | (with_reducible refine LeO.bind ?_ (fun _ => ?_))
   | exact ih0 _ _ _
   | exact LeO.none _
   | refine LeO.ite ?_ ?_
   | refine LeO.bind ?_ (fun _ => ?_)
theorem laws_heldInt64S.mono : ∀ a0 a1 k, LeO (laws_heldInt64S.f k a0 a1) (laws_heldInt64S.f (k + 1) a0 a1) := by
 intro a0 a1 k
 have ih0 := laws_heldInt64S.mono_l k
 unfold laws_heldInt64S.f
 repeat' first
   | (with_reducible exact ih0 _ _ _)
   | (with_reducible exact LeO.refl _)
   | (with_reducible exact LeO.none _)
   | (with_reducible refine LeO.ite ?_ ?_)
   | (with_reducible refine LeO.bind ?_ (fun _ => ?_))
   | exact ih0 _ _ _
   | exact LeO.none _
   | refine LeO.ite ?_ ?_
   | refine LeO.bind ?_ (fun _ => ?_)
end Go.Proofs.Ytkafbmanmffliaa.Q

/- What the laws' helpers compute on lists of numbers: equality with itself, marks, and that marks are held. -/
namespace Go.Proofs.Ytkafbmanmffliaa.PuI
open Go.RowKit YtkafbmanmffliaaW.PrintWords Q
def marked (n : Nat) : List Int := (List.range n).map fun j : Nat => (j : Int) + 1
end Go.Proofs.Ytkafbmanmffliaa.PuI

/- What the reference returns: AdjustSurvey, ResidualsOf, RedundanciesOf, CofactorOf, RiseBetween. -/
namespace Go.Proofs.Ytkafbmanmffliaa.PuEx
open Go Go.RowKit YtkafbmanmffliaaW.PrintWords YtkafbmanmffliaaW.PrintLast YtkafbmanmffliaaW.PrintMore Q Bg Ra Gn Kc Ke Kf Gv Lo Lo2 Ex PuS
abbrev KB : Nat := 1099511628000
theorem whole_eq (p : Int) (l : List S32) : spec_l10Whole.f p l = some (Gm.connB p l, p) := PuT.specConn_eq p l
theorem lowest_n {n : Nat} {l : List S32} (hc : Gm.connB ((n : Int) + 1) l = true) (S : List Int) (hS : ∀ s, s ∈ S → s.natAbs < 1099511627776) (hl : S.length ≤ 8) (k : Nat) (hk : KB ≤ k) :
  spec_l10Lowest.f k S (den l n) = some (((dn n l / gcdAll (dn n l) S : Nat) : Int), lowL (dn n l) S) := by
 have h := dn_pos hc
 rw [← h.2.2]
 exact lowest_eq h.1 (by omega) hS (by omega) (by omega) k (by unfold KB at hk; omega)
theorem res_l0 {n : Nat} {l : List S32} (hc : Gm.connB ((n : Int) + 1) l = true) : ∀ (d k i : Nat), i + d = l.length → KB + d < k → ∃ z : Int, spec_l10Residuals.l0 k (nuL l (rgt n l) n) (den l n) ((l.take i).map (resN n l)) i ((n : Int) + 1) l = some (resD ((n : Int) + 1) l, resL ((n : Int) + 1) l, z) ∧ z = (n : Int) + 1 := by
 have hn := conn_n hc
 intro d
 induction d with
 | zero =>
  intro k i hi hk
  obtain ⟨k, rfl⟩ : ∃ m, k = m + 1 := ⟨k - 1, by omega⟩
  refine ⟨_, ?_, rfl⟩
  simp only [spec_l10Residuals.l0]
  rw [if_neg (by omega), List.take_of_length_le (by omega), lowest_n hc _ (fun s hs => by obtain ⟨t, ht, rfl⟩ := List.mem_map.1 hs; exact resN_size hc t ht) (by simp; omega) k (by omega)]
  simp only [Option.bind_some, resD, resL, hc, if_true, wp_eq]
 | succ d ih =>
  intro k i hi hk
  obtain ⟨k, rfl⟩ : ∃ m, k = m + 1 := ⟨k - 1, by omega⟩
  have hlt : i < l.length := by omega
  have hm : l[i] ∈ l := List.getElem_mem hlt
  have hv := mem_at (conn_v hc) _ hm
  have hr := resN_size hc _ hm
  obtain ⟨z, hz, rfl⟩ := ih k (i + 1) (by omega) (by omega)
  refine ⟨_, ?_, rfl⟩
  rw [List.take_succ_eq_append_getElem hlt, List.map_append] at hz
  have h1 := nu_size (ok_rgt hc) l[i].f1 (by omega)
  have h2 := nu_size (ok_rgt hc) l[i].f0 (by omega)
  have h3 := dn_pos hc
  have h4 := Gn.mulb (X := 100) (Y := 1073741824) (a := l[i].f2) (b := den l n) (by decide) (by decide) (by unfold Gn.Bd; omega) (by unfold Gn.Bd; omega)
  unfold Gn.Bd at h4
  simp only [spec_l10Residuals.l0, rd_mem hlt]
  rw [rd_nuL _ _ _ _ (by omega) (by omega), rd_nuL _ _ _ _ (by omega) (by omega)]
  unfold resN at hr
  obtain ⟨pr, hpr⟩ : ∃ pr, pr = l[i].f2 * den l n := ⟨_, rfl⟩
  rw [← hpr] at h4 hr ⊢
  have e : wrap64 (wrap64 (wrap64 pr - nu l (rgt n l) n l[i].f1) + nu l (rgt n l) n l[i].f0) = resN n l l[i] := by
   unfold resN
   rw [← hpr, wrap_id (x := pr) (by omega) (by omega), wrap_id (x := pr - _) (by omega) (by omega), wrap_id (by omega) (by omega)]
  rw [e, wrap_id (x := (i : Int) + 1) (by omega) (by omega)]
  have c1 : (nuL l (rgt n l) n).length = n + 1 := nuL_len _ _ _
  have c2 : ((l.take i).map (resN n l)).length = i := by simp; omega
  simp only [c1, c2]
  rw [if_pos (by omega), if_pos (by omega), if_pos (by omega), if_pos (by omega), if_pos (by omega), if_pos (by omega), if_pos (by omega)]
  exact_mod_cast hz
end Go.Proofs.Ytkafbmanmffliaa.PuEx

/- The program's isExact: whether all residuals are 0. -/
namespace Go.Proofs.Ytkafbmanmffliaa.Ix
open Go Go.RowKit YtkafbmanmffliaaW.PrintWords YtkafbmanmffliaaW.PrintLast YtkafbmanmffliaaW.PrintMore Q Bg Bi Rt Ru Ra Gd Ge Ha Gs Gn Kf Gu
theorem sign_b (q : Rat) : (q.num.sign != 0) = !decide (q = 0) := by
 rw [Bool.eq_iff_iff]
 simp only [bne_iff_ne, ne_eq, Bool.not_eq_true', decide_eq_false_iff_not, Int.sign_eq_zero_iff_zero]
 rw [Rat.num_eq_zero]
theorem lit_any (p : Nat) (q : Rat) (w : World) (h : RI w p q) :
  Calls Try.prog 122 #[.pointer (some ⟨p, 0, none⟩)] w fun e w' => e = .returned (.bool (!decide (q = 0))) ∧ w' = w := by
 have hc := rsign_any p q w h
 have HS := Lib.hid (sign_b q)
 clear h
 go_enter Try.func122, Try.ntmps122
 go_wp2_with (go_at_call 91; refine hc.mono ?_; rintro e w' ⟨rfl, rfl⟩)
 go_ret
 exact ⟨ret_bool HS.out, rfl⟩
def idxF (p : Nat → Bool) : Nat → Nat → Int
 | 0, _ => -1
 | d + 1, k => if p k then (k : Int) else idxF p d (k + 1)
theorem idxF_any (p : Nat → Bool) (d k : Nat) : decide (idxF p d k ≥ 0) = ((List.range' k d).any p) := by
 induction d generalizing k with
 | zero => rfl
 | succ d ih =>
  rw [List.range'_succ, List.any_cons, ← ih (k + 1)]
  show decide ((if p k then (k : Int) else idxF p d (k + 1)) ≥ 0) = _
  cases h : p k
  ·simp
  ·simp
set_option maxHeartbeats 4000000 in
set_option maxRecDepth 100000 in
theorem idx_any (b cap m : Nat) (us : List Value) (F : Nat → Rat) (w : World) (hC : Cb w 74 b cap us) (hF : RowF w us m F) (hm : m ≤ 1000000) :
  Calls Try.prog 143 #[.slice (some ⟨b, 0, none⟩) m cap, .func (.func 122) #[] #[]] w fun e w' => e = .returned (.int .i64 (idxF (fun k => !decide (F k = 0)) m 0)) ∧ w' = w := by
 have HF := Aside0.mk hF
 have HC := Aside0.mk hC
 clear hF hC
 go_enter Try.func143, Try.ntmps143
 go_wp2_with (fail)
 go_loop [8, 5] (fun i _ => ∃ k : Nat, k ≤ m ∧ i = .int .i64 k ∧ idxF (fun k => !decide (F k = 0)) m 0 = idxF (fun k => !decide (F k = 0)) (m - k) k) (fun i _ => m - (intOf i).toNat)
 case atStart => exact ⟨0, by omega, rfl, rfl⟩
 case round =>
  obtain ⟨k, hk, rfl, hi⟩ := hrel
  have HI := Lib.hid hi
  clear hi
  by_cases hlt : k < m
  ·have p1 : decide ((k : Int) < (m : Int)) = true := decide_eq_true (by omega)
   obtain ⟨px, c0, c1, hpx⟩ := row_at HC.out HF.out hlt
   have hc := lit_any px (F k) w hpx
   have i1 : (0 ≤ (k : Int)) = True := eq_true (by omega)
   have i2 : ((k : Int) < (m : Int)) = True := eq_true (by omega)
   have HD := Lib.hid (show idxF (fun k => !decide (F k = 0)) (m - k) k = if (!decide (F k = 0)) = true then (k : Int) else idxF (fun k => !decide (F k = 0)) (m - (k + 1)) (k + 1) by rw [show m - k = (m - (k + 1)) + 1 by omega]; rfl)
   clear hpx c1
   by_cases hz : F k = 0
   ·have d1 : (!decide (F k = 0)) = false := by simp [hz]
    rw [d1] at hc
    clear hz
    go_wp2_with (go_at_call 122; refine hc.mono ?_; rintro e w' ⟨rfl, rfl⟩)
    go_round
    case rel => exact ⟨k + 1, by omega, by go_num, by rw [HI.out, HD.out, d1]; rfl⟩
    case measure => simp [intOf]; omega
   ·have d1 : (!decide (F k = 0)) = true := by simp [hz]
    rw [d1] at hc
    clear hz
    go_wp2_with (go_at_call 122; refine hc.mono ?_; rintro e w' ⟨rfl, rfl⟩)
    go_ret
    exact ⟨ret_int (by rw [HI.out, HD.out, d1]; rfl), rfl⟩
  ·obtain rfl : m = k := by omega
   have p1 : decide ((m : Int) < (m : Int)) = false := decide_eq_false (by omega)
   go_wp2_with (fail)
   go_ret
   exact ⟨ret_int (by rw [HI.out, Nat.sub_self]; rfl), rfl⟩
theorem cont_any (b cap m : Nat) (us : List Value) (F : Nat → Rat) (w : World) (hC : Cb w 74 b cap us) (hF : RowF w us m F) (hm : m ≤ 1000000) :
  Calls Try.prog 121 #[.slice (some ⟨b, 0, none⟩) m cap, .func (.func 122) #[] #[]] w fun e w' => e = .returned (.bool ((List.range' 0 m).any (fun k => !decide (F k = 0)))) ∧ w' = w := by
 have hc := idx_any b cap m us F w hC hF hm
 have HX := Lib.hid (idxF_any (fun k => !decide (F k = 0)) m 0)
 clear hC hF
 go_enter Try.func121, Try.ntmps121
 go_wp2_with (go_at_call 143; refine hc.mono ?_; rintro e w' ⟨rfl, rfl⟩)
 go_ret
 exact ⟨ret_bool HX.out, rfl⟩
def exB (n : Nat) (l : List S32) : Bool := l.all (fun s => decide (res n l s = 0))
theorem exB_eq (n : Nat) (l : List S32) : (!(List.range' 0 l.length).any (fun k => !decide (res n l (rd_T32 l k) = 0))) = exB n l := by
 rw [Bool.eq_iff_iff]
 simp only [exB, Bool.not_eq_true', List.any_eq_false, List.all_eq_true, List.mem_range', Bool.not_eq_true', decide_eq_true_eq]
 constructor
 ·intro h s hs
  obtain ⟨k, hk, rfl⟩ := List.getElem_of_mem hs
  have := h k ⟨k, hk, by omega⟩
  have e : rd_T32 l (k : Int) = l[k] := by simp only [rd_T32, Int.toNat_natCast]; rw [List.getD_eq_getElem?_getD, List.getElem?_eq_getElem hk]; rfl
  simpa [e] using this
 ·rintro h k ⟨j, hj, rfl⟩
  have hm : rd_T32 l ((0 + 1 * j : Nat) : Int) ∈ l := by simp only [rd_T32, Int.toNat_natCast]; rw [List.getD_eq_getElem?_getD, List.getElem?_eq_getElem (by omega)]; simp
  simpa using h _ hm
theorem exact_any (n : Nat) (l : List S32) (hc : Gm.connB ((n : Int) + 1) l = true) (A : Option Addr) (c : Nat) (w : World) (hr : Kd.C k32 w A l.length l) (hcl : l.length ≤ c) :
  Calls Try.prog 88 #[.agg #[.int .i64 ((n : Int) + 1), .slice A l.length c]] w fun e w' => e = .returned (.bool (exB n l)) ∧ Below w.heap.size w w' := by
 have hu26 := Try.underlying26
 have hbx := below_alloc (Below.refl w.heap.size w) (SX ((n : Int) + 1) A l.length c)
 have hrs := residuals_any n l hc A c (w.alloc (SX ((n : Int) + 1) A l.length c)) (Kd.C_below hr hbx) hcl
 have hl8 := (conn_n hc).2.2
 have HX := Aside0.mk (exB_eq n l)
 have HB := Aside0.mk hbx
 clear hr hc hcl hbx
 go_enter Try.func88, Try.ntmps88
 go_wp2_with (fail)
 refine hrs.mono ?_
 rintro e w1 ⟨bH, capH, usH, rfl, hH⟩
 have hco := cont_any bH capH l.length usH _ w1 hH.2.1 hH.2.2.1 (by omega)
 have HB1 := Aside0.mk (below_step HB.out hH.2.2.2)
 clear hH hrs
 go_wp2_with (fail)
 refine hco.mono ?_
 rintro e w2 ⟨rfl, rfl⟩
 clear hco
 go_wp2_with (fail)
 go_ret
 exact ⟨ret_bool HX.out, HB1.out⟩
end Go.Proofs.Ytkafbmanmffliaa.Ix

/- The reference's l10Drop: a survey without a sight. -/
namespace Go.Proofs.Ytkafbmanmffliaa.Hf
open Go.RowKit YtkafbmanmffliaaW.PrintWords YtkafbmanmffliaaW.PrintLast YtkafbmanmffliaaW.PrintMore Q
def TS (B : Nat) (W : World) (v : Value) (xs : List S32) : Prop := Kd.R k32 32 W B (fun _ => True) v xs
def drp (l : List S32) (k i : Nat) : List S32 := (l.take i).eraseIdx k
theorem drp_zero (l : List S32) (k : Nat) : drp l k 0 = [] := by simp [drp]
theorem drp_all (l : List S32) (k : Nat) : drp l k l.length = l.eraseIdx k := by simp [drp]
theorem drp_hit (l : List S32) (k : Nat) : drp l k (k + 1) = drp l k k := by
 unfold drp
 rcases Nat.lt_or_ge k l.length with h | h
 ·rw [List.take_succ_eq_append_getElem h, List.eraseIdx_append_of_length_le (by simp; omega)]
  rw [List.eraseIdx_of_length_le (l := l.take k) (by simp; omega)]
  simp [Nat.min_eq_left (Nat.le_of_lt h)]
 ·rw [List.take_of_length_le h, List.take_of_length_le (by omega)]
theorem drp_miss (l : List S32) (k i : Nat) (h : i < l.length) (hk : i ≠ k) : drp l k (i + 1) = drp l k i ++ [rd_T32 l i] := by
 unfold drp
 rw [List.take_succ_eq_append_getElem h]
 have e : rd_T32 l i = l[i] := by simp [rd_T32, h]
 rw [e]
 rcases Nat.lt_or_gt_of_ne hk with hl | hg
 ·rw [List.eraseIdx_of_length_le (l := l.take i ++ [l[i]]) (by simp; omega), List.eraseIdx_of_length_le (l := l.take i) (by simp; omega)]
 ·rw [List.eraseIdx_append_of_lt_length (by simp; omega)]
theorem drp_len (l : List S32) (k i : Nat) : (drp l k i).length ≤ i := by
 unfold drp
 rw [List.length_eraseIdx]
 split <;> simp <;> omega
set_option maxHeartbeats 4000000 in
set_option maxRecDepth 100000 in
theorem l10Drop_any (g : Nat) (pts : Int) (A : Option Addr) (c : Nat) (l : List S32) (k : Nat) (hk : k < l.length) (hl : l.length ≤ 1048576) (w : World) (hb : w.heap[g]? = some (.cells #[.int .i64 pts, .slice A l.length c] 26 (0, 0))) (hr : Kd.C k32 w A l.length l) :
  Calls Try.prog 87 #[.pointer (some ⟨g, 0, none⟩), .int .i64 k] w fun e w' => ∃ v : Value, e = .returned (.agg #[.int .i64 pts, v]) ∧ TS w.heap.size w' v (l.eraseIdx k) ∧ Below w.heap.size w w' := by
 have hu32 := Try.underlying32
 have hu26 := Try.underlying26
 have HR := Aside0.mk hr
 have HBK := Aside0.mk hb
 have hgl : g < w.heap.size := blk_lt hb
 have hc0 : w.cell? ⟨g, 0, none⟩ = some (.int .i64 pts) := (blk_cell hb 0).trans rfl
 have hc1 : w.cell? ⟨g, 1, none⟩ = some (.slice A l.length c) := (blk_cell hb 1).trans rfl
 clear hb hr
 go_enter Try.func87, Try.ntmps87
 go_wp2_with (fail)
 have t0 : TS w.heap.size ((w.alloc (.cells #[.int .i64 0, .slice none 0 0] 26)).alloc (.cells #[] 32)) (.slice (some ⟨w.heap.size + 1, 0, none⟩) 0 0) [] := by
  have ho := World.ownsRow_lit (base := w.heap.size) (e := 32) (size := 4) (w.alloc (.cells #[.int .i64 0, .slice none 0 0] 26)) #[] 0 (by simp) (by simp [maxLen]) (by simp)
  rw [World.size_alloc] at ho
  have ho' : ((w.alloc (.cells #[.int .i64 0, .slice none 0 0] 26)).alloc (.cells #[] 32)).ownsRow w.heap.size 32 4 (.slice (some ⟨w.heap.size + 1, 0, none⟩) 0 0) 0 [] := by simpa using ho
  exact ⟨fun _ _ => trivial, [], ho', by constructor <;> simp⟩
 have HT := Aside0.mk (Kd.R_alloc t0 (.cells #[.int .i64 pts, .slice (some ⟨w.heap.size + 1, 0, none⟩) 0 0] 26))
 have b0 := blk_new w (.cells #[.int .i64 0, .slice none 0 0] 26)
 have Hr0 := Aside0.mk (blk_alloc (blk_alloc b0 (.cells #[] 32)) (.cells #[.int .i64 pts, .slice (some ⟨w.heap.size + 1, 0, none⟩) 0 0] 26))
 have b1 := blk_new ((w.alloc (.cells #[.int .i64 0, .slice none 0 0] 26)).alloc (.cells #[] 32)) (.cells #[.int .i64 pts, .slice (some ⟨w.heap.size + 1, 0, none⟩) 0 0] 26)
 rw [World.size_alloc, World.size_alloc] at b1
 have Ho0 := Aside0.mk b1
 have HB0 := Aside0.mk (below_alloc (below_alloc (below_alloc (Below.refl w.heap.size w) (.cells #[.int .i64 0, .slice none 0 0] 26)) (.cells #[] 32)) (.cells #[.int .i64 pts, .slice (some ⟨w.heap.size + 1, 0, none⟩) 0 0] 26))
 clear t0 b0 b1
 go_loopw [6] (fun v6 wz => ∃ i : Nat, i ≤ l.length ∧ v6 = .int .i64 i ∧ ∃ v, Aside0 (TS w.heap.size wz v (drp l k i)) ∧ Aside0 (wz.heap[w.heap.size + 1 + 1]? = some (.cells #[.int .i64 pts, v] 26 (0, 0))) ∧ Aside0 (wz.heap[w.heap.size]? = some (.cells #[.int .i64 0, .slice none 0 0] 26 (0, 0))) ∧ Aside0 (Below w.heap.size w wz)) (fun v _ => l.length - (intOf v).toNat)
 case atStart => exact ⟨0, by omega, rfl, _, ⟨by rw [drp_zero]; exact HT.out⟩, Ho0, Hr0, HB0⟩
 case round =>
  clear hc0 hc1 HT Hr0 Ho0 HB0
  obtain ⟨i, hi, rfl, v, rt, ro, rr, rb⟩ := hrel
  obtain ⟨Av, cv, rfl⟩ := Kd.R_slice rt.out
  have hc1 : wr.cell? ⟨g, 1, none⟩ = some (.slice A l.length c) := (blk_cell (blk_below HBK.out rb.out) 1).trans rfl
  have ho0 : wr.cell? ⟨w.heap.size + 1 + 1, 0, none⟩ = some (.int .i64 pts) := (blk_cell ro.out 0).trans rfl
  have ho1 : wr.cell? ⟨w.heap.size + 1 + 1, 1, none⟩ = some (.slice Av (drp l k i).length cv) := (blk_cell ro.out 1).trans rfl
  have hol : w.heap.size + 1 + 1 < wr.heap.size := blk_lt ro.out
  have hgw : g < wr.heap.size := Nat.lt_of_lt_of_le hgl rb.out.size
  by_cases hlt : i < l.length
  ·have hlt' : decide ((i : Int) < (l.length : Int)) = true := by simpa using hlt
   obtain ⟨ad, rfl, hx0, hx1, hx2, hx3⟩ := at_T32 (Kd.C_below HR.out rb.out) (i : Int) (by omega) (by omega)
   simp only [Int.toNat_natCast] at hx0 hx1 hx2 hx3
   obtain ⟨s, hs⟩ : ∃ s, s = rd_T32 l i := ⟨_, rfl⟩
   rw [← hs] at hx0 hx1 hx2 hx3
   have HS := Aside0.mk hs
   clear hs
   by_cases hik : i = k
   ·subst hik
    have hne : ((i : Int) != (i : Int)) = false := by simp
    go_wp2_with (fail)
    go_roundw
    case rel => exact ⟨i + 1, by omega, by go_num, _, ⟨by rw [drp_hit]; exact rt.out⟩, ro, rr, rb⟩
    case measure => simp [intOf]; omega
   ·have hne : ((i : Int) != (k : Int)) = true := by simp; omega
    have hlen := Aside0.mk (show ((drp l k i).length + 1) * 32 ≤ 140737488355328 by have := drp_len l k i; omega)
    go_wp2_with (fail)
    go_region_law (refine Kd.R_append_step k32 (w0 := w) w.heap.size (by rfl) (.tmp 26) (.tmp 34) 24 32 (.agg #[.int .i64 0, .int .i64 0, .int .i64 0, .int .i64 0]) 32 rfl Try.underlying24 info32 rfl (by decide) (by omega) (.slice Av (drp l k i).length cv) (drp l k i) s [.int .i64 s.f0, .int .i64 s.f1, .int .i64 s.f2, .int .i64 s.f3] (fun _ => True) (fun _ => False) rfl rfl (k32_mkM _ _ _ _) (fun _ hk => hk.elim) (fun _ _ => trivial) (Kd.R_drew rt.out) rb.out.drew rb.out.size hlen.out ?_; intro v1 w2 h1 h2 h3 h4; obtain ⟨A1, c1, rfl⟩ := Kd.R_slice h1; have qo := blk_grown (w := wr.drew) ro.out h3 (Kd.R_ne rt.out ro.out (by decide)); have qr := Aside0.mk (blk_grown (w := wr.drew) rr.out h3 (Kd.R_ne rt.out rr.out (by decide))); have q1 : w2.cell? ⟨w.heap.size + 1 + 1, 1, none⟩ = some (.slice Av (drp l k i).length cv) := (blk_cell qo 1).trans rfl; have q2 := blk_frozen qo 1; have H1 := Aside0.mk h1; have H2 := Aside0.mk h2; have QO := Aside0.mk qo; clear h1 h2 h3 h4 qo)
    all_goals go_wp2_with (fail)
    all_goals (
     go_roundw
     case rel =>
      refine ⟨i + 1, by omega, by go_num, _, ⟨?_⟩, ⟨blk_put QO.out 1 _ rfl⟩, ⟨blk_far qr.out (show w.heap.size ≠ w.heap.size + 1 + 1 by omega) _⟩, ⟨H2.out.setCell (show w.heap.size ≤ w.heap.size + 1 + 1 by omega) _⟩⟩
      have h := Kd.R_set H1.out QO.out (by decide) 1 (.slice A1 (drp l k i ++ [s]).length c1)
      rw [show (drp l k i ++ [s]).length = (drp l k i).length + 1 by simp] at h
      rw [drp_miss l k i hlt hik, ← HS.out]
      exact h
     case measure => simp [intOf]; omega)
  ·obtain rfl : i = l.length := by omega
   have hlt' : decide ((l.length : Int) < (l.length : Int)) = false := by simp
   have hr0 : wr.cell? ⟨w.heap.size, 0, none⟩ = some (.int .i64 0) := (blk_cell rr.out 0).trans rfl
   have hr1 : wr.cell? ⟨w.heap.size, 1, none⟩ = some (.slice none 0 0) := (blk_cell rr.out 1).trans rfl
   have hf0 := blk_frozen rr.out 0
   have hf1 := blk_frozen rr.out 1
   have hrt := Aside0.mk (Kd.R_set (Kd.R_set rt.out rr.out (by decide) 0 (.int .i64 pts)) (blk_put rr.out 0 (.int .i64 pts) rfl) (by decide) 1 (.slice Av (drp l k l.length).length cv))
   have hbb := Aside0.mk ((rb.out.setCell (p := ⟨w.heap.size, 0, none⟩) (Nat.le_refl _) (.int .i64 pts)).setCell (p := ⟨w.heap.size, 1, none⟩) (Nat.le_refl _) (.slice Av (drp l k l.length).length cv))
   have hz0 := Aside0.mk (blk_put (blk_put rr.out 0 (.int .i64 pts) rfl) 1 (.slice Av (drp l k l.length).length cv) rfl)
   go_wp2_with (fail)
   have hy0 := (blk_cell hz0.out 0)
   have hy1 := (blk_cell hz0.out 1)
   refine bodyPost_ret (results_cell_row rfl _ _ w.heap.size 26 #[.int .i64 pts, .slice Av (drp l k l.length).length cv] (0, 0) _ rfl hz0.out Try.underlying26 rfl (by kernel_rfl)) rfl ?_
   exact ⟨_, rfl, by rw [← drp_all]; exact hrt.out, hbb.out⟩
end Go.Proofs.Ytkafbmanmffliaa.Hf

/- slices.Clone and slices.Delete at []Sight; (Survey).without. -/
namespace Go.Proofs.Ytkafbmanmffliaa.Hg
open Go.RowKit YtkafbmanmffliaaW.PrintWords YtkafbmanmffliaaW.PrintLast YtkafbmanmffliaaW.PrintMore Q Hc Hf
def c4 (s : S32) : List Value := [.int .i64 s.f0, .int .i64 s.f1, .int .i64 s.f2, .int .i64 s.f3]
def flat : List S32 → List Value
 | [] => []
 | s :: r => c4 s ++ flat r
theorem flat_len (l : List S32) : (flat l).length = l.length * 4 := by
 induction l with
 | nil => rfl
 | cons x xs ih => simp [flat, c4, ih]; omega
theorem flat_append (l m : List S32) : flat (l ++ m) = flat l ++ flat m := by
 induction l with
 | nil => rfl
 | cons x xs ih => simp [flat, ih]
theorem flat_one (l : List S32) : ∀ u ∈ flat l, u.oneCell' = true := by
 induction l with
 | nil => intro u hu; cases hu
 | cons x xs ih =>
  intro u hu
  simp only [flat, c4, List.cons_append, List.nil_append, List.mem_cons] at hu
  rcases hu with rfl | rfl | rfl | rfl | hu
  ·rfl
  ·rfl
  ·rfl
  ·rfl
  ·exact ih u hu
theorem flat_get (l : List S32) (i r : Nat) (hr : r < 4) : (flat l)[i * 4 + r]? = (l[i]?).bind fun s => (c4 s)[r]? := by
 induction l generalizing i with
 | nil => simp [flat]
 | cons x xs ih =>
  cases i with
  | zero =>
   simp only [flat, Nat.zero_mul, Nat.zero_add, List.getElem?_cons_zero, Option.bind_some]
   rw [List.getElem?_append_left (by simp [c4]; exact hr)]
  | succ i =>
   simp only [flat, List.getElem?_cons_succ]
   rw [List.getElem?_append_right (by simp [c4]; omega), ← ih i]
   congr 1; simp [c4]; omega
theorem flat_take (l : List S32) (i : Nat) : flat (l.take i) = (flat l).take (i * 4) := by
 induction l generalizing i with
 | nil => simp [flat]
 | cons x xs ih =>
  cases i with
  | zero => simp [flat]
  | succ i =>
   simp only [List.take_succ_cons, flat, ih]
   rw [List.take_append]
   congr 1
   ·rw [List.take_of_length_le (by simp [c4]; omega)]
   ·congr 1; simp [c4]; omega
theorem flat_drop (l : List S32) (i : Nat) : flat (l.drop i) = (flat l).drop (i * 4) := by
 induction l generalizing i with
 | nil => simp [flat]
 | cons x xs ih =>
  cases i with
  | zero => simp [flat]
  | succ i =>
   simp only [List.drop_succ_cons, flat, ih]
   rw [List.drop_append, List.drop_of_length_le (l := c4 x) (by simp [c4]; omega), List.nil_append]
   congr 1; simp [c4]; omega
theorem reps_flat (w : World) (base : Nat) (ok : Nat → Prop) (l : List S32) : Reps (k32.M w base ok) 4 l (flat l) := by
 refine ⟨flat_len l, fun j p hj => ?_⟩
 have hjl : j < l.length := (List.getElem?_eq_some_iff.1 hj).1
 have e : ((flat l).drop (j * 4)).take 4 = c4 p := by
  rw [← flat_drop, List.drop_eq_getElem_cons hjl, flat, List.take_append_of_le_length (by simp [c4]), List.take_of_length_le (by simp [c4])]
  congr 1
  rw [List.getElem?_eq_getElem hjl] at hj
  exact Option.some.inj hj
 rw [e]
 exact k32_mkM w base ok p
theorem reps_inner {w : World} {base : Nat} {ok : Nat → Prop} {l : List S32} {inner : List Value} (h : Reps (k32.M w base ok) 4 l inner) : inner = flat l := by
 apply List.ext_getElem?
 intro j
 have hlen := h.1
 obtain ⟨i, r, hr, rfl⟩ : ∃ i r, r < 4 ∧ j = i * 4 + r := ⟨j / 4, j % 4, Nat.mod_lt _ (by omega), by omega⟩
 rw [flat_get l i r hr]
 rcases Nat.lt_or_ge i l.length with hi | hi
 ·have h1 := k32_openM (h.2 i l[i] (List.getElem?_eq_getElem hi))
  rw [List.getElem?_eq_getElem hi, Option.bind_some]
  change _ = c4 l[i] at h1
  rw [← h1, List.getElem?_take_of_lt hr, List.getElem?_drop]
 ·rw [List.getElem?_eq_none (by omega), List.getElem?_eq_none hi]; rfl
theorem TS_own {B : Nat} {W : World} {v : Value} {l : List S32} (h : W.ownsRow B 32 4 v l.length (flat l)) : TS B W v l :=
 ⟨fun _ _ => trivial, flat l, h, reps_flat _ _ _ _⟩
theorem own_TS {B : Nat} {W : World} {v : Value} {l : List S32} (h : TS B W v l) : W.ownsRow B 32 4 v l.length (flat l) := by
 obtain ⟨_, inner, ho, hr⟩ := h
 rw [← reps_inner hr]; exact ho
theorem C_news {w : World} {A : Option Addr} {l : List S32} (h : Kd.C k32 w A l.length l) (hp : 0 < l.length) : ∃ ad, A = some ad ∧ ∀ j u, (flat l)[j]? = some u → w.cell? (ad.add j) = some u := by
 obtain ⟨ad, e, hc⟩ := h.2.2 hp
 refine ⟨ad, e, fun j u hj => ?_⟩
 obtain ⟨i, r, hr, rfl⟩ : ∃ i r, r < 4 ∧ j = i * 4 + r := ⟨j / 4, j % 4, Nat.mod_lt _ (by omega), by omega⟩
 rw [flat_get l i r hr] at hj
 have hi : i < l.length := by
  rcases Nat.lt_or_ge i l.length with hi | hi
  ·exact hi
  ·rw [List.getElem?_eq_none hi] at hj; cases hj
 rw [List.getElem?_eq_getElem hi, Option.bind_some] at hj
 obtain ⟨c, _, hK, hcell⟩ := hc i l[i] (List.getElem?_eq_getElem hi)
 obtain rfl := k32_open hK
 exact hcell r u hj
set_option maxHeartbeats 4000000 in
set_option maxRecDepth 100000 in
theorem clone_any (A : Option Addr) (c : Nat) (l : List S32) (w : World) (hr : Kd.C k32 w A l.length l) (hp : 0 < l.length) (hl : l.length ≤ 1048576) :
  Calls Try.prog 119 #[.slice A l.length c] w fun e w' => ∃ g cap, e = .returned (.slice (some ⟨g, 0, none⟩) l.length cap) ∧ TS w.heap.size w' (.slice (some ⟨g, 0, none⟩) l.length cap) l ∧ Below w.heap.size w w' := by
 obtain ⟨ad, rfl, hnews⟩ := C_news hr hp
 have HN := Aside0.mk hnews
 have HL := Aside0.mk (flat_len l)
 have HP := Aside0.mk hp
 have hq : ∀ W, (binOp .eql 24 (.slice (some ad) l.length c) (.slice none 0 0)).run Try.prog W = .ok (.bool false) W := fun W => Go.Lib.run_eql_slice_nil W 24 32 (some ad) l.length c 0 0 Try.underlying24
 obtain ⟨i0, hi, hzz⟩ := Option.map_eq_some_iff.1 info32
 simp only [Prod.mk.injEq] at hzz
 obtain ⟨hz0, hz1, hz2⟩ := hzz
 have HI := Aside0.mk hi
 have HZ := Aside0.mk (And.intro hz0 (And.intro hz1 hz2))
 clear hr hnews hp hi hz0 hz1 hz2
 have ho := World.ownsRow_lit (base := w.heap.size) (e := 32) (size := 4) w #[] 0 (Nat.le_refl _) (by simp [maxLen]) (by simp)
 have HO := Aside0.mk ho
 have HB := Aside0.mk (below_alloc (Below.refl w.heap.size w) (.cells #[] 32))
 clear ho
 go_enter Try.func119, Try.ntmps119
 go_wp2_with (((with_reducible refine gate_builtin (b := .append) (xs := #[.tmp 5, .tmp 6]) rfl ?_); at_builtin; go_loud (refine wpList_append_own _ rfl (.tmp 5) (.tmp 6) 24 rfl w.heap.size 32 i0 (.agg #[.int .i64 0, .int .i64 0, .int .i64 0, .int .i64 0]) 4 32 Try.underlying24 HI.out HZ.out.1 HZ.out.2.1 HZ.out.2.2 rfl (by decide) (.slice (some ⟨w.heap.size, 0, none⟩) 0 0) 0 [] rfl (by simpa using HO.out) ad l.length c (flat l) rfl HL.out (fun j u hj => Go.Lib.cell?_alloc_some _ (HN.out j u hj)) (flat_one l) (by simp only [maxLen]; omega) (by omega) (by simp) ?_); intro v1 w1 h1 h2 h3))
 have hb := HB.out.grown h2 (by simp) (fun k hk => by simp [Value.ownBlock] at hk; omega)
 rw [Nat.zero_add, List.nil_append] at h1
 obtain ⟨g, cap, rfl⟩ : ∃ g cap, v1 = .slice (some ⟨g, 0, none⟩) l.length cap := by
  rcases h1.2 with ⟨_, e⟩ | ⟨g, cap, cur, e, _⟩
  ·have := HP.out; omega
  ·exact ⟨g, cap, e⟩
 go_ret
 exact ⟨g, cap, rfl, TS_own h1, hb⟩
def putL (cur : Array Value) : Nat → List Value → Array Value
 | _, [] => cur
 | o, v :: r => putL (cur.setIfInBounds o v) (o + 1) r
theorem putL_size (cur : Array Value) (o : Nat) (vs : List Value) : (putL cur o vs).size = cur.size := by
 induction vs generalizing cur o with
 | nil => rfl
 | cons x xs ih => simp [putL, ih]
theorem putL_get (cur : Array Value) (o : Nat) (vs : List Value) (h : o + vs.length ≤ cur.size) (j : Nat) : (putL cur o vs)[j]? = if o ≤ j ∧ j < o + vs.length then vs[j - o]? else cur[j]? := by
 induction vs generalizing cur o with
 | nil => simp only [putL, List.length_nil]; rw [if_neg (by omega)]
 | cons x xs ih =>
  simp only [List.length_cons] at h ⊢
  simp only [putL]
  rw [ih _ _ (by simp; omega)]
  by_cases h1 : o + 1 ≤ j ∧ j < o + 1 + xs.length
  ·rw [if_pos h1, if_pos (by omega), show j - o = (j - (o + 1)) + 1 by omega, List.getElem?_cons_succ]
  ·rw [if_neg h1, Array.getElem?_setIfInBounds]
   by_cases h2 : o = j
   ·subst h2
    rw [if_pos rfl, if_pos (by omega), if_pos (by omega)]; simp
   ·rw [if_neg h2, if_neg (by omega)]
theorem blk_putL {w : World} {g : Nat} {t : TypeId} {cur : Array Value} (h : w.heap[g]? = some (.cells cur t (0, 0))) (o : Nat) (vs : List Value) : (w.setCells g o vs).heap[g]? = some (.cells (putL cur o vs) t (0, 0)) := by
 induction vs generalizing w cur o with
 | nil => exact h
 | cons x xs ih => exact ih (blk_put h o x rfl) (o + 1)
theorem below_putL {B : Nat} {w0 w : World} {g : Nat} (h : Below B w0 w) (hg : B ≤ g) (o : Nat) (vs : List Value) : Below B w0 (w.setCells g o vs) := by
 induction vs generalizing w o with
 | nil => exact h
 | cons x xs ih => exact ih (h.setCell hg x) (o + 1)
theorem eraseIdx_cells {l : List S32} {cur : Array Value} {n cap i : Nat} (hn : n = l.length) (hc : cur.size = cap * 4) (hcap : n ≤ cap) (ht : cur.toList.take (n * 4) = flat l) (hi : i < n) (z : List Value) (hz : z.length = 4) :
  (putL (putL cur (i * 4) (flat (l.drop (i + 1)))) ((n - 1) * 4) z).toList.take ((n - 1) * 4) = flat (l.eraseIdx i) := by
 have hfl : (flat (l.drop (i + 1))).length = (n - 1 - i) * 4 := by rw [flat_len, List.length_drop]; omega
 apply List.ext_getElem?
 intro j
 have hse : (flat (l.eraseIdx i)).length = (n - 1) * 4 := by rw [flat_len, List.length_eraseIdx_of_lt (by omega)]; omega
 rcases Nat.lt_or_ge j ((n - 1) * 4) with hj | hj
 ·rw [List.getElem?_take_of_lt hj, Array.getElem?_toList, putL_get _ _ _ (by rw [putL_size, hc, hz]; omega), if_neg (by omega), putL_get _ _ _ (by rw [hc, hfl]; omega)]
  have e0 : l.eraseIdx i = l.take i ++ l.drop (i + 1) := List.eraseIdx_eq_take_drop_succ ..
  rw [e0, flat_append]
  have hft : (flat (l.take i)).length = i * 4 := by rw [flat_len, List.length_take]; omega
  rcases Nat.lt_or_ge j (i * 4) with h1 | h1
  ·rw [if_neg (by omega), List.getElem?_append_left (by omega), flat_take, List.getElem?_take_of_lt h1, ← ht, List.getElem?_take_of_lt (by omega), Array.getElem?_toList]
  ·rw [if_pos (by omega), List.getElem?_append_right (by omega), hft]
 ·rw [List.getElem?_eq_none (by rw [List.length_take]; omega), List.getElem?_eq_none (by omega)]
theorem clear4 (w : World) (ty : TypeId) (b o c : Nat) (hc : ∀ j, j < 4 → (w.cell? ⟨b, o + j, none⟩).isSome = true) (hf : ∀ j, j < 4 → w.frozen? ⟨b, o + j, none⟩ = false) :
  (Builtin.clear_ #[24] ty #[.slice (some ⟨b, o, none⟩) 1 c]).run Try.prog w = .ok (.tuple #[]) (w.setCells b o [.int .i64 0, .int .i64 0, .int .i64 0, .int .i64 0]) := by
 have hv : ∀ w, (zeroValue 32).run Try.prog w = .ok (.agg #[.int .i64 0, .int .i64 0, .int .i64 0, .int .i64 0]) w := by
  obtain ⟨i0, hi, hzz⟩ := Option.map_eq_some_iff.1 info32
  simp only [Prod.mk.injEq] at hzz
  intro w
  simp [zeroValue, typeInfo, hi, hzz.1]
 have hst := run_storeCells_cells (P := Try.prog) b o [.int .i64 0, .int .i64 0, .int .i64 0, .int .i64 0] 0 w (by simpa using hc) (by simpa using hf) (by intro v hv'; simp at hv'; subst hv'; rfl)
 simp only [Nat.add_zero] at hst
 have hzc : Builtin.zeroCells (Value.agg #[.int .i64 0, .int .i64 0, .int .i64 0, .int .i64 0]).cells 1 = #[.int .i64 0, .int .i64 0, .int .i64 0, .int .i64 0] := by
  apply Array.ext
  ·simp [Builtin.zeroCells, Value.cells]
  ·intro j h1 h2
   have h3 : j < 4 := by simpa using h2
   obtain rfl | rfl | rfl | rfl : j = 0 ∨ j = 1 ∨ j = 2 ∨ j = 3 := by omega
   all_goals simp [Builtin.zeroCells, Value.cells]
 simp [Builtin.clear_, run_underlying Try.underlying24, hv, hzc, hst]
set_option maxHeartbeats 4000000 in
set_option maxRecDepth 100000 in
theorem delete_any (B g n cap i : Nat) (l : List S32) (w : World) (ht : TS B w (.slice (some ⟨g, 0, none⟩) n cap) l) (hi : i < n) (hl : n ≤ 1048576) :
  Calls Try.prog 118 #[.slice (some ⟨g, 0, none⟩) n cap, .int .i64 i, .int .i64 ((i : Int) + 1)] w fun e w' => e = .returned (.slice (some ⟨g, 0, none⟩) (n - 1) cap) ∧ TS B w' (.slice (some ⟨g, 0, none⟩) (n - 1) cap) (l.eraseIdx i) ∧ (∀ B0 w0, Below B0 w0 w → B0 ≤ g → Below B0 w0 w') := by
 have ho := own_TS ht
 obtain ⟨rfl, hcap, -⟩ := Kd.R_reads' ht
 have hgB : B ≤ g := Kd.R_base ht g rfl
 rcases ho.2 with ⟨h0, -⟩ | ⟨g', cap', cur, he, -, hh, -, hmax, hsz, htk⟩
 ·cases h0
 ·injection he with he1 he2 he3
  injection he1 with he1
  injection he1 with he1
  subst he1
  subst he3
  have hcs : ∀ j, j < cap * 4 → (w.cell? ⟨g, j, none⟩).isSome = true := fun j hj => by rw [blk_cell hh j, Array.getElem?_eq_getElem (by omega)]; rfl
  obtain ⟨i0, hi0, hzz⟩ := Option.map_eq_some_iff.1 info32
  simp only [Prod.mk.injEq] at hzz
  have hic : i ≤ cap := by omega
  have hjc : i + 1 ≤ cap := by omega
  have hmx : cap ≤ 9223372036854775807 := by simpa [maxLen] using hmax
  have hj1 : (i : Int) + 1 ≤ (l.length : Int) := by omega
  have hj0 : (0 : Int) ≤ (i : Int) + 1 := by omega
  have hlen : (flat (l.drop (i + 1))).length = (l.length - (i + 1)) * 4 := by rw [flat_len, List.length_drop]
  obtain ⟨Ad, hA, hsrc⟩ : ∃ A : Addr, (if cap = i + 1 then some (⟨g, 0, none⟩ : Addr) else some ⟨g, (i + 1) * 4, none⟩) = some A ∧ Aside0 (∀ t u, (flat (l.drop (i + 1)))[t]? = some u → w.drew.cell? (A.add t) = some u) := by
   by_cases h : cap = i + 1
   ·refine ⟨⟨g, 0, none⟩, by simp [h], ⟨fun t u hu => ?_⟩⟩
    have h0 : (flat (l.drop (i + 1))).length = 0 := by rw [hlen]; omega
    rw [List.length_eq_zero_iff.1 h0] at hu
    simp at hu
   ·refine ⟨⟨g, (i + 1) * 4, none⟩, by simp [h], ⟨fun t u hu => ?_⟩⟩
    have htl := (List.getElem?_eq_some_iff.1 hu).1
    rw [hlen] at htl
    rw [flat_drop, List.getElem?_drop, ← htk, List.getElem?_take_of_lt (by omega), Array.getElem?_toList] at hu
    rw [show (⟨g, (i + 1) * 4, none⟩ : Addr).add t = ⟨g, (i + 1) * 4 + t, none⟩ by unfold Addr.add; split <;> simp_all]
    show w.cell? ⟨g, (i + 1) * 4 + t, none⟩ = some u
    rw [blk_cell hh]; exact hu
  obtain ⟨W1, hW1⟩ : ∃ W1, W1 = w.drew.setCells g (0 + i * 4) (flat (l.drop (i + 1))) := ⟨_, rfl⟩
  have hh1 : W1.heap[g]? = some (.cells (putL cur (i * 4) (flat (l.drop (i + 1)))) 32 (0, 0)) := by rw [hW1, Nat.zero_add]; exact blk_putL (w := w.drew) hh _ _
  have hcl : ∀ ty, (Builtin.clear_ #[24] ty #[.slice (some ⟨g, (i + (l.length - (i + 1))) * 4, none⟩) (l.length - (i + (l.length - (i + 1)))) (cap - (i + (l.length - (i + 1))))]).run Try.prog W1 = .ok (.tuple #[]) (W1.setCells g ((i + (l.length - (i + 1))) * 4) [.int .i64 0, .int .i64 0, .int .i64 0, .int .i64 0]) := by
   intro ty
   rw [show l.length - (i + (l.length - (i + 1))) = 1 by omega]
   exact clear4 W1 ty g _ _ (fun j hj => by rw [blk_cell hh1, Array.getElem?_eq_getElem (by rw [putL_size, hsz]; omega)]; rfl) (fun j _ => blk_frozen hh1 _)
  have hh2 : (W1.setCells g ((i + (l.length - (i + 1))) * 4) [.int .i64 0, .int .i64 0, .int .i64 0, .int .i64 0]).heap[g]? = some (.cells (putL (putL cur (i * 4) (flat (l.drop (i + 1)))) ((l.length - 1) * 4) [.int .i64 0, .int .i64 0, .int .i64 0, .int .i64 0]) 32 (0, 0)) := by
   rw [show i + (l.length - (i + 1)) = l.length - 1 by omega]
   exact blk_putL hh1 _ _
  have hown : (W1.setCells g ((i + (l.length - (i + 1))) * 4) [.int .i64 0, .int .i64 0, .int .i64 0, .int .i64 0]).ownsRow B 32 4 (.slice (some ⟨g, 0, none⟩) (l.length - 1) cap) (l.eraseIdx i).length (flat (l.eraseIdx i)) := by
   have e : (l.eraseIdx i).length = l.length - 1 := List.length_eraseIdx_of_lt hi
   refine ⟨flat_len _, .inr ⟨g, cap, _, by rw [e], hgB, hh2, by rw [e]; omega, hmax, by rw [putL_size, putL_size, hsz], ?_⟩⟩
   rw [e]
   exact eraseIdx_cells rfl hsz hcap htk hi _ rfl
  have hbel : ∀ B0 w0, Below B0 w0 w → B0 ≤ g → Below B0 w0 (W1.setCells g ((i + (l.length - (i + 1))) * 4) [.int .i64 0, .int .i64 0, .int .i64 0, .int .i64 0]) := by
   intro B0 w0 hb hg
   rw [hW1]
   exact below_putL (below_putL hb.drew hg _ _) hg _ _
  have hroom : Aside0 (∀ j, j < (flat (l.drop (i + 1))).length → (w.drew.cell? ⟨g, 0 + i * 4 + j, none⟩).isSome = true ∧ w.drew.frozen? ⟨g, 0 + i * 4 + j, none⟩ = false) := by
   refine ⟨fun j hj => ?_⟩
   rw [hlen] at hj
   rw [Nat.zero_add]
   exact ⟨hcs _ (by omega), blk_frozen hh _⟩
  have HX := Aside0.mk hown
  have HI := Aside0.mk (And.intro hi0 hzz)
  have HBL := Aside0.mk hbel
  have HLEN := Aside0.mk hlen
  have HW := Aside0.mk hW1
  clear ho hh hsz htk hcs hi0 hzz ht hown hbel hlen hh1 hh2 hW1
  go_enter Try.func118, Try.ntmps118
  go_wp2_with fail
  go_region_law (refine step_append_room rfl (.tmp 22) (.tmp 25) 24 rfl 32 i0 4 Try.underlying24 HI.out.1 HI.out.2.2.1 g 0 i cap rfl Ad (l.length - (i + 1)) (cap - (i + 1)) (flat (l.drop (i + 1))) (by simp [Act.eval, Act.put]) HLEN.out hsrc.out (flat_one _) (by omega) hroom.out ?_; rw [← HW.out])
  go_wp2_with fail
  go_ret
  refine ⟨by rw [show i + (l.length - (i + 1)) = l.length - 1 by omega]; rfl, ?_, HBL.out⟩
  have e : (l.eraseIdx i).length = l.length - 1 := List.length_eraseIdx_of_lt hi
  have h := TS_own HX.out
  exact h
end Go.Proofs.Ytkafbmanmffliaa.Hg

/- (Survey).without. -/
namespace Go.Proofs.Ytkafbmanmffliaa.Hh
open Go.RowKit YtkafbmanmffliaaW.PrintWords YtkafbmanmffliaaW.PrintLast YtkafbmanmffliaaW.PrintMore Q Hf Hg
abbrev X0 (pts : Int) (A : Option Addr) (n c : Nat) (w : World) : World := (w.alloc (.cells #[.int .i64 pts, .slice A n c] 26)).alloc (.cells #[.int .i64 0, .slice none 0 0] 26)
set_option maxHeartbeats 4000000 in
set_option maxRecDepth 100000 in
theorem without_any (pts : Int) (A : Option Addr) (c : Nat) (l : List S32) (k : Nat) (hk : k < l.length) (hl : l.length ≤ 1048576) (w : World) (hr : Kd.C k32 w A l.length l) :
  Calls Try.prog 79 #[.agg #[.int .i64 pts, .slice A l.length c], .int .i64 k] w fun e w' => ∃ v : Value, e = .returned (.agg #[.int .i64 pts, v]) ∧ TS w.heap.size w' v (l.eraseIdx k) ∧ Below w.heap.size w w' := by
 have hu32 := Try.underlying32
 have hu26 := Try.underlying26
 have hbx := below_alloc (below_alloc (Below.refl w.heap.size w) (.cells #[.int .i64 pts, .slice A l.length c] 26)) (.cells #[.int .i64 0, .slice none 0 0] 26)
 have HR := Aside0.mk (Kd.C_below hr hbx.drew)
 have HBX := Aside0.mk hbx.drew
 have b0 : (X0 pts A l.length c w).heap[w.heap.size]? = some (.cells #[.int .i64 pts, .slice A l.length c] 26 (0, 0)) := blk_alloc (blk_new w (.cells #[.int .i64 pts, .slice A l.length c] 26)) (.cells #[.int .i64 0, .slice none 0 0] 26)
 have b1 : (X0 pts A l.length c w).heap[w.heap.size + 1]? = some (.cells #[.int .i64 0, .slice none 0 0] 26 (0, 0)) := by
  have := blk_new (w.alloc (.cells #[.int .i64 pts, .slice A l.length c] 26)) (.cells #[.int .i64 0, .slice none 0 0] 26)
  rw [World.size_alloc] at this; exact this
 have HB0 := Aside0.mk b0
 have HB1 := Aside0.mk b1
 have HSZ := Aside0.mk (show (X0 pts A l.length c w).heap.size = w.heap.size + 2 by simp)
 have hp : 0 < l.length := by omega
 clear hr hbx b0 b1
 go_enter Try.func79, Try.ntmps79
 go_wp2_with (fail)
 have hwk : IntKind.i64.wrap ((k : Int) + 1) = (k : Int) + 1 := by rw [IntKind.wrap_i64]; omega
 go_region_with (first
  | (go_at_call 119; refine (clone_any A c l (X0 pts A l.length c w).drew HR.out hp hl).mono ?_; rintro e w1 ⟨g, cap, rfl, h1, h2⟩; have H1 := Aside0.mk h1; have H2 := Aside0.mk h2; have HG := Aside0.mk (Kd.R_base h1 g rfl); have q0 : w1.cell? ⟨w.heap.size, 0, none⟩ = some (.int .i64 pts) := (blk_cell (blk_below (blk_drew HB0.out) h2) 0).trans rfl; clear h1 h2)
  | (go_at_call 118; refine (delete_any _ g l.length cap k l w1 H1.out hk hl).mono ?_; rintro e w2 ⟨rfl, h3, h4⟩; have H3 := Aside0.mk h3; have h5 := h4 _ _ H2.out HG.out; have H5 := Aside0.mk h5; have qb := blk_below (blk_drew HB1.out) h5; have QB := Aside0.mk qb; have q1 : w2.cell? ⟨w.heap.size, 0, none⟩ = some (.int .i64 pts) := (blk_cell (blk_below (blk_drew HB0.out) h5) 0).trans rfl; have q2 : w2.cell? ⟨w.heap.size + 1, 0, none⟩ = some (.int .i64 0) := (blk_cell qb 0).trans rfl; have q3 : w2.cell? ⟨w.heap.size + 1, 1, none⟩ = some (.slice none 0 0) := (blk_cell qb 1).trans rfl; have q4 := blk_frozen qb 0; have q5 := blk_frozen qb 1; clear h3 h4 h5 qb))
 all_goals clear hwk
 all_goals go_wp2_with (fail)
 all_goals (
  have hrt := Kd.R_set (Kd.R_set H3.out QB.out (by decide) 0 (.int .i64 pts)) (blk_put QB.out 0 (.int .i64 pts) rfl) (by decide) 1 (.slice (some ⟨g, 0, none⟩) (l.length - 1) cap)
  have hz := blk_put (blk_put QB.out 0 (.int .i64 pts) rfl) 1 (.slice (some ⟨g, 0, none⟩) (l.length - 1) cap) rfl
  have hbb := ((below_step HBX.out H5.out).setCell (p := ⟨w.heap.size + 1, 0, none⟩) (Nat.le_succ _) (.int .i64 pts)).setCell (p := ⟨w.heap.size + 1, 1, none⟩) (Nat.le_succ _) (.slice (some ⟨g, 0, none⟩) (l.length - 1) cap)
  refine bodyPost_ret (results_cell_row rfl _ _ (w.heap.size + 1) 26 #[.int .i64 pts, .slice (some ⟨g, 0, none⟩) (l.length - 1) cap] (0, 0) _ rfl hz Try.underlying26 rfl (by kernel_rfl)) rfl ?_
  exact ⟨_, rfl, Kd.R_lower hrt HBX.out.size, hbb⟩)
end Go.Proofs.Ytkafbmanmffliaa.Hh

/- The program's BlunderIn: what it returns. -/
namespace Go.Proofs.Ytkafbmanmffliaa.Bl1
open Go Go.RowKit YtkafbmanmffliaaW.PrintWords YtkafbmanmffliaaW.PrintLast YtkafbmanmffliaaW.PrintMore Q Gd Hb Gs Kf Ix Ex
def agr (n : Nat) (l : List S32) : Bool := Gm.connB ((n : Int) + 1) l && exB n l
def bluF (n : Nat) (l : List S32) : Nat → Nat → Int × Bool
 | 0, _ => (0, false)
 | d + 1, k => if agr n (l.eraseIdx k) = true then ((k : Int), true) else bluF n l d (k + 1)
def blu (p : Int) (l : List S32) : Int × Bool := if Gm.connB p l = true ∧ exB (wp p) l = false then bluF (wp p) l l.length 0 else (0, false)
theorem erase_valid {p : Int} {l : List S32} (h : surveyB p l = true) (k : Nat) : surveyB p (l.eraseIdx k) = true := by
 unfold surveyB at h ⊢
 simp only [Bool.and_eq_true, decide_eq_true_eq, List.all_eq_true] at h ⊢
 refine ⟨⟨h.1.1, ?_⟩, fun s hs => h.2 s (List.mem_of_mem_eraseIdx hs)⟩
 have : (l.eraseIdx k).length ≤ l.length := List.length_eraseIdx_le _ _
 omega
def EndB (w : World) (r : Int × Bool) (e : Ending) (w' : World) : Prop := e = .returned (.tuple #[.int .i64 r.1, .bool r.2]) ∧ Below w.heap.size w w'
set_option maxHeartbeats 4000000 in
set_option maxRecDepth 100000 in
theorem blunder_any (p : Int) (l : List S32) (A : Option Addr) (c : Nat) (w : World) (hr : Kd.C k32 w A l.length l) (hcl : l.length ≤ c) (hl : l.length ≤ 1048576) :
  Calls Try.prog 49 #[.agg #[.int .i64 p, .slice A l.length c]] w (EndB w (blu p l)) := by
 unfold EndB
 have hu26 := Try.underlying26
 have hu32 := Try.underlying32
 have hbx := below_alloc (Below.refl w.heap.size w) (SX p A l.length c)
 have HR := Aside0.mk (Kd.C_below hr hbx)
 have HX := Aside0.mk (heap_alloc_new w (SX p A l.length c))
 have hc0 := conn_any p l A c (w.alloc (SX p A l.length c)) HR.out hcl hl
 have HCL := Aside0.mk hcl
 have HB := Aside0.mk hbx
 clear hr hcl hl hbx
 by_cases h : Gm.connB p l = true
 ·obtain ⟨n, rfl⟩ := conn_nat h
  have hl8 := (conn_n h).2.2
  have hx := fun (W : World) (hr : Kd.C k32 W A l.length l) => exact_any n l h A c W hr HCL.out
  have HV := Aside0.mk (conn_v h)
  by_cases hq : exB n l = true
  ·have HU := Aside0.mk (show blu ((n : Int) + 1) l = (0, false) by unfold blu; rw [wp_eq, if_neg (by rw [hq]; simp)])
   rw [h] at hc0
   rw [hq] at hx
   clear h hq
   go_enter Try.func49, Try.ntmps49
   go_wp2_with (fail)
   refine hc0.mono ?_
   rintro e w1 ⟨rfl, hb⟩
   have e0 : w1.cell? ⟨w.heap.size, 0, none⟩ = some (.int .i64 ((n : Int) + 1)) := (blk_cell (blk_below HX.out hb) 0).trans rfl
   have e1 : w1.cell? ⟨w.heap.size, 1, none⟩ = some (.slice A l.length c) := (blk_cell (blk_below HX.out hb) 1).trans rfl
   have hz := hx w1 (Kd.C_below HR.out hb)
   have HB1 := Aside0.mk (below_step HB.out hb)
   clear hc0 hx hb
   go_wp2_with (fail)
   refine hz.mono ?_
   rintro e w2 ⟨rfl, hb⟩
   have HB2 := Aside0.mk (below_step HB1.out hb)
   clear hz hb e0 e1
   go_wp2_with (fail)
   go_ret2
   rw [HU.out]
   exact ⟨rfl, HB2.out⟩
  ·have hq' : exB n l = false := by simpa using hq
   have HU := Aside0.mk (show blu ((n : Int) + 1) l = bluF n l l.length 0 by unfold blu; rw [wp_eq, if_pos ⟨h, hq'⟩])
   rw [h] at hc0
   rw [hq'] at hx
   clear h hq hq'
   go_enter Try.func49, Try.ntmps49
   go_wp2_with (fail)
   refine hc0.mono ?_
   rintro e w1 ⟨rfl, hb⟩
   have e0 : w1.cell? ⟨w.heap.size, 0, none⟩ = some (.int .i64 ((n : Int) + 1)) := (blk_cell (blk_below HX.out hb) 0).trans rfl
   have e1 : w1.cell? ⟨w.heap.size, 1, none⟩ = some (.slice A l.length c) := (blk_cell (blk_below HX.out hb) 1).trans rfl
   have hz := hx w1 (Kd.C_below HR.out hb)
   have HBQ := Aside0.mk hb
   clear hc0 hx hb
   go_wp2_with (fail)
   refine hz.mono ?_
   rintro e w2 ⟨rfl, hb⟩
   have t0 := Aside0.mk (below_step HBQ.out hb)
   have f1 : w2.cell? ⟨w.heap.size, 1, none⟩ = some (.slice A l.length c) := (blk_cell (blk_below HX.out t0.out) 1).trans rfl
   clear hz hb e0 e1
   go_wp2_with (fail)
   clear f1
   go_loopw [16] (fun v16 wz => ∃ i : Nat, v16 = .int .i64 (i : Int) ∧ i ≤ l.length ∧ Aside0 (bluF n l l.length 0 = bluF n l (l.length - i) i) ∧ Aside0 (Below (w.alloc (SX ((n : Int) + 1) A l.length c)).heap.size (w.alloc (SX ((n : Int) + 1) A l.length c)) wz)) (fun v _ => l.length - (intOf v).toNat)
   case atStart => exact ⟨0, rfl, by omega, ⟨rfl⟩, t0⟩
   case round =>
    clear t0
    obtain ⟨i, rfl, hi, HF, HB0⟩ := hrel
    by_cases hlt : i < l.length
    ·have p1 : decide ((i : Int) < (l.length : Int)) = true := decide_eq_true (by omega)
     have HF2 := Aside0.mk (show bluF n l l.length 0 = if agr n (l.eraseIdx i) = true then ((i : Int), true) else bluF n l (l.length - (i + 1)) (i + 1) by rw [HF.out, show l.length - i = (l.length - (i + 1)) + 1 by omega]; rfl)
     have e0 : wr.cell? ⟨w.heap.size, 0, none⟩ = some (.int .i64 ((n : Int) + 1)) := (blk_cell (blk_below HX.out HB0.out) 0).trans rfl
     have e1 : wr.cell? ⟨w.heap.size, 1, none⟩ = some (.slice A l.length c) := (blk_cell (blk_below HX.out HB0.out) 1).trans rfl
     have hw := Hh.without_any ((n : Int) + 1) A c l i hlt (by omega) wr (Kd.C_below HR.out HB0.out)
     have hve := erase_valid HV.out i
     clear HF
     go_wp2_with (fail)
     refine hw.mono ?_
     rintro e w2 ⟨v, rfl, h3, hb⟩
     obtain ⟨Av, cv, rfl⟩ := Kd.R_slice h3
     have HB2 := Aside0.mk (below_step HB0.out hb)
     have hba := below_alloc (Below.refl w2.heap.size w2) (.cells #[.int .i64 ((n : Int) + 1), .slice Av (l.eraseIdx i).length cv] 26)
     have HNA := Aside0.mk (heap_alloc_new w2 (.cells #[.int .i64 ((n : Int) + 1), .slice Av (l.eraseIdx i).length cv] 26))
     have HRE := Aside0.mk (Kd.C_below (Kd.R_reads' h3).2.2 hba)
     have HCE := Aside0.mk (Kd.R_reads' h3).2.1
     have hcc := Hw.connected_any (n + 1) (l.eraseIdx i) (by exact_mod_cast hve) Av cv _ HRE.out
     have HBA := Aside0.mk hba
     rw [show ((n + 1 : Nat) : Int) = (n : Int) + 1 by omega] at hcc
     clear hw h3 hb hba e0 e1
     by_cases hce : Gm.connB ((n : Int) + 1) (l.eraseIdx i) = true
     ·have hxe := fun (W : World) (hr : Kd.C k32 W Av (l.eraseIdx i).length (l.eraseIdx i)) => exact_any n (l.eraseIdx i) hce Av cv W hr HCE.out
      rw [hce] at hcc
      by_cases hxe2 : exB n (l.eraseIdx i) = true
      ·have HG := Aside0.mk (show bluF n l l.length 0 = ((i : Int), true) by rw [HF2.out, if_pos (by unfold agr; rw [hce, hxe2]; rfl)])
       rw [hxe2] at hxe
       clear hce hxe2
       go_wp2_with (fail)
       refine hcc.mono ?_
       rintro e w3 ⟨rfl, hb⟩
       have k0 : w3.cell? ⟨w2.heap.size, 0, none⟩ = some (.int .i64 ((n : Int) + 1)) := (blk_cell (blk_below HNA.out hb) 0).trans rfl
       have k1 : w3.cell? ⟨w2.heap.size, 1, none⟩ = some (.slice Av (l.eraseIdx i).length cv) := (blk_cell (blk_below HNA.out hb) 1).trans rfl
       have hz := hxe w3 (Kd.C_below HRE.out hb)
       have HB3 := Aside0.mk (below_step HB2.out (below_step HBA.out hb))
       clear hcc hxe hb
       go_wp2_with (fail)
       refine hz.mono ?_
       rintro e w4 ⟨rfl, hb⟩
       have HB4 := Aside0.mk (below_step HB3.out hb)
       clear hz hb k0 k1
       go_wp2_with (fail)
       go_ret2
       rw [HU.out, HG.out]
       exact ⟨rfl, HB.out.trans (HB4.out.mono HB.out.size)⟩
      ·have hxe3 : exB n (l.eraseIdx i) = false := by simpa using hxe2
       have HG := Aside0.mk (show bluF n l l.length 0 = bluF n l (l.length - (i + 1)) (i + 1) by rw [HF2.out, if_neg (by unfold agr; rw [hxe3]; simp)])
       rw [hxe3] at hxe
       clear hce hxe2 hxe3
       go_wp2_with (fail)
       refine hcc.mono ?_
       rintro e w3 ⟨rfl, hb⟩
       have k0 : w3.cell? ⟨w2.heap.size, 0, none⟩ = some (.int .i64 ((n : Int) + 1)) := (blk_cell (blk_below HNA.out hb) 0).trans rfl
       have k1 : w3.cell? ⟨w2.heap.size, 1, none⟩ = some (.slice Av (l.eraseIdx i).length cv) := (blk_cell (blk_below HNA.out hb) 1).trans rfl
       have hz := hxe w3 (Kd.C_below HRE.out hb)
       have HB3 := Aside0.mk (below_step HB2.out (below_step HBA.out hb))
       clear hcc hxe hb
       go_wp2_with (fail)
       refine hz.mono ?_
       rintro e w4 ⟨rfl, hb⟩
       have HB4 := Aside0.mk (below_step HB3.out hb)
       clear hz hb k0 k1
       go_wp2_with (fail)
       go_roundw
       case rel => exact ⟨i + 1, by go_num, by omega, HG, HB4⟩
       case measure => simp [intOf]; omega
     ·have hce2 : Gm.connB ((n : Int) + 1) (l.eraseIdx i) = false := by simpa using hce
      have HG := Aside0.mk (show bluF n l l.length 0 = bluF n l (l.length - (i + 1)) (i + 1) by rw [HF2.out, if_neg (by unfold agr; rw [hce2]; simp)])
      rw [hce2] at hcc
      clear hce hce2
      go_wp2_with (fail)
      refine hcc.mono ?_
      rintro e w3 ⟨rfl, hb⟩
      have HB3 := Aside0.mk (below_step HB2.out (below_step HBA.out hb))
      clear hcc hb
      go_wp2_with (fail)
      go_roundw
      case rel => exact ⟨i + 1, by go_num, by omega, HG, HB3⟩
      case measure => simp [intOf]; omega
    ·obtain rfl : l.length = i := by omega
     have p1 : decide ((l.length : Int) < (l.length : Int)) = false := decide_eq_false (by omega)
     go_wp2_with (fail)
     go_ret2
     rw [HU.out, HF.out, Nat.sub_self]
     exact ⟨rfl, HB.out.trans (HB0.out.mono HB.out.size)⟩
 ·have h' : Gm.connB p l = false := by simpa using h
  have HU := Aside0.mk (show blu p l = (0, false) by unfold blu; rw [if_neg (fun hh => h hh.1)])
  rw [h'] at hc0
  clear h h'
  go_enter Try.func49, Try.ntmps49
  go_wp2_with (fail)
  refine hc0.mono ?_
  rintro e w1 ⟨rfl, hb1⟩
  have HB1 := Aside0.mk (below_step HB.out hb1)
  clear hb1 hc0
  go_wp2_with (fail)
  go_ret2
  rw [HU.out]
  exact ⟨rfl, HB1.out⟩
end Go.Proofs.Ytkafbmanmffliaa.Bl1

