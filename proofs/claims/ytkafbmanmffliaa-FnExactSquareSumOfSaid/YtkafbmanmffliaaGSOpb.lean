/- Parts of the proof that the law of this seat holds: Vb1, Sp3, Va11, Va12, Ex2, Va10, Q91, Va15, Va18, Va3, Va7, PuI, PuEx, Gz, Sb, Ex3, PuSq, LwSO. -/
import Derived.Test.YtkafbmanmffliaaGBpa
import Derived.Test.YtkafbmanmffliaaGBpb
import Derived.Test.YtkafbmanmffliaaGBpc
import Derived.Test.YtkafbmanmffliaaGSOpa
import Derived.Test.YtkafbmanmffliaaGBpm
import Derived.Test.YtkafbmanmffliaaGBpn
set_option linter.unusedVariables false
set_option linter.unusedSimpArgs false
namespace Go.Proofs.Ytkafbmanmffliaa.Q
open Go.RowKit YtkafbmanmffliaaW.PrintWords YtkafbmanmffliaaW.PrintLast YtkafbmanmffliaaW.PrintMore
attribute [local go_sem] max2_int min2_int max_two min_two max_three min_three max_four min_four
set_option linter.unusedVariables false
set_option linter.unusedSimpArgs false
def spec_SquareSumOf.l0 : Nat → Int → List Int → Int → Int → Int → List (S32) → Option (Int × Int × Bool)
 | 0, _, _, _, _, _, _ => none
 | k + 1, x5, x6, x7, x8, x288000, x288001 => if x8 < (x6.length : Int) then (if 0 ≤ x8 then (if x8 < (x288001.length : Int) then (spec_SquareSumOf.l0 k x5 x6 (wrap64 (x7 + (wrap64 ((wrap64 (((rd_T32 x288001 x8).f3) * (rd x6 x8))) * (rd x6 x8))))) (wrap64 (x8 + 1)) x288000 x288001) else (none)) else (none)) else ((spec_l10Gcd.f k x7 (wrap64 (x5 * x5))).bind fun t298 => (if t298 = 0 then (none) else (some (wrap64 (Int.tdiv x7 t298), wrap64 (Int.tdiv (wrap64 (x5 * x5)) t298), true))))
def spec_SquareSumOf.f (k : Nat) (a0_0 : Int) (l0_1 : List (S32)) : Option (Int × Int × Bool) := (spec_l10Whole.f a0_0 l0_1).bind fun bt288 => (if bt288.1 = true then ((spec_l10Residuals.f k bt288.2 l0_1).bind fun bt290 => (spec_SquareSumOf.l0 k bt290.1 bt290.2.1 0 0 bt290.2.2 l0_1)) else (some (0, 0, false)))
set_option maxHeartbeats 8000000 in
set_option maxRecDepth 100000 in
theorem spec_SquareSumOf.calls (k : Nat) (a0_0 : Int) (A0_1 : Option Addr) (c0_1 : Nat) (l0_1 : List (S32)) (r1 : Int) (r2 : Int) (r3 : Bool) (w : World) (hr0_1 : Kd.C k32 w A0_1 l0_1.length l0_1) (hc0_1 : l0_1.length ≤ c0_1) (h : spec_SquareSumOf.f k a0_0 l0_1 = some (r1, r2, r3)) :
  Calls Try.prog 42 #[.agg #[.int .i64 a0_0, .slice A0_1 l0_1.length c0_1]] w fun e w' => e = .returned (.tuple #[.int .i64 r1, .int .i64 r2, .bool r3]) ∧ Below w.heap.size w w' := by
 have hu26 := Try.underlying26
 have HR0_1 := Aside0.mk hr0_1
 have HC0_1 := Aside0.mk hc0_1
 clear hr0_1 hc0_1
 have HB := Aside0.mk (Below.refl w.heap.size w)
 have H : ((spec_l10Whole.f a0_0 l0_1).bind fun bt288 => (if bt288.1 = true then ((spec_l10Residuals.f k bt288.2 l0_1).bind fun bt290 => (spec_SquareSumOf.l0 k bt290.1 bt290.2.1 0 0 bt290.2.2 l0_1)) else (some (0, 0, false)))) = some (r1, r2, r3) := h
 clear h
 replace H := Option.bind_eq_some_iff.mp H
 obtain ⟨⟨t288, t289⟩, A20, H⟩ := H
 replace H : (if t288 = true then ((spec_l10Residuals.f k t289 l0_1).bind fun bt290 => (spec_SquareSumOf.l0 k bt290.1 bt290.2.1 0 0 bt290.2.2 l0_1)) else (some (0, 0, false))) = some (r1, r2, r3) := H
 have A2 := Aside0.mk A20
 clear A20
 by_cases c3 : t288 = true
 ·subst c3
  have H1 : ((spec_l10Residuals.f k t289 l0_1).bind fun bt290 => (spec_SquareSumOf.l0 k bt290.1 bt290.2.1 0 0 bt290.2.2 l0_1)) = some (r1, r2, r3) := by rw [if_pos rfl] at H; exact H
  clear H
  have H := H1
  clear H1
  replace H := Option.bind_eq_some_iff.mp H
  obtain ⟨⟨t290, t291, t294⟩, A40, H⟩ := H
  replace H : (spec_SquareSumOf.l0 k t290 t291 0 0 t294 l0_1) = some (r1, r2, r3) := H
  have A4 := Aside0.mk A40
  clear A40
  have H' := Aside0.mk H
  clear H
  go_enter Try.func42, Try.ntmps42
  go_wp2_with (first | ((with_reducible refine gate_dst (N := 1) rfl ?_); refine box_event ?hg (N := 1) ?hd (cs := #[.int .i64 a0_0, .slice A0_1 l0_1.length c0_1]) (t := 26) ?hr ?_; (case hd => rfl); (case hg => rfl); (case hr => first | (go_simp; done) | (go_simp; rfl)); intro gb287 hg w5 hbox hb; have n0_ := Aside0.mk (below_step (by repeat (first | (with_reducible first | exact HB.out | apply below_alloc | apply pw_below_drewN | apply below_drew1) | exact HB.out)) hb); have n1_ := Aside0.mk ((by rw [hg]; exact (below_size (by repeat (first | (with_reducible first | exact HB.out | apply below_alloc | apply pw_below_drewN | apply below_drew1) | exact HB.out))) : w.heap.size ≤ gb287)); have n2_ := Aside0.mk ((by rw [hg]; exact (below_size (by repeat (first | (with_reducible first | exact HB.out | apply below_alloc | apply pw_below_drewN | apply below_drew1) | exact HB.out))) : w.heap.size ≤ gb287)); have n3_ := Aside0.mk ((⟨A0_1, c0_1, hbox, (by rw [hg]; exact (below_size (by repeat (first | (with_reducible first | exact HB.out | apply below_alloc | apply pw_below_drewN | apply below_drew1) | exact HB.out)))), HR0_1.out⟩ : IsS26 w w5 gb287 a0_0 l0_1)); clear HB; have HB := n0_; have GW287 := n1_; have GE287 := n2_; have HI287 := n3_; clear n0_ n1_ n2_ n3_; clear hb hbox hg) | (go_at_call 58; (with_reducible refine (spec_l10Whole.calls gb287 a0_0 l0_1 true t289 w _ ?side1 ?side2 A2.out).mono ?_); (case side1 => repeat (first | (with_reducible first | exact HI287.out | apply IsS26.alloc | apply IsS26.drewN | apply IsS26.drew | apply IsS26.set_0) | exact HI287.out)); (case side2 => repeat (first | (with_reducible first | exact HB.out | apply below_alloc | apply pw_below_drewN | apply below_drew1 | refine below_set ?_ (IsS26.ge HI287.out)) | exact HB.out)); rintro e w6 ⟨rfl, hi, hb, hk⟩; have n0_ := Aside0.mk (hb); have n1_ := Aside0.mk (hi); clear HB; clear HI287; have HB := n0_; have HI287 := n1_; clear n0_ n1_; (try clear hb); (try clear hb2); (try clear hk); (try clear hi)) | (go_at_call 83; (with_reducible refine (spec_l10Residuals.calls k gb287 t289 l0_1 t290 t291 t294 w _ ?side1 ?side2 A4.out).mono ?_); (case side1 => repeat (first | (with_reducible first | exact HI287.out | apply IsS26.alloc | apply IsS26.drewN | apply IsS26.drew | apply IsS26.set_0) | exact HI287.out)); (case side2 => repeat (first | (with_reducible first | exact HB.out | apply below_alloc | apply pw_below_drewN | apply below_drew1 | refine below_set ?_ (IsS26.ge HI287.out)) | exact HB.out)); rintro e w7 ⟨v292, rfl, ho0, hi, hb, hk⟩; have n0_ := Aside0.mk (Kd.R_lower ho0 (below_size (by repeat (first | (with_reducible first | exact HB.out | apply below_alloc | apply pw_below_drewN | apply below_drew1 | refine below_set ?_ (IsS26.ge HI287.out)) | exact HB.out)))); have n1_ := Aside0.mk (hb); have n2_ := Aside0.mk (hi); clear HB; clear HI287; have HO293 := n0_; have HB := n1_; have HI287 := n2_; clear n0_ n1_ n2_; (try clear hb); (try clear hb2); (try clear hk); (try clear hi); (try clear ho0)))
  repeat (go_quiet (first | ((with_reducible refine gate_dst (N := 1) rfl ?_); refine box_event ?hg (N := 1) ?hd (cs := #[.int .i64 a0_0, .slice A0_1 l0_1.length c0_1]) (t := 26) ?hr ?_; (case hd => rfl); (case hg => rfl); (case hr => first | (go_simp; done) | (go_simp; rfl)); intro gb287 hg w5 hbox hb; have n0_ := Aside0.mk (below_step (by repeat (first | (with_reducible first | exact HB.out | apply below_alloc | apply pw_below_drewN | apply below_drew1) | exact HB.out)) hb); have n1_ := Aside0.mk ((by rw [hg]; exact (below_size (by repeat (first | (with_reducible first | exact HB.out | apply below_alloc | apply pw_below_drewN | apply below_drew1) | exact HB.out))) : w.heap.size ≤ gb287)); have n2_ := Aside0.mk ((by rw [hg]; exact (below_size (by repeat (first | (with_reducible first | exact HB.out | apply below_alloc | apply pw_below_drewN | apply below_drew1) | exact HB.out))) : w.heap.size ≤ gb287)); have n3_ := Aside0.mk ((⟨A0_1, c0_1, hbox, (by rw [hg]; exact (below_size (by repeat (first | (with_reducible first | exact HB.out | apply below_alloc | apply pw_below_drewN | apply below_drew1) | exact HB.out)))), HR0_1.out⟩ : IsS26 w w5 gb287 a0_0 l0_1)); clear HB; have HB := n0_; have GW287 := n1_; have GE287 := n2_; have HI287 := n3_; clear n0_ n1_ n2_ n3_; clear hb hbox hg) | (go_at_call 58; (with_reducible refine (spec_l10Whole.calls gb287 a0_0 l0_1 true t289 w _ ?side1 ?side2 A2.out).mono ?_); (case side1 => repeat (first | (with_reducible first | exact HI287.out | apply IsS26.alloc | apply IsS26.drewN | apply IsS26.drew | apply IsS26.set_0) | exact HI287.out)); (case side2 => repeat (first | (with_reducible first | exact HB.out | apply below_alloc | apply pw_below_drewN | apply below_drew1 | refine below_set ?_ (IsS26.ge HI287.out)) | exact HB.out)); rintro e w6 ⟨rfl, hi, hb, hk⟩; have n0_ := Aside0.mk (hb); have n1_ := Aside0.mk (hi); clear HB; clear HI287; have HB := n0_; have HI287 := n1_; clear n0_ n1_; (try clear hb); (try clear hb2); (try clear hk); (try clear hi)) | (go_at_call 83; (with_reducible refine (spec_l10Residuals.calls k gb287 t289 l0_1 t290 t291 t294 w _ ?side1 ?side2 A4.out).mono ?_); (case side1 => repeat (first | (with_reducible first | exact HI287.out | apply IsS26.alloc | apply IsS26.drewN | apply IsS26.drew | apply IsS26.set_0) | exact HI287.out)); (case side2 => repeat (first | (with_reducible first | exact HB.out | apply below_alloc | apply pw_below_drewN | apply below_drew1 | refine below_set ?_ (IsS26.ge HI287.out)) | exact HB.out)); rintro e w7 ⟨v292, rfl, ho0, hi, hb, hk⟩; have n0_ := Aside0.mk (Kd.R_lower ho0 (below_size (by repeat (first | (with_reducible first | exact HB.out | apply below_alloc | apply pw_below_drewN | apply below_drew1 | refine below_set ?_ (IsS26.ge HI287.out)) | exact HB.out)))); have n1_ := Aside0.mk (hb); have n2_ := Aside0.mk (hi); clear HB; clear HI287; have HO293 := n0_; have HB := n1_; have HI287 := n2_; clear n0_ n1_ n2_; (try clear hb); (try clear hb2); (try clear hk); (try clear hi); (try clear ho0))); try go_wp2_with (first | ((with_reducible refine gate_dst (N := 1) rfl ?_); refine box_event ?hg (N := 1) ?hd (cs := #[.int .i64 a0_0, .slice A0_1 l0_1.length c0_1]) (t := 26) ?hr ?_; (case hd => rfl); (case hg => rfl); (case hr => first | (go_simp; done) | (go_simp; rfl)); intro gb287 hg w5 hbox hb; have n0_ := Aside0.mk (below_step (by repeat (first | (with_reducible first | exact HB.out | apply below_alloc | apply pw_below_drewN | apply below_drew1) | exact HB.out)) hb); have n1_ := Aside0.mk ((by rw [hg]; exact (below_size (by repeat (first | (with_reducible first | exact HB.out | apply below_alloc | apply pw_below_drewN | apply below_drew1) | exact HB.out))) : w.heap.size ≤ gb287)); have n2_ := Aside0.mk ((by rw [hg]; exact (below_size (by repeat (first | (with_reducible first | exact HB.out | apply below_alloc | apply pw_below_drewN | apply below_drew1) | exact HB.out))) : w.heap.size ≤ gb287)); have n3_ := Aside0.mk ((⟨A0_1, c0_1, hbox, (by rw [hg]; exact (below_size (by repeat (first | (with_reducible first | exact HB.out | apply below_alloc | apply pw_below_drewN | apply below_drew1) | exact HB.out)))), HR0_1.out⟩ : IsS26 w w5 gb287 a0_0 l0_1)); clear HB; have HB := n0_; have GW287 := n1_; have GE287 := n2_; have HI287 := n3_; clear n0_ n1_ n2_ n3_; clear hb hbox hg) | (go_at_call 58; (with_reducible refine (spec_l10Whole.calls gb287 a0_0 l0_1 true t289 w _ ?side1 ?side2 A2.out).mono ?_); (case side1 => repeat (first | (with_reducible first | exact HI287.out | apply IsS26.alloc | apply IsS26.drewN | apply IsS26.drew | apply IsS26.set_0) | exact HI287.out)); (case side2 => repeat (first | (with_reducible first | exact HB.out | apply below_alloc | apply pw_below_drewN | apply below_drew1 | refine below_set ?_ (IsS26.ge HI287.out)) | exact HB.out)); rintro e w6 ⟨rfl, hi, hb, hk⟩; have n0_ := Aside0.mk (hb); have n1_ := Aside0.mk (hi); clear HB; clear HI287; have HB := n0_; have HI287 := n1_; clear n0_ n1_; (try clear hb); (try clear hb2); (try clear hk); (try clear hi)) | (go_at_call 83; (with_reducible refine (spec_l10Residuals.calls k gb287 t289 l0_1 t290 t291 t294 w _ ?side1 ?side2 A4.out).mono ?_); (case side1 => repeat (first | (with_reducible first | exact HI287.out | apply IsS26.alloc | apply IsS26.drewN | apply IsS26.drew | apply IsS26.set_0) | exact HI287.out)); (case side2 => repeat (first | (with_reducible first | exact HB.out | apply below_alloc | apply pw_below_drewN | apply below_drew1 | refine below_set ?_ (IsS26.ge HI287.out)) | exact HB.out)); rintro e w7 ⟨v292, rfl, ho0, hi, hb, hk⟩; have n0_ := Aside0.mk (Kd.R_lower ho0 (below_size (by repeat (first | (with_reducible first | exact HB.out | apply below_alloc | apply pw_below_drewN | apply below_drew1 | refine below_set ?_ (IsS26.ge HI287.out)) | exact HB.out)))); have n1_ := Aside0.mk (hb); have n2_ := Aside0.mk (hi); clear HB; clear HI287; have HO293 := n0_; have HB := n1_; have HI287 := n2_; clear n0_ n1_ n2_; (try clear hb); (try clear hb2); (try clear hk); (try clear hi); (try clear ho0))))
  go_loopg [7, 8] k (fun kq v7 v8 w' => ∃ (x7_1 : Int) (x8_1 : Int), v7 = .int .i64 x7_1 ∧ v8 = .int .i64 x8_1 ∧ Aside0 (spec_SquareSumOf.l0 kq t290 t291 x7_1 x8_1 t294 l0_1 = some (r1, r2, r3)) ∧ Aside0 (kq ≤ k) ∧ Aside0 (Kd.R (Kd.int .i64) 2 w' w.heap.size (fun _ => True) v292 t291) ∧ Aside0 (IsS26 w w' gb287 t294 l0_1) ∧ Aside0 (Below w.heap.size w w'))
  case atStart => exact ⟨(0), (0), (by first | rfl | (simp; done) | (simp [*]; done)), (by first | rfl | (simp; done) | (simp [*]; done)), H', ⟨Nat.le_refl _⟩, ⟨by (with_reducible repeat (first | apply Kd.R_alloc | apply Kd.R_drewN | apply Kd.R_drew)); exact HO293.out⟩, ⟨by repeat (first | (with_reducible first | exact HI287.out | apply IsS26.alloc | apply IsS26.drewN | apply IsS26.drew | apply IsS26.set_0) | exact HI287.out)⟩, ⟨by repeat (first | (with_reducible first | exact HB.out | apply below_alloc | apply pw_below_drewN | apply below_drew1 | refine below_set ?_ (IsS26.ge HI287.out)) | exact HB.out)⟩⟩
  case round =>
   clear H'
   try clear p2
   try clear c3
   try clear c4
   obtain ⟨x7_1, x8_1, rfl, rfl, HA, HK1, HO_6, HI287, HB⟩ := hrel
   cases gk with
   | zero => exact absurd HA.out (by simp [spec_SquareSumOf.l0])
   | succ k1 =>
    have H := HA.out
    clear HA
    simp only [spec_SquareSumOf.l0] at H
    by_cases c8 : x8_1 < (t291.length : Int)
    ·rw [if_pos c8] at H
     have c8b0 : decide (x8_1 < (t291.length : Int)) = true := decide_eq_true c8
     clear c8
     by_cases c9 : 0 ≤ x8_1
     ·rw [if_pos c9] at H
      have c9b0 : decide (0 ≤ x8_1) = true := decide_eq_true c9
      clear c9
      by_cases c10 : x8_1 < (l0_1.length : Int)
      ·rw [if_pos c10] at H
       have c10b0 : decide (x8_1 < (l0_1.length : Int)) = true := decide_eq_true c10
       clear c10
       have H' := Aside0.mk H
       clear H
       obtain ⟨Ao11, co11, eo11⟩ := Kd.R_slice HO_6.out
       subst eo11
       obtain ⟨ASz12_1, cSz12_1, HGz12, hgz12, HSz12_1⟩ := HI287.out
       have hcz12_0 := cellS26_0 HGz12
       have hcz12_1 := cellS26_1 HGz12
       have hfz12_0 := blk_frozen HGz12 0
       clear HGz12 hgz12
       have p295 : 0 ≤ (x8_1 : Int) := of_decide_eq_true (by first | (with_reducible assumption) | assumption)
       have q295 : x8_1 < (l0_1.length : Int) := of_decide_eq_true (by first | (with_reducible assumption) | assumption)
       obtain ⟨ad295, e295, hx295_0, hx295_1, hx295_2, hx295_3⟩ := at_T32 HSz12_1 x8_1 p295 q295
       cases e295
       replace hx295_0 := pw_cell_below HB.out hx295_0
       replace hx295_1 := pw_cell_below HB.out hx295_1
       replace hx295_2 := pw_cell_below HB.out hx295_2
       replace hx295_3 := pw_cell_below HB.out hx295_3
       replace p295 := eq_true p295
       replace q295 := eq_true q295
       have p296 : 0 ≤ (x8_1 : Int) := of_decide_eq_true (by first | (with_reducible assumption) | assumption)
       have q296 : x8_1 < (t291.length : Int) := of_decide_eq_true (by first | (with_reducible assumption) | assumption)
       obtain ⟨ad296, e296, hx296_0⟩ := Kd.at_int (Kd.R_reads' HO_6.out).2.2 x8_1 p296 q296
       cases e296
       replace p296 := eq_true p296
       replace q296 := eq_true q296
       have p297 : 0 ≤ (x8_1 : Int) := of_decide_eq_true (by first | (with_reducible assumption) | assumption)
       have q297 : x8_1 < (t291.length : Int) := of_decide_eq_true (by first | (with_reducible assumption) | assumption)
       obtain ⟨ad297, e297, hx297_0⟩ := Kd.at_int (Kd.R_reads' HO_6.out).2.2 x8_1 p297 q297
       obtain rfl : ad296 = ad297 := (by injection e297)
       replace p297 := eq_true p297
       replace q297 := eq_true q297
       go_wp2
       repeat (go_quiet (fail); try go_wp2)
       go_roundg k1
       case measure => have := HK1.out; omega
       case rel => exact ⟨(wrap64 (x7_1 + (wrap64 ((wrap64 (((rd_T32 l0_1 x8_1).f3) * (rd t291 x8_1))) * (rd t291 x8_1))))), (wrap64 (x8_1 + 1)), (by first | rfl | (simp; done) | (simp [*]; done)), (by first | rfl | (simp; done) | (simp [*]; done)), H', ⟨by have := HK1.out; omega⟩, ⟨by (with_reducible repeat (first | apply Kd.R_alloc | apply Kd.R_drewN | apply Kd.R_drew)); exact HO_6.out⟩, ⟨by repeat (first | (with_reducible first | exact HI287.out | apply IsS26.alloc | apply IsS26.drewN | apply IsS26.drew | apply IsS26.set_0) | exact HI287.out)⟩, ⟨by repeat (first | (with_reducible first | exact HB.out | apply below_alloc | apply pw_below_drewN | apply below_drew1 | refine below_set ?_ (IsS26.ge HI287.out)) | exact HB.out)⟩⟩
      ·rw [if_neg c10] at H
       exact absurd H (by simp)
     ·rw [if_neg c9] at H
      exact absurd H (by simp)
    ·rw [if_neg c8] at H
     have c8b0 : decide (x8_1 < (t291.length : Int)) = false := decide_eq_false c8
     clear c8
     replace H := Option.bind_eq_some_iff.mp H
     obtain ⟨t298, A130, H⟩ := H
     replace H : (if t298 = 0 then (none) else (some (wrap64 (Int.tdiv x7_1 t298), wrap64 (Int.tdiv (wrap64 (t290 * t290)) t298), true))) = some (r1, r2, r3) := H
     have A13 := Aside0.mk A130
     clear A130
     by_cases c14 : t298 = 0
     ·rw [if_pos c14] at H
      exact absurd H (by simp)
     ·rw [if_neg c14] at H
      have c14b0 : (t298 == 0) = false := beq_eq_false_iff_ne.mpr c14
      have c14b1 : (t298 != 0) = true := bne_iff_ne.mpr c14
      simp only [Option.some.injEq, Prod.mk.injEq] at H
      obtain ⟨rfl, rfl, rfl⟩ := H
      obtain ⟨Ao15, co15, eo15⟩ := Kd.R_slice HO_6.out
      subst eo15
      go_wp2_with (first | (go_at_call 84; (with_reducible refine (spec_l10Gcd.calls k1 x7_1 (wrap64 (t290 * t290)) t298 _ A13.out).mono ?_); rintro e w' ⟨rfl, ⟨nd, rfl⟩⟩; (try first | exact ⟨rfl, _, World.drewN_drewN _ _ _⟩ | exact ⟨rfl, _, Eq.trans (World.drewN_drewN _ _ _) (congrArg (World.drewN _) (Nat.add_assoc _ _ _))⟩)))
      repeat (go_quiet (first | (go_at_call 84; (with_reducible refine (spec_l10Gcd.calls k1 x7_1 (wrap64 (t290 * t290)) t298 _ A13.out).mono ?_); rintro e w' ⟨rfl, ⟨nd, rfl⟩⟩; (try first | exact ⟨rfl, _, World.drewN_drewN _ _ _⟩ | exact ⟨rfl, _, Eq.trans (World.drewN_drewN _ _ _) (congrArg (World.drewN _) (Nat.add_assoc _ _ _))⟩))); try go_wp2_with (first | (go_at_call 84; (with_reducible refine (spec_l10Gcd.calls k1 x7_1 (wrap64 (t290 * t290)) t298 _ A13.out).mono ?_); rintro e w' ⟨rfl, ⟨nd, rfl⟩⟩; (try first | exact ⟨rfl, _, World.drewN_drewN _ _ _⟩ | exact ⟨rfl, _, Eq.trans (World.drewN_drewN _ _ _) (congrArg (World.drewN _) (Nat.add_assoc _ _ _))⟩))))
      go_ret3
      exact ⟨by first | rfl | (simp [errW_none, errW_some] <;> rfl) | (simp [*, errW_none, errW_some] <;> rfl), by repeat (first | (with_reducible first | exact HB.out | apply below_alloc | apply pw_below_drewN | apply below_drew1 | refine below_set ?_ (IsS26.ge HI287.out)) | exact HB.out)⟩
 ·replace c3 := Bool.eq_false_iff.mpr c3
  subst c3
  have H1 : (some (0, 0, false)) = some (r1, r2, r3) := by rw [if_neg (show ¬ (false = true) by decide)] at H; exact H
  clear H
  have H := H1
  clear H1
  simp only [Option.some.injEq, Prod.mk.injEq] at H
  obtain ⟨rfl, rfl, rfl⟩ := H
  go_enter Try.func42, Try.ntmps42
  go_wp2_with (first | ((with_reducible refine gate_dst (N := 1) rfl ?_); refine box_event ?hg (N := 1) ?hd (cs := #[.int .i64 a0_0, .slice A0_1 l0_1.length c0_1]) (t := 26) ?hr ?_; (case hd => rfl); (case hg => rfl); (case hr => first | (go_simp; done) | (go_simp; rfl)); intro gb287 hg w16 hbox hb; have n0_ := Aside0.mk (below_step (by repeat (first | (with_reducible first | exact HB.out | apply below_alloc | apply pw_below_drewN | apply below_drew1) | exact HB.out)) hb); have n1_ := Aside0.mk ((by rw [hg]; exact (below_size (by repeat (first | (with_reducible first | exact HB.out | apply below_alloc | apply pw_below_drewN | apply below_drew1) | exact HB.out))) : w.heap.size ≤ gb287)); have n2_ := Aside0.mk ((by rw [hg]; exact (below_size (by repeat (first | (with_reducible first | exact HB.out | apply below_alloc | apply pw_below_drewN | apply below_drew1) | exact HB.out))) : w.heap.size ≤ gb287)); have n3_ := Aside0.mk ((⟨A0_1, c0_1, hbox, (by rw [hg]; exact (below_size (by repeat (first | (with_reducible first | exact HB.out | apply below_alloc | apply pw_below_drewN | apply below_drew1) | exact HB.out)))), HR0_1.out⟩ : IsS26 w w16 gb287 a0_0 l0_1)); clear HB; have HB := n0_; have GW287 := n1_; have GE287 := n2_; have HI287 := n3_; clear n0_ n1_ n2_ n3_; clear hb hbox hg) | (go_at_call 58; (with_reducible refine (spec_l10Whole.calls gb287 a0_0 l0_1 false t289 w _ ?side1 ?side2 A2.out).mono ?_); (case side1 => repeat (first | (with_reducible first | exact HI287.out | apply IsS26.alloc | apply IsS26.drewN | apply IsS26.drew | apply IsS26.set_0) | exact HI287.out)); (case side2 => repeat (first | (with_reducible first | exact HB.out | apply below_alloc | apply pw_below_drewN | apply below_drew1 | refine below_set ?_ (IsS26.ge HI287.out)) | exact HB.out)); rintro e w17 ⟨rfl, hi, hb, hk⟩; have n0_ := Aside0.mk (hb); have n1_ := Aside0.mk (hi); clear HB; clear HI287; have HB := n0_; have HI287 := n1_; clear n0_ n1_; (try clear hb); (try clear hb2); (try clear hk); (try clear hi)))
  repeat (go_quiet (first | ((with_reducible refine gate_dst (N := 1) rfl ?_); refine box_event ?hg (N := 1) ?hd (cs := #[.int .i64 a0_0, .slice A0_1 l0_1.length c0_1]) (t := 26) ?hr ?_; (case hd => rfl); (case hg => rfl); (case hr => first | (go_simp; done) | (go_simp; rfl)); intro gb287 hg w16 hbox hb; have n0_ := Aside0.mk (below_step (by repeat (first | (with_reducible first | exact HB.out | apply below_alloc | apply pw_below_drewN | apply below_drew1) | exact HB.out)) hb); have n1_ := Aside0.mk ((by rw [hg]; exact (below_size (by repeat (first | (with_reducible first | exact HB.out | apply below_alloc | apply pw_below_drewN | apply below_drew1) | exact HB.out))) : w.heap.size ≤ gb287)); have n2_ := Aside0.mk ((by rw [hg]; exact (below_size (by repeat (first | (with_reducible first | exact HB.out | apply below_alloc | apply pw_below_drewN | apply below_drew1) | exact HB.out))) : w.heap.size ≤ gb287)); have n3_ := Aside0.mk ((⟨A0_1, c0_1, hbox, (by rw [hg]; exact (below_size (by repeat (first | (with_reducible first | exact HB.out | apply below_alloc | apply pw_below_drewN | apply below_drew1) | exact HB.out)))), HR0_1.out⟩ : IsS26 w w16 gb287 a0_0 l0_1)); clear HB; have HB := n0_; have GW287 := n1_; have GE287 := n2_; have HI287 := n3_; clear n0_ n1_ n2_ n3_; clear hb hbox hg) | (go_at_call 58; (with_reducible refine (spec_l10Whole.calls gb287 a0_0 l0_1 false t289 w _ ?side1 ?side2 A2.out).mono ?_); (case side1 => repeat (first | (with_reducible first | exact HI287.out | apply IsS26.alloc | apply IsS26.drewN | apply IsS26.drew | apply IsS26.set_0) | exact HI287.out)); (case side2 => repeat (first | (with_reducible first | exact HB.out | apply below_alloc | apply pw_below_drewN | apply below_drew1 | refine below_set ?_ (IsS26.ge HI287.out)) | exact HB.out)); rintro e w17 ⟨rfl, hi, hb, hk⟩; have n0_ := Aside0.mk (hb); have n1_ := Aside0.mk (hi); clear HB; clear HI287; have HB := n0_; have HI287 := n1_; clear n0_ n1_; (try clear hb); (try clear hb2); (try clear hk); (try clear hi))); try go_wp2_with (first | ((with_reducible refine gate_dst (N := 1) rfl ?_); refine box_event ?hg (N := 1) ?hd (cs := #[.int .i64 a0_0, .slice A0_1 l0_1.length c0_1]) (t := 26) ?hr ?_; (case hd => rfl); (case hg => rfl); (case hr => first | (go_simp; done) | (go_simp; rfl)); intro gb287 hg w16 hbox hb; have n0_ := Aside0.mk (below_step (by repeat (first | (with_reducible first | exact HB.out | apply below_alloc | apply pw_below_drewN | apply below_drew1) | exact HB.out)) hb); have n1_ := Aside0.mk ((by rw [hg]; exact (below_size (by repeat (first | (with_reducible first | exact HB.out | apply below_alloc | apply pw_below_drewN | apply below_drew1) | exact HB.out))) : w.heap.size ≤ gb287)); have n2_ := Aside0.mk ((by rw [hg]; exact (below_size (by repeat (first | (with_reducible first | exact HB.out | apply below_alloc | apply pw_below_drewN | apply below_drew1) | exact HB.out))) : w.heap.size ≤ gb287)); have n3_ := Aside0.mk ((⟨A0_1, c0_1, hbox, (by rw [hg]; exact (below_size (by repeat (first | (with_reducible first | exact HB.out | apply below_alloc | apply pw_below_drewN | apply below_drew1) | exact HB.out)))), HR0_1.out⟩ : IsS26 w w16 gb287 a0_0 l0_1)); clear HB; have HB := n0_; have GW287 := n1_; have GE287 := n2_; have HI287 := n3_; clear n0_ n1_ n2_ n3_; clear hb hbox hg) | (go_at_call 58; (with_reducible refine (spec_l10Whole.calls gb287 a0_0 l0_1 false t289 w _ ?side1 ?side2 A2.out).mono ?_); (case side1 => repeat (first | (with_reducible first | exact HI287.out | apply IsS26.alloc | apply IsS26.drewN | apply IsS26.drew | apply IsS26.set_0) | exact HI287.out)); (case side2 => repeat (first | (with_reducible first | exact HB.out | apply below_alloc | apply pw_below_drewN | apply below_drew1 | refine below_set ?_ (IsS26.ge HI287.out)) | exact HB.out)); rintro e w17 ⟨rfl, hi, hb, hk⟩; have n0_ := Aside0.mk (hb); have n1_ := Aside0.mk (hi); clear HB; clear HI287; have HB := n0_; have HI287 := n1_; clear n0_ n1_; (try clear hb); (try clear hb2); (try clear hk); (try clear hi))))
  go_ret3
  exact ⟨by first | rfl | (simp [errW_none, errW_some] <;> rfl) | (simp [*, errW_none, errW_some] <;> rfl), by repeat (first | (with_reducible first | exact HB.out | apply below_alloc | apply pw_below_drewN | apply below_drew1 | refine below_set ?_ (IsS26.ge HI287.out)) | exact HB.out)⟩
end Go.Proofs.Ytkafbmanmffliaa.Q

/- The reference's l10Redundancies. -/
namespace Go.Proofs.Ytkafbmanmffliaa.Sp3
open Go Go.RowKit YtkafbmanmffliaaW.PrintWords YtkafbmanmffliaaW.PrintLast YtkafbmanmffliaaW.PrintMore Q Gd Gf Ge Gi Hb Ha Hc Gs Gn Kc Ke Kf Gv Gw Lo2 Ex Sp2
set_option linter.unusedVariables false
set_option linter.unusedSimpArgs false
end Go.Proofs.Ytkafbmanmffliaa.Sp3

namespace Go.Proofs.Ytkafbmanmffliaa.Q
open Go.RowKit YtkafbmanmffliaaW.PrintWords YtkafbmanmffliaaW.PrintLast YtkafbmanmffliaaW.PrintMore
attribute [local go_sem] max2_int min2_int max_two min_two max_three min_three max_four min_four
set_option linter.unusedVariables false
set_option linter.unusedSimpArgs false
def spec_l10Redundancies.f (s0_0 : Int) (s0_1 : List (S32)) : Option (Int × List Int × Int) := if Gm.connB s0_0 s0_1 = true then some (Ex.redD s0_0 s0_1, Ex.redL s0_0 s0_1, s0_0) else none
end Go.Proofs.Ytkafbmanmffliaa.Q

namespace Go.Proofs.Ytkafbmanmffliaa.Q
open Go.RowKit YtkafbmanmffliaaW.PrintWords YtkafbmanmffliaaW.PrintLast YtkafbmanmffliaaW.PrintMore
attribute [local go_sem] max2_int min2_int max_two min_two max_three min_three max_four min_four
set_option linter.unusedVariables false
set_option linter.unusedSimpArgs false
def spec_RedundanciesOf.f (a0_0 : Int) (l0_1 : List (S32)) : Option (Int × List Int × Bool) := (spec_l10Whole.f a0_0 l0_1).bind fun bt415 => (if bt415.1 = true then ((spec_l10Redundancies.f bt415.2 l0_1).bind fun bt417 => (some (bt417.1, bt417.2.1, true))) else (some (0, ([] : List Int), false)))
end Go.Proofs.Ytkafbmanmffliaa.Q

/- The program's CofactorOf and RiseBetween: what they return. -/
namespace Go.Proofs.Ytkafbmanmffliaa.Ex2
open Go Go.RowKit YtkafbmanmffliaaW.PrintWords YtkafbmanmffliaaW.PrintLast YtkafbmanmffliaaW.PrintMore Q Bg Dd Bi Rt Ru Rx Ra Gd Gf Ge Hb Ha Hc Gs Gn Kc Ke Kf Gt Gu Gx Gy Gv Lo Lo2 Ex
set_option linter.unusedVariables false
set_option linter.unusedSimpArgs false
def okN (ok : Bool) (q : Rat) : Int := if ok = true then q.num else 0
def okD (ok : Bool) (q : Rat) : Int := if ok = true then (q.den : Int) else 0
def Post2 (w : World) (q : Rat) (ok : Bool) (e : Ending) (w' : World) : Prop := e = .returned (.tuple #[.int .i64 (okN ok q), .int .i64 (okD ok q), .bool ok]) ∧ Below w.heap.size w w'
def rise (n : Nat) (l : List S32) (a b : Int) : Rat := hts n l b - hts n l a
end Go.Proofs.Ytkafbmanmffliaa.Ex2

namespace Go.Proofs.Ytkafbmanmffliaa.Q
open Go.RowKit YtkafbmanmffliaaW.PrintWords YtkafbmanmffliaaW.PrintLast YtkafbmanmffliaaW.PrintMore
attribute [local go_sem] max2_int min2_int max_two min_two max_three min_three max_four min_four
set_option linter.unusedVariables false
set_option linter.unusedSimpArgs false
def spec_l10Cofactor.f (s0_0 : Int) (s0_1 : List (S32)) (a1 : Int) (a2 : Int) : Option (Int × Int × Int) := if Ex.ptsB s0_0 s0_1 a1 a2 = true then some (Ex.cofN (Ex.wp s0_0) s0_1 a1 a2, Gn.den s0_1 (Ex.wp s0_0), s0_0) else none
end Go.Proofs.Ytkafbmanmffliaa.Q

namespace Go.Proofs.Ytkafbmanmffliaa.Q
open Go.RowKit YtkafbmanmffliaaW.PrintWords YtkafbmanmffliaaW.PrintLast YtkafbmanmffliaaW.PrintMore
attribute [local go_sem] max2_int min2_int max_two min_two max_three min_three max_four min_four
set_option linter.unusedVariables false
set_option linter.unusedSimpArgs false
def spec_l10Point.f (s0_0 : Int) (s0_1 : List (S32)) (a1 : Int) : Option (Bool × Int) := (spec_l10Whole.f s0_0 s0_1).bind fun bt374 => (if bt374.1 = true then ((spec_l00In.f a1 0 (wrap64 (bt374.2 - 1))).bind fun t376 => (some (t376, bt374.2))) else (some (false, bt374.2)))
end Go.Proofs.Ytkafbmanmffliaa.Q

namespace Go.Proofs.Ytkafbmanmffliaa.Q
open Go.RowKit YtkafbmanmffliaaW.PrintWords YtkafbmanmffliaaW.PrintLast YtkafbmanmffliaaW.PrintMore
attribute [local go_sem] max2_int min2_int max_two min_two max_three min_three max_four min_four
set_option linter.unusedVariables false
set_option linter.unusedSimpArgs false
def spec_CofactorOf.j0 : Nat → Int → Int → Bool → Int → List (S32) → Option (Int × Int × Bool)
 | 0, _, _, _, _, _ => none
 | k + 1, x1, x2, x20, x476000, x476001 => if x20 = true then (some (0, 0, false)) else ((spec_l10Cofactor.f x476000 x476001 x1 x2).bind fun bt480 => ((spec_l10Lowest.f k (([bt480.1] : List Int)) bt480.2.1).bind fun bt486 => (if 0 < (bt486.2.length : Int) then (some (rd bt486.2 0, bt486.1, true)) else (none))))
def spec_CofactorOf.f (k : Nat) (a0_0 : Int) (l0_1 : List (S32)) (a1 : Int) (a2 : Int) : Option (Int × Int × Bool) := (spec_l10Point.f a0_0 l0_1 a1).bind fun bt476 => (if bt476.1 = true then ((spec_l10Point.f bt476.2 l0_1 a2).bind fun bt478 => (spec_CofactorOf.j0 k a1 a2 (!bt478.1) bt478.2 l0_1)) else (spec_CofactorOf.j0 k a1 a2 true bt476.2 l0_1))
end Go.Proofs.Ytkafbmanmffliaa.Q

namespace Go.Proofs.Ytkafbmanmffliaa.Q
open Go.RowKit YtkafbmanmffliaaW.PrintWords YtkafbmanmffliaaW.PrintLast YtkafbmanmffliaaW.PrintMore
attribute [local go_sem] max2_int min2_int max_two min_two max_three min_three max_four min_four
set_option linter.unusedVariables false
set_option linter.unusedSimpArgs false
def spec_RiseBetween.j0 : Nat → Int → Int → Bool → Int → List (S32) → Option (Int × Int × Bool)
 | 0, _, _, _, _, _ => none
 | k + 1, x1, x2, x20, x514000, x514001 => if x20 = true then (some (0, 0, false)) else ((spec_l10Adjusted.f x514000 x514001).bind fun bt518 => (if 0 ≤ x2 then (if x2 < (bt518.1.length : Int) then (if 0 ≤ x1 then (if x1 < (bt518.1.length : Int) then ((spec_l10Lowest.f k (([wrap64 ((rd bt518.1 x2) - (rd bt518.1 x1))] : List Int)) bt518.2.1).bind fun bt528 => (if 0 < (bt528.2.length : Int) then (some (rd bt528.2 0, bt528.1, true)) else (none))) else (none)) else (none)) else (none)) else (none)))
def spec_RiseBetween.f (k : Nat) (a0_0 : Int) (l0_1 : List (S32)) (a1 : Int) (a2 : Int) : Option (Int × Int × Bool) := (spec_l10Point.f a0_0 l0_1 a1).bind fun bt514 => (if bt514.1 = true then ((spec_l10Point.f bt514.2 l0_1 a2).bind fun bt516 => (spec_RiseBetween.j0 k a1 a2 (!bt516.1) bt516.2 l0_1)) else (spec_RiseBetween.j0 k a1 a2 true bt514.2 l0_1))
def spec_RiseBetween.T4 : Bool × List (List Nat × List Nat) := (true, [([], []), ([], []), ([0, 1], [0, 1]), ([2], [2]), ([], []), ([], []), ([4, 5], [4, 5]), ([6], [6]), ([3, 7], [3, 7]), ([8], [8]), ([], []), ([9, 10], [9, 10]), ([11], [11]), ([12], [12]), ([12], [12]), ([13, 11, 0, 1, 2, 3, 4, 5, 6, 7, 8, 9, 10, 11, 12, 13], [13]), ([14, 15, 0, 1, 2, 3, 4, 5, 6, 7, 8, 9, 10, 11, 12, 13, 14, 15], [14])])
def spec_RiseBetween.B4 : List Nat := [0, 0, 3, 7, 0, 0, 48, 112, 255, 511, 0, 2047, 4095, 8191, 8191, 16383, 65535]
end Go.Proofs.Ytkafbmanmffliaa.Q

namespace Go.Proofs.Ytkafbmanmffliaa.Q
open Go.RowKit YtkafbmanmffliaaW.PrintWords YtkafbmanmffliaaW.PrintLast YtkafbmanmffliaaW.PrintMore
attribute [local go_sem] max2_int min2_int max_two min_two max_three min_three max_four min_four
set_option linter.unusedVariables false
set_option linter.unusedSimpArgs false
def spec_AdjustSurvey.f (k : Nat) (a0_0 : Int) (l0_1 : List (S32)) : Option (Int × List Int × Bool) := (spec_l10Whole.f a0_0 l0_1).bind fun bt269 => (if bt269.1 = true then ((spec_l10Adjusted.f bt269.2 l0_1).bind fun bt271 => ((spec_l10Lowest.f k bt271.1 bt271.2.1).bind fun bt276 => (some (bt276.1, bt276.2, true)))) else (some (0, ([] : List Int), false)))
end Go.Proofs.Ytkafbmanmffliaa.Q

namespace Go.Proofs.Ytkafbmanmffliaa.Q
open Go.RowKit YtkafbmanmffliaaW.PrintWords YtkafbmanmffliaaW.PrintLast YtkafbmanmffliaaW.PrintMore
attribute [local go_sem] max2_int min2_int max_two min_two max_three min_three max_four min_four
set_option linter.unusedVariables false
set_option linter.unusedSimpArgs false
def spec_ResidualsOf.f (k : Nat) (a0_0 : Int) (l0_1 : List (S32)) : Option (Int × List Int × Bool) := (spec_l10Whole.f a0_0 l0_1).bind fun bt355 => (if bt355.1 = true then ((spec_l10Residuals.f k bt355.2 l0_1).bind fun bt357 => (some (bt357.1, bt357.2.1, true))) else (some (0, ([] : List Int), false)))
end Go.Proofs.Ytkafbmanmffliaa.Q

/- What the laws' helpers compute on lists of numbers: equality with itself, marks, and that marks are held. -/
namespace Go.Proofs.Ytkafbmanmffliaa.PuI
open Go.RowKit YtkafbmanmffliaaW.PrintWords Q PuS
def marked (n : Nat) : List Int := (List.range n).map fun j : Nat => (j : Int) + 1
end Go.Proofs.Ytkafbmanmffliaa.PuI

/- What the reference returns: AdjustSurvey, ResidualsOf, RedundanciesOf, CofactorOf, RiseBetween. -/
namespace Go.Proofs.Ytkafbmanmffliaa.PuEx
open Go Go.RowKit YtkafbmanmffliaaW.PrintWords YtkafbmanmffliaaW.PrintLast YtkafbmanmffliaaW.PrintMore Q Bg Dd Bi Rt Ru Rx Ra Gd Gf Ge Hb Ha Hc Gs Gn Kc Ke Kf Gt Gu Gx Gy Gv Lo Lo2 Ex Ex2 PuS PuI
set_option linter.unusedVariables false
set_option linter.unusedSimpArgs false
abbrev KB : Nat := 1099511628000
theorem whole_eq (p : Int) (l : List S32) : spec_l10Whole.f p l = some (Gm.connB p l, p) := PuT.specConn_eq p l
theorem lowest_n {n : Nat} {l : List S32} (hc : Gm.connB ((n : Int) + 1) l = true) (S : List Int) (hS : ∀ s, s ∈ S → s.natAbs < 1099511627776) (hl : S.length ≤ 8) (k : Nat) (hk : KB ≤ k) :
  spec_l10Lowest.f k S (den l n) = some (((dn n l / gcdAll (dn n l) S : Nat) : Int), lowL (dn n l) S) := by
 have h := dn_pos hc
 rw [← h.2.2]
 exact lowest_eq h.1 (by omega) hS (by omega) (by omega) k (by unfold KB at hk; omega)
theorem res_l0 {n : Nat} {l : List S32} (hc : Gm.connB ((n : Int) + 1) l = true) : ∀ (d k i : Nat), i + d = l.length → KB + d < k → ∃ z : Int, spec_l10Residuals.l0 k (nuL l (rgt n l) n) (den l n) ((l.take i).map (resN n l)) i ((n : Int) + 1) l = some (resD ((n : Int) + 1) l, resL ((n : Int) + 1) l, z) ∧ z = (n : Int) + 1 := by
 have hn := conn_n hc
 intro d
 induction d with
 | zero =>
  intro k i hi hk
  obtain ⟨k, rfl⟩ : ∃ m, k = m + 1 := ⟨k - 1, by omega⟩
  refine ⟨_, ?_, rfl⟩
  simp only [spec_l10Residuals.l0]
  rw [if_neg (by omega), List.take_of_length_le (by omega), lowest_n hc _ (fun s hs => by obtain ⟨t, ht, rfl⟩ := List.mem_map.1 hs; exact resN_size hc t ht) (by simp; omega) k (by omega)]
  simp only [Option.bind_some, resD, resL, hc, if_true, wp_eq]
 | succ d ih =>
  intro k i hi hk
  obtain ⟨k, rfl⟩ : ∃ m, k = m + 1 := ⟨k - 1, by omega⟩
  have hlt : i < l.length := by omega
  have hm : l[i] ∈ l := List.getElem_mem hlt
  have hv := mem_at (conn_v hc) _ hm
  have hr := resN_size hc _ hm
  obtain ⟨z, hz, rfl⟩ := ih k (i + 1) (by omega) (by omega)
  refine ⟨_, ?_, rfl⟩
  rw [List.take_succ_eq_append_getElem hlt, List.map_append] at hz
  have h1 := nu_size (ok_rgt hc) l[i].f1 (by omega)
  have h2 := nu_size (ok_rgt hc) l[i].f0 (by omega)
  have h3 := dn_pos hc
  have h4 := Gn.mulb (X := 100) (Y := 1073741824) (a := l[i].f2) (b := den l n) (by decide) (by decide) (by unfold Gn.Bd; omega) (by unfold Gn.Bd; omega)
  unfold Gn.Bd at h4
  simp only [spec_l10Residuals.l0, rd_mem hlt]
  rw [rd_nuL _ _ _ _ (by omega) (by omega), rd_nuL _ _ _ _ (by omega) (by omega)]
  unfold resN at hr
  obtain ⟨pr, hpr⟩ : ∃ pr, pr = l[i].f2 * den l n := ⟨_, rfl⟩
  rw [← hpr] at h4 hr ⊢
  have e : wrap64 (wrap64 (wrap64 pr - nu l (rgt n l) n l[i].f1) + nu l (rgt n l) n l[i].f0) = resN n l l[i] := by
   unfold resN
   rw [← hpr, wrap_id (x := pr) (by omega) (by omega), wrap_id (x := pr - _) (by omega) (by omega), wrap_id (by omega) (by omega)]
  rw [e, wrap_id (x := (i : Int) + 1) (by omega) (by omega)]
  have c1 : (nuL l (rgt n l) n).length = n + 1 := nuL_len _ _ _
  have c2 : ((l.take i).map (resN n l)).length = i := by simp; omega
  simp only [c1, c2]
  rw [if_pos (by omega), if_pos (by omega), if_pos (by omega), if_pos (by omega), if_pos (by omega), if_pos (by omega), if_pos (by omega)]
  exact_mod_cast hz
end Go.Proofs.Ytkafbmanmffliaa.PuEx

/- The program's weighted squares of residuals. -/
namespace Go.Proofs.Ytkafbmanmffliaa.Gz
open Go Go.RowKit YtkafbmanmffliaaW.PrintWords YtkafbmanmffliaaW.PrintLast YtkafbmanmffliaaW.PrintMore Q Bg Dd Bi Rt Ru Rx Ra Gd Gf Ge Gi Hb Ha Hc Gs Gn Ka Kc Ke Kf Gt Gu Gx Gy
set_option linter.unusedVariables false
set_option linter.unusedSimpArgs false
def sqr (n : Nat) (l : List S32) (s : S32) : Rat := (s.f3 : Rat) * (res n l s * res n l s)
theorem sm_res {n : Nat} {l : List S32} (hc : Gm.connB ((n : Int) + 1) l = true) (s : S32) (hs : s ∈ l) : Sm 95 (res n l s) := by
 have hk := ok_rgt hc
 have hv := mem_at (conn_v hc) s hs
 have h1 : Sm 31 ((s.f2 : Int) : Rat) := sm31 (by omega)
 have h2 : Sm 63 (dif (hts n l) s) := Sm.sub (sm_xs (conn_n hc).2.1 hk s.f1 (by omega) (by omega)) (sm_xs (conn_n hc).2.1 hk s.f0 (by omega) (by omega))
 exact Sm.sub h1 h2
def Oth (wz : World) (bH capH m b : Nat) (usH : List Value) (f : Nat → Rat) : Prop := Cb wz 74 bH capH usH ∧ RowF wz usH m f ∧ bH ≠ b
theorem Oth.below {wz w1 : World} {bH capH m b : Nat} {usH : List Value} {f : Nat → Rat} (h : Oth wz bH capH m b usH f) (hb : Below wz.heap.size wz w1) : Oth w1 bH capH m b usH f := ⟨h.1.below hb, h.2.1.par (Par.of_below hb), h.2.2⟩
theorem Oth.grow {wq wr w2 : World} {bH capH m b cap i g1 : Nat} {usH us : List Value} {f F : Nat → Rat} (h : Oth wr bH capH m b usH f) (hI : RowIn wq wr b cap i us F) (hat : g1 = b ∨ wr.heap.size ≤ g1) (hg : wr.grownBy w2 (some b)) : Oth w2 bH capH m g1 usH f := by
 refine ⟨h.1.kept (hg.block bH h.1.lt (fun e => h.2.2 (Option.some.inj e))), h.2.1.par (Par.grown hI.2.1 hg), ?_⟩
 have := h.1.lt
 have := h.2.2
 rcases hat with e | e <;> omega
set_option maxHeartbeats 8000000 in
set_option maxRecDepth 100000 in
theorem squares_any (n : Nat) (l : List S32) (hc : Gm.connB ((n : Int) + 1) l = true) (A : Option Addr) (c : Nat) (w : World) (hr : Kd.C k32 w A l.length l) (hcl : l.length ≤ c) :
  Calls Try.prog 67 #[.agg #[.int .i64 ((n : Int) + 1), .slice A l.length c]] w fun e w' => ∃ (b cap : Nat) (us : List Value), e = .returned (.slice (some ⟨b, 0, none⟩) l.length cap) ∧ RowIn w w' b cap l.length us (fun k => sqr n l (rd_T32 l k)) := by
 have hu26 := Try.underlying26
 have hu32 := Try.underlying32
 have hu24 := Try.underlying24
 have hu69 := Try.underlying69
 have hn := conn_n hc
 have hn4 := hn.2.1
 have hl8 := hn.2.2
 have hbx := below_alloc (Below.refl w.heap.size w) (SX ((n : Int) + 1) A l.length c)
 have HR := Aside0.mk (Kd.C_below hr hbx)
 have HX := Aside0.mk (heap_alloc_new w (SX ((n : Int) + 1) A l.length c))
 have HC := Aside0.mk hc
 have HV := Aside0.mk (conn_v hc)
 have HCL := Aside0.mk hcl
 clear hr hc hcl hn hbx
 go_enter Try.func67, Try.ntmps67
 go_wp2_with (fail)
 obtain ⟨W0, hW0⟩ : ∃ W0, W0 = w.alloc (SX ((n : Int) + 1) A l.length c) := ⟨_, rfl⟩
 have hs0 : W0.heap.size = w.heap.size + 1 := by rw [hW0]; simp
 rw [← hW0] at HR HX
 rw [← hW0]
 have HW0 := Aside0.mk hW0
 have hba := below_alloc (Below.refl W0.heap.size W0) (.cells #[] 74)
 have hrs := residuals_any n l HC.out A c (W0.alloc (.cells #[] 74)) (Kd.C_below HR.out hba) HCL.out
 have t0 := Aside0.mk (RowIn.new W0 (fun k => sqr n l (rd_T32 l k)))
 rw [hs0] at t0
 have HS0 := Aside0.mk hs0
 have HBA := Aside0.mk hba
 clear hW0 hs0 hba
 refine hrs.mono ?_
 rintro e w1 ⟨bH, capH, usH, rfl, hH⟩
 have HO := Aside0.mk (show Oth w1 bH capH l.length (w.heap.size + 1) usH (fun k => res n l (rd_T32 l k)) from ⟨hH.2.1, hH.2.2.1, by have h1 := hH.1; rw [World.size_alloc, HS0.out] at h1; omega⟩)
 have t1 := Aside0.mk (t0.out.below hH.2.2.2)
 clear hH hrs t0
 go_wp2_with (fail)
 go_loopw [3, 10] (fun v3 v10 wz => ∃ (i b cap2 : Nat) (us : List Value), v3 = .slice (some ⟨b, 0, none⟩) i cap2 ∧ v10 = .int .i64 (i : Int) ∧ i ≤ l.length ∧ Aside0 (RowIn W0 wz b cap2 i us (fun k => sqr n l (rd_T32 l k))) ∧ Aside0 (Oth wz bH capH l.length b usH (fun k => res n l (rd_T32 l k)))) (fun _ v _ => l.length - (intOf v).toNat)
 case atStart => exact ⟨0, _, 0, [], rfl, rfl, by omega, t1, HO⟩
 case round =>
  clear t1 HO
  obtain ⟨i, b, cap2, us, rfl, rfl, hi, HI, HO⟩ := hrel
  by_cases hlt : i < l.length
  ·have p1 : decide ((i : Int) < (l.length : Int)) = true := decide_eq_true (by omega)
   obtain ⟨px, e0, e1, hpx⟩ := row_at HO.out.1 HO.out.2.1 hlt
   have HPX := Aside0.mk hpx
   have hbx := blk_below HX.out HI.out.2.2.2
   have b1 : wr.cell? ⟨w.heap.size, 1, none⟩ = some (.slice A l.length c) := (blk_cell hbx 1).trans rfl
   obtain ⟨ad, e, x0, x1, x2, x3⟩ := at_T32 (Kd.C_below HR.out HI.out.2.2.2) (i : Int) (by omega) (by omega)
   subst e
   rw [Int.toNat_natCast] at x0 x1 x2 x3
   have hm : rd_T32 l i ∈ l := by simp only [rd_T32, Int.toNat_natCast]; rw [List.getD_eq_getElem?_getD, List.getElem?_eq_getElem hlt]; simp
   have hva := mem_at HV.out _ hm
   have HRE := Aside0.mk (sm_res HC.out _ hm)
   have HXF := Aside0.mk (show ((rd_T32 l i).f3 : Rat) * (res n l (rd_T32 l i) * res n l (rd_T32 l i)) = sqr n l (rd_T32 l i) from rfl)
   obtain ⟨wt, hwt⟩ : ∃ wt, wt = (rd_T32 l i).f3 := ⟨_, rfl⟩
   rw [← hwt] at x3 hva HXF
   have r0 : -9223372036854775808 ≤ wt := by omega
   have r1 : wt ≤ 9223372036854775807 := by omega
   have HRI := Aside0.mk (show Sm 31 ((wt : Int) : Rat) from sm31 (by omega))
   have i1 : (0 ≤ (i : Int)) = True := eq_true (by omega)
   have i2 : ((i : Int) < (l.length : Int)) = True := eq_true (by omega)
   have h1 := whole_any wt wr r0 r1
   clear hpx hbx hm hva hwt e1 x0 x1 x2
   go_wp2_with (fail)
   refine h1.mono ?_
   rintro e w1 ⟨p1, rfl, hp1, hz1, hb1⟩
   have HZ1 := Aside0.mk hz1
   have HB1 := Aside0.mk hb1
   have h2 := ratTimes_any px px (res n l (rd_T32 l i)) (res n l (rd_T32 l i)) 95 w1 (RI.below HPX.out hb1) (RI.below HPX.out hb1) (by omega) HRE.out HRE.out
   clear hp1 hz1 hb1 h1
   go_wp2_with (fail)
   refine h2.mono ?_
   rintro e w2 ⟨p2, rfl, hp2, hz2, hb2⟩
   have HB2 := Aside0.mk (below_step HB1.out hb2)
   have h1 := ratTimes_any p1 p2 ((wt : Int) : Rat) (res n l (rd_T32 l i) * res n l (rd_T32 l i)) 190 w2 (RI.below HZ1.out hb2) hz2 (by omega) (Sm.mono (by omega) HRI.out) (Sm.mul HRE.out HRE.out)
   clear hp2 hz2 hb2 h2
   go_wp2_with (fail)
   refine h1.mono ?_
   rintro e w3 ⟨p3, rfl, hp3, hz3, hb3⟩
   have HB3 := Aside0.mk (below_step HB2.out hb3)
   have HZ3 := Aside0.mk hz3
   clear hp3 hz3 hb3 h1
   go_wp2_with ((with_reducible refine gate_builtin (b := .append) (xs := #[.tmp 15, .tmp 27]) rfl ?_); at_builtin; refine Cb.append rfl (.tmp 15) (.tmp 27) 69 74 (.pointer none) 8 rfl Try.underlying69 info74 rfl (Pv.ptr _) (by decide) b cap2 i us (.pointer (some ⟨p3, 0, none⟩)) HI.out.len rfl rfl rfl (Pv.ptr _) (HI.out.below HB3.out).2.1 (by rw [HI.out.len]; omega) ?_; intro g1 cap1 w9 h1 h2 h3; have HN := Aside0.mk (RowIn.growF HI.out HB3.out HZ3.out h1 h2 h3 HXF.out); have HO9 := Aside0.mk ((HO.out.below HB3.out).grow (HI.out.below HB3.out) h2 h3); clear h1 h2 h3)
   go_roundw
   case rel => exact ⟨i + 1, g1, cap1, _, by go_num, by go_num, by omega, HN, HO9⟩
   case measure => simp [intOf]; omega
  ·obtain rfl : l.length = i := by omega
   have p1 : decide ((l.length : Int) < (l.length : Int)) = false := decide_eq_false (by omega)
   go_wp2_with (fail)
   go_ret
   exact ⟨b, cap2, us, rfl, HI.out.outer (by rw [HW0.out]; exact below_alloc (Below.refl _ _) _) (Below.refl _ _)⟩
end Go.Proofs.Ytkafbmanmffliaa.Gz

/- Plain: the common denominator is small, and so is the weighted sum of squares. -/
namespace Go.Proofs.Ytkafbmanmffliaa.Sb
open Go Go.RowKit YtkafbmanmffliaaW.PrintWords Q Ra Gf Gs Hb La Qf Gm Gn Ka Kc Ke Kf Gu Gy Gz Ex
set_option linter.unusedVariables false
set_option linter.unusedSimpArgs false
theorem diag (L : List Si) (h : ∀ s ∈ L, s.f ≠ s.t ∧ 1 ≤ s.w ∧ s.w ≤ 3) : 0 ≤ ent 1 1 L ∧ 0 ≤ ent 2 2 L ∧ 0 ≤ ent 3 3 L ∧ 0 ≤ ent 4 4 L ∧ ent 1 1 L + ent 2 2 L + ent 3 3 L + ent 4 4 L ≤ 6 * L.length := by
 induction L with
 | nil => simp [ent]
 | cons s r ih =>
  have h1 := h s (by simp)
  have h2 := ih (fun t ht => h t (by simp [ht]))
  simp only [ent, List.length_cons]
  unfold con
  rw [if_pos rfl, if_pos rfl, if_pos rfl, if_pos rfl]
  push_cast
  refine ⟨?_, ?_, ?_, ?_, ?_⟩
  ·split <;> omega
  ·split <;> omega
  ·split <;> omega
  ·split <;> omega
  ·have a : (if s.f = 1 ∨ s.t = 1 then s.w else 0) ≤ (if s.f = 1 then s.w else 0) + (if s.t = 1 then s.w else 0) := by split <;> split <;> split <;> omega
   have b : (if s.f = 2 ∨ s.t = 2 then s.w else 0) ≤ (if s.f = 2 then s.w else 0) + (if s.t = 2 then s.w else 0) := by split <;> split <;> split <;> omega
   have c : (if s.f = 3 ∨ s.t = 3 then s.w else 0) ≤ (if s.f = 3 then s.w else 0) + (if s.t = 3 then s.w else 0) := by split <;> split <;> split <;> omega
   have d : (if s.f = 4 ∨ s.t = 4 then s.w else 0) ≤ (if s.f = 4 then s.w else 0) + (if s.t = 4 then s.w else 0) := by split <;> split <;> split <;> omega
   have e : (if s.f = 1 then s.w else 0) + (if s.f = 2 then s.w else 0) + (if s.f = 3 then s.w else 0) + (if s.f = 4 then s.w else 0) ≤ s.w := by split <;> split <;> split <;> split <;> omega
   have f : (if s.t = 1 then s.w else 0) + (if s.t = 2 then s.w else 0) + (if s.t = 3 then s.w else 0) + (if s.t = 4 then s.w else 0) ≤ s.w := by split <;> split <;> split <;> split <;> omega
   omega
theorem mul3 {a b c : Int} (ha : 0 ≤ a) (hb : 0 ≤ b) (hc : 0 ≤ c) (h : a + b + c ≤ 48) : a * b * c ≤ 27648 := by
 have h1 := four_mul a b
 have h2 : (a + b) * (a + b) ≤ 48 * 48 := La.mul_le (by omega) (by omega) (by omega) (by omega)
 have h3 : a * b * c ≤ 576 * 48 := La.mul_le (Int.mul_nonneg ha hb) (by omega) (by omega) (by omega)
 omega
theorem den_small {n : Nat} {l : List S32} (hc : Gm.connB ((n : Int) + 1) l = true) : den l n ≤ 27648 := by
 have hn := conn_n hc
 have hm := sig_mem (conn_v hc)
 have hd := diag (sig l) (fun s hs => by have := hm s hs; omega)
 have hl : (sig l).length = l.length := by simp [sig]
 rw [hl] at hd
 have hp := fun c h => LL_E_pos hn.2.1 hc c h
 have s01 := E_symm l 1 0
 have s02 := E_symm l 2 0
 have s12 := E_symm l 2 1
 have s03 := E_symm l 3 0
 have s13 := E_symm l 3 1
 have s23 := E_symm l 3 2
 have e0 : E l 0 0 = ent 1 1 (sig l) := rfl
 have e1 : E l 1 1 = ent 2 2 (sig l) := rfl
 have e2 : E l 2 2 = ent 3 3 (sig l) := rfl
 have e3 : E l 3 3 = ent 4 4 (sig l) := rfl
 unfold den
 match n, hn, hp with
 | 1, _, _ => show E l 0 0 ≤ _; omega
 | 2, _, _ =>
  show d2 _ _ _ _ ≤ _
  rw [s01]
  have h1 := bound2 (E l 0 0) (E l 0 1) (E l 1 1)
  have h2 := four_mul (E l 0 0) (E l 1 1)
  have h3 : (E l 0 0 + E l 1 1) * (E l 0 0 + E l 1 1) ≤ 48 * 48 := La.mul_le (by omega) (by omega) (by omega) (by omega)
  omega
 | 3, _, hp =>
  have p1 : 0 < E l 0 0 := hp 1 (by decide)
  have p2 : 0 < d2 (E l 0 0) (E l 0 1) (E l 0 1) (E l 1 1) := by have := hp 2 (by decide); unfold LL at this; rwa [s01] at this
  show d3 _ _ _ _ _ _ _ _ _ ≤ _
  rw [s01, s02, s12]
  have h1 := bound3 (c := E l 0 2) (f := E l 1 2) (h := E l 2 2) p1 p2
  have h2 := bound2 (E l 0 0) (E l 0 1) (E l 1 1)
  have h3 : d2 (E l 0 0) (E l 0 1) (E l 0 1) (E l 1 1) * E l 2 2 ≤ E l 0 0 * E l 1 1 * E l 2 2 := Int.mul_le_mul_of_nonneg_right h2 (by omega)
  have h4 := mul3 (a := E l 0 0) (b := E l 1 1) (c := E l 2 2) (by omega) (by omega) (by omega) (by omega)
  omega
 | 4, _, hp =>
  have p1 : 0 < E l 0 0 := hp 1 (by decide)
  have p2 : 0 < d2 (E l 0 0) (E l 0 1) (E l 0 1) (E l 1 1) := by have := hp 2 (by decide); unfold LL at this; rwa [s01] at this
  have p3 : 0 < d3 (E l 0 0) (E l 0 1) (E l 0 2) (E l 0 1) (E l 1 1) (E l 1 2) (E l 0 2) (E l 1 2) (E l 2 2) := by have := hp 3 (by decide); unfold LL at this; rwa [s01, s02, s12] at this
  show d4 _ _ _ _ _ _ _ _ _ _ _ _ _ _ _ _ ≤ _
  rw [s01, s02, s12, s03, s13, s23]
  have h0 := bound4 (d := E l 0 3) (g := E l 1 3) (i := E l 2 3) (j := E l 3 3) p1 p2 p3
  have h1 := bound3 (c := E l 0 2) (f := E l 1 2) (h := E l 2 2) p1 p2
  have h2 := bound2 (E l 0 0) (E l 0 1) (E l 1 1)
  have h3 : d2 (E l 0 0) (E l 0 1) (E l 0 1) (E l 1 1) * E l 2 2 ≤ E l 0 0 * E l 1 1 * E l 2 2 := Int.mul_le_mul_of_nonneg_right h2 (by omega)
  have h5 : d3 (E l 0 0) (E l 0 1) (E l 0 2) (E l 0 1) (E l 1 1) (E l 1 2) (E l 0 2) (E l 1 2) (E l 2 2) * E l 3 3 ≤ E l 0 0 * E l 1 1 * E l 2 2 * E l 3 3 := Int.mul_le_mul_of_nonneg_right (by omega) (by omega)
  have h4 := diag_bound (a := E l 0 0) (e := E l 1 1) (h := E l 2 2) (j := E l 3 3) (by omega) (by omega) (by omega) (by omega) (by omega)
  omega
def sqN (n : Nat) (l : List S32) (s : S32) : Int := s.f3 * resN n l s * resN n l s
def smI {α : Type} (g : α → Int) : List α → Int
 | [] => 0
 | s :: r => g s + smI g r
theorem smI_append {α : Type} (g : α → Int) (a b : List α) : smI g (a ++ b) = smI g a + smI g b := by
 induction a with
 | nil => simp [smI]
 | cons s r ih => simp only [List.cons_append, smI, ih]; omega
theorem smI_cast {α : Type} (g : α → Int) (l : List α) : ((smI g l : Int) : Rat) = sm (fun s => (g s : Rat)) l := by
 induction l with
 | nil => rfl
 | cons s r ih => simp only [smI, sm, Rat.intCast_add, ih]
theorem smI_nonneg {α : Type} {g : α → Int} {l : List α} (h : ∀ s, s ∈ l → 0 ≤ g s) : 0 ≤ smI g l := by
 induction l with
 | nil => exact Int.le_refl _
 | cons s r ih =>
  have h1 := h s (by simp)
  have h2 := ih (fun t ht => h t (by simp [ht]))
  simp only [smI]
  omega
def ssq (n : Nat) (l : List S32) : Rat := sm (sqr n l) l
theorem sqr_mk {n : Nat} {l : List S32} (hc : Gm.connB ((n : Int) + 1) l = true) (s : S32) : sqr n l s = (sqN n l s : Rat) / ((dn n l : Int) * (dn n l : Int) : Int) := by
 have h := res_mk hc s
 rw [mkq] at h
 unfold sqr sqN
 rw [h]
 have h1 := dn_pos hc
 have h2 : (((dn n l : Nat) : Int) : Rat) ≠ 0 := by
  intro e
  have : ((dn n l : Nat) : Int) = 0 := by exact_mod_cast e
  omega
 push_cast
 grind
theorem ssq_mk {n : Nat} {l : List S32} (hc : Gm.connB ((n : Int) + 1) l = true) : ssq n l = mkRat (smI (sqN n l) l) (dn n l * dn n l) := by
 rw [mkq]
 unfold ssq
 have e : sm (sqr n l) l = (1 / (((dn n l : Int) * (dn n l : Int) : Int) : Rat)) * sm (fun s => (sqN n l s : Rat)) l := by
  rw [← sm_mul]
  refine sm_congr (fun s _ => ?_)
  rw [sqr_mk hc]
  grind
 rw [e, ← smI_cast]
 push_cast
 grind
theorem riN_le (m : List S32) (hm : ∀ s ∈ m, -100 ≤ s.f2 ∧ s.f2 ≤ 100 ∧ 1 ≤ s.f3 ∧ s.f3 ≤ 3) : smI (fun s : S32 => s.f3 * (s.f2 * s.f2)) m ≤ 30000 * m.length := by
 induction m with
 | nil => simp [smI]
 | cons s r ih =>
  have h1 := hm s (by simp)
  have h2 := ih (fun t ht => hm t (by simp [ht]))
  have h3 : s.f3 * (s.f2 * s.f2) ≤ 3 * 10000 := by
   have hb := mulb (X := 100) (Y := 100) (a := s.f2) (b := s.f2) (by decide) (by decide) (by unfold Bd; omega) (by unfold Bd; omega)
   have hnn := La.sq_nonneg' s.f2
   unfold Bd at hb
   exact La.mul_le (by omega) (by omega) (by omega) (by omega)
  simp only [smI, List.length_cons]
  omega
theorem rise_sq {n : Nat} {l : List S32} (hc : Gm.connB ((n : Int) + 1) l = true) : sm (fun s => (s.f3 : Rat) * (((s.f2 : Rat) - dif (fun _ => 0) s) * ((s.f2 : Rat) - dif (fun _ => 0) s))) l ≤ ((240000 : Int) : Rat) := by
 have hv := mem_at (conn_v hc)
 have hl := (conn_n hc).2.2
 have e : sm (fun s : S32 => (s.f3 : Rat) * (((s.f2 : Rat) - dif (fun _ => 0) s) * ((s.f2 : Rat) - dif (fun _ => 0) s))) l = ((smI (fun s : S32 => s.f3 * (s.f2 * s.f2)) l : Int) : Rat) := by
  rw [smI_cast]
  refine sm_congr (fun s _ => ?_)
  have hz : dif (fun _ => 0) s = 0 := by show (0 : Rat) - 0 = 0; grind
  rw [hz, Rat.intCast_mul, Rat.intCast_mul]
  have : (s.f2 : Rat) - 0 = (s.f2 : Rat) := by grind
  rw [this]
 rw [e]
 have h1 := riN_le l (fun s hs => by have := hv s hs; omega)
 exact Rat.intCast_le_intCast.2 (by omega)
theorem ssq_le {n : Nat} {l : List S32} (hc : Gm.connB ((n : Int) + 1) l = true) : ssq n l ≤ ((240000 : Int) : Rat) := by
 have h := least hc (fun _ => 0)
 have h2 := rise_sq hc
 exact Rat.le_trans h h2
theorem sqN_nonneg {n : Nat} {l : List S32} (hc : Gm.connB ((n : Int) + 1) l = true) (s : S32) (hs : s ∈ l) : 0 ≤ sqN n l s := by
 have hv := mem_at (conn_v hc) s hs
 unfold sqN
 rw [Int.mul_assoc]
 exact Int.mul_nonneg (by omega) (La.sq_nonneg' _)
theorem sumN_le {n : Nat} {l : List S32} (hc : Gm.connB ((n : Int) + 1) l = true) : 0 ≤ smI (sqN n l) l ∧ smI (sqN n l) l ≤ 240000 * ((dn n l : Int) * (dn n l : Int)) := by
 refine ⟨smI_nonneg (sqN_nonneg hc), ?_⟩
 have h := ssq_le hc
 rw [ssq_mk hc, mkq] at h
 have h1 := dn_pos hc
 have h3 : 0 < (dn n l : Int) * (dn n l : Int) := Int.mul_pos (by omega) (by omega)
 have h2 : (0 : Rat) < (((dn n l : Int) * (dn n l : Int) : Int) : Rat) := by exact_mod_cast h3
 obtain ⟨d, hd⟩ : ∃ d, d = (dn n l : Int) * (dn n l : Int) := ⟨_, rfl⟩
 have e : (((dn n l * dn n l : Nat) : Int) : Rat) = (d : Rat) := by rw [hd]; push_cast; rfl
 rw [← hd] at h2 ⊢
 rw [e] at h
 obtain ⟨t, ht⟩ : ∃ t, t = smI (sqN n l) l := ⟨_, rfl⟩
 rw [← ht] at h ⊢
 have h5 := Rat.mul_le_mul_of_nonneg_right h (Rat.le_of_lt h2)
 have h6 : (t : Rat) / (d : Rat) * (d : Rat) = (t : Rat) := by grind
 rw [h6, ← Rat.intCast_mul] at h5
 exact Rat.intCast_le_intCast.1 h5
end Go.Proofs.Ytkafbmanmffliaa.Sb

/- The program's SquareSumOf: what it returns. -/
namespace Go.Proofs.Ytkafbmanmffliaa.Ex3
open Go Go.RowKit YtkafbmanmffliaaW.PrintWords YtkafbmanmffliaaW.PrintLast YtkafbmanmffliaaW.PrintMore Q Bg Dd Bi Rt Ru Rx Ra Gd Gf Ge Hb Ha Hc Gs Gn Ka Kc Ke Kf Gt Gu Gz Ex Ex2 Sb
set_option linter.unusedVariables false
set_option linter.unusedSimpArgs false
def part (n : Nat) (l : List S32) (i : Nat) : Rat := sm (sqr n l) (l.take i)
theorem part_succ (n : Nat) (l : List S32) (i : Nat) (h : i < l.length) : part n l (i + 1) = part n l i + sqr n l (rd_T32 l i) := by
 unfold part
 rw [List.take_succ_eq_append_getElem h, sm_append, rd_mem h]
 simp only [sm]
 grind
theorem sm_sqr {n : Nat} {l : List S32} (hc : Gm.connB ((n : Int) + 1) l = true) (s : S32) (hs : s ∈ l) : Sm 221 (sqr n l s) := by
 have hv := mem_at (conn_v hc) s hs
 have h1 : Sm 31 ((s.f3 : Int) : Rat) := sm31 (by omega)
 have h2 := sm_res hc s hs
 exact Sm.mul h1 (Sm.mul h2 h2)
theorem sm_part {n : Nat} {l : List S32} (hc : Gm.connB ((n : Int) + 1) l = true) (i : Nat) (hi : i ≤ l.length) : Sm (1 + 222 * i) (part n l i) := by
 induction i with
 | zero => exact Sm.int (i := 1) (n := 0) (by decide) (by decide)
 | succ i ih =>
  rw [part_succ _ _ _ (by omega)]
  have h2 := sm_sqr hc (rd_T32 l i) (by rw [rd_mem (by omega)]; exact List.getElem_mem _)
  exact Sm.mono (by omega) (Sm.add (ih (by omega)) h2)
theorem ssq_size {n : Nat} {l : List S32} (hc : Gm.connB ((n : Int) + 1) l = true) : (ssq n l).num.natAbs < 2 ^ 63 ∧ (ssq n l).den < 2 ^ 63 := by
 have h1 := dn_pos hc
 have h2 := den_small hc
 have h3 := sumN_le hc
 have e63 : (2 : Nat) ^ 63 = 9223372036854775808 := by decide
 have h4 : (dn n l : Int) * (dn n l : Int) ≤ 27648 * 27648 := La.mul_le (by omega) (by omega) (by omega) (by omega)
 have h5 : 0 < (dn n l : Int) * (dn n l : Int) := Int.mul_pos (by omega) (by omega)
 obtain ⟨d, hd⟩ : ∃ d, d = dn n l * dn n l := ⟨_, rfl⟩
 have hd' : (d : Int) = (dn n l : Int) * (dn n l : Int) := by rw [hd]; push_cast; rfl
 have := sm_mk (a := smI (sqN n l) l) (d := d) (k := 63) (by omega) (by omega) (by omega)
 rw [ssq_mk hc, ← hd]
 exact this
set_option maxHeartbeats 4000000 in
set_option maxRecDepth 100000 in
theorem squareSum_any (p : Int) (l : List S32) (A : Option Addr) (c : Nat) (w : World) (hr : Kd.C k32 w A l.length l) (hcl : l.length ≤ c) (hl : l.length ≤ 1048576) :
  Calls Try.prog 25 #[.agg #[.int .i64 p, .slice A l.length c]] w (Post2 w (ssq (wp p) l) (Gm.connB p l)) := by
 unfold Post2
 have hu26 := Try.underlying26
 have hu69 := Try.underlying69
 have hbx := below_alloc (Below.refl w.heap.size w) (SX p A l.length c)
 have HR := Aside0.mk (Kd.C_below hr hbx)
 have HX := Aside0.mk (heap_alloc_new w (SX p A l.length c))
 have hc0 := conn_any p l A c (w.alloc (SX p A l.length c)) HR.out hcl hl
 have HCL := Aside0.mk hcl
 have HB := Aside0.mk hbx
 clear hr hcl hl hbx
 by_cases h : Gm.connB p l = true
 ·obtain ⟨n, rfl⟩ := conn_nat h
  have hl8 := (conn_n h).2.2
  have HC := Aside0.mk h
  have HN := Aside0.mk (show okN (Gm.connB ((n : Int) + 1) l) (ssq (wp ((n : Int) + 1)) l) = (ssq n l).num by unfold okN; rw [if_pos h, wp_eq])
  have HD := Aside0.mk (show okD (Gm.connB ((n : Int) + 1) l) (ssq (wp ((n : Int) + 1)) l) = ((ssq n l).den : Int) by unfold okD; rw [if_pos h, wp_eq])
  rw [h] at hc0 HN HD
  rw [h]
  clear h
  go_enter Try.func25, Try.ntmps25
  go_wp2_with (fail)
  refine hc0.mono ?_
  rintro e w1 ⟨rfl, hb1⟩
  have HB1 := Aside0.mk (below_step HB.out hb1)
  have HBQ := Aside0.mk hb1
  clear hb1 hc0
  go_wp2_with (fail)
  refine (whole_any 0 w1 (by decide) (by decide)).mono ?_
  rintro e w2 ⟨p2, rfl, hp2, hz2, hb2⟩
  have HZ := Aside0.mk hz2
  have HB2 := Aside0.mk (below_step HBQ.out hb2)
  have hbk := blk_below HX.out HB2.out
  have c0 : w2.cell? ⟨w.heap.size, 0, none⟩ = some (.int .i64 ((n : Int) + 1)) := (blk_cell hbk 0).trans rfl
  have c1 : w2.cell? ⟨w.heap.size, 1, none⟩ = some (.slice A l.length c) := (blk_cell hbk 1).trans rfl
  have hc1 := squares_any n l HC.out A c w2 (Kd.C_below HR.out HB2.out) HCL.out
  clear hp2 hz2 hb2 hbk
  go_wp2_with (fail)
  refine hc1.mono ?_
  rintro e w3 ⟨bH, capH, usH, rfl, hH⟩
  have HH := Aside0.mk hH
  have HB3 := Aside0.mk (HB.out.trans ((below_step HB2.out hH.2.2.2).mono (by simp)))
  have t0 := Aside0.mk (show RI w3 p2 (part n l 0) from RI.below HZ.out hH.2.2.2)
  clear hc1 hH c0 c1 HZ
  go_wp2_with (fail)
  go_loopw [5, 17] (fun v5 v17 wz => ∃ (i pz : Nat), v5 = .pointer (some ⟨pz, 0, none⟩) ∧ v17 = .int .i64 (i : Int) ∧ i ≤ l.length ∧ Aside0 (RI wz pz (part n l i)) ∧ Aside0 (Below w3.heap.size w3 wz)) (fun _ v _ => l.length - (intOf v).toNat)
  case atStart => exact ⟨0, p2, rfl, rfl, by omega, t0, ⟨Below.refl _ _⟩⟩
  case round =>
   clear t0
   obtain ⟨i, pz, rfl, rfl, hi, HZ, HBZ⟩ := hrel
   by_cases hlt : i < l.length
   ·have p1 : decide ((i : Int) < (l.length : Int)) = true := decide_eq_true (by omega)
    obtain ⟨px, e0, e1, hpx⟩ := row_at (HH.out.below HBZ.out).2.1 (HH.out.below HBZ.out).2.2.1 hlt
    have hsm := sm_part HC.out i hi
    have hsq := sm_sqr HC.out (rd_T32 l i) (by rw [rd_mem hlt]; exact List.getElem_mem _)
    have hc1 := ratPlus_any pz px (part n l i) (sqr n l (rd_T32 l i)) 2000 wr HZ.out hpx (by omega) (Sm.mono (by omega) hsm) (Sm.mono (by omega) hsq)
    have HPS := Aside0.mk (part_succ n l i hlt)
    have i1 : (0 ≤ (i : Int)) = True := eq_true (by omega)
    have i2 : ((i : Int) < (l.length : Int)) = True := eq_true (by omega)
    clear hpx hsm hsq e1
    go_wp2_with (fail)
    refine hc1.mono ?_
    rintro e w4 ⟨p4, rfl, hp4, hz4, hb4⟩
    rw [← HPS.out] at hz4
    have HZ4 := Aside0.mk hz4
    have HB4 := Aside0.mk (below_step HBZ.out hb4)
    clear hc1 hp4 hz4 hb4
    go_wp2_with (fail)
    go_roundw
    case rel => exact ⟨i + 1, p4, rfl, by go_num, by omega, HZ4, HB4⟩
    case measure => simp [intOf]; omega
   ·obtain rfl : l.length = i := by omega
    have p1 : decide ((l.length : Int) < (l.length : Int)) = false := decide_eq_false (by omega)
    have hz := HZ.out
    rw [show part n l l.length = ssq n l by unfold part ssq; rw [List.take_length]] at hz
    have hs1 := single_any pz (ssq n l) wr hz (ssq_size HC.out).1 (ssq_size HC.out).2
    clear hz
    go_wp2_with (fail)
    refine hs1.mono ?_
    rintro e w5 ⟨rfl, hb5⟩
    have HB5 := Aside0.mk (below_step HB3.out (below_step HBZ.out hb5))
    clear hs1 hb5
    go_wp2_with (fail)
    go_ret3
    rw [HN.out, HD.out]
    exact ⟨rfl, HB5.out⟩
 ·have h' : Gm.connB p l = false := by simpa using h
  have HN := Aside0.mk (show okN (Gm.connB p l) (ssq (wp p) l) = 0 by unfold okN; rw [if_neg h])
  have HD := Aside0.mk (show okD (Gm.connB p l) (ssq (wp p) l) = 0 by unfold okD; rw [if_neg h])
  rw [h'] at hc0 HN HD
  rw [h']
  clear h h'
  go_enter Try.func25, Try.ntmps25
  go_wp2_with (fail)
  refine hc0.mono ?_
  rintro e w1 ⟨rfl, hb1⟩
  have HB1 := Aside0.mk (below_step HB.out hb1)
  clear hb1 hc0
  go_wp2_with (fail)
  go_ret3
  rw [HN.out, HD.out]
  exact ⟨rfl, HB1.out⟩
end Go.Proofs.Ytkafbmanmffliaa.Ex3

/- What the reference's SquareSumOf returns. -/
namespace Go.Proofs.Ytkafbmanmffliaa.PuSq
open Go Go.RowKit YtkafbmanmffliaaW.PrintWords YtkafbmanmffliaaW.PrintLast YtkafbmanmffliaaW.PrintMore Q Bg Dd Bi Rt Ru Rx Ra Gd Gf Ge Hb Ha Hc Gs Gn Kc Ke Kf Gt Gu Gx Gy Gv Lo Lo2 Ex Ex2 PuS PuI PuEx Sb
set_option linter.unusedVariables false
set_option linter.unusedSimpArgs false
def gg (n : Nat) (l : List S32) : Nat := gcdAll (dn n l) (l.map (resN n l))
def yv (n : Nat) (l : List S32) (s : S32) : Int := resN n l s / (gg n l : Int)
theorem gg_facts {n : Nat} {l : List S32} (hc : Gm.connB ((n : Int) + 1) l = true) : 0 < gg n l ∧ (dn n l / gg n l) * gg n l = dn n l ∧ ∀ s ∈ l, yv n l s * (gg n l : Int) = resN n l s := by
 have h1 := dn_pos hc
 have h2 := gcd_dvd (l.map (resN n l)) (dn n l)
 have h3 : 0 < gg n l := Nat.pos_of_dvd_of_pos h2.1 h1.1
 refine ⟨h3, Nat.div_mul_cancel h2.1, fun s hs => ?_⟩
 unfold yv
 exact Int.ediv_mul_cancel (Int.natAbs_dvd_natAbs.1 (by rw [Int.natAbs_natCast]; exact h2.2 _ (List.mem_map.2 ⟨s, hs, rfl⟩)))
def yy (n : Nat) (l : List S32) (s : S32) : Int := s.f3 * yv n l s * yv n l s
theorem smI_congr {α : Type} {g h : α → Int} {l : List α} (e : ∀ s, s ∈ l → g s = h s) : smI g l = smI h l := by
 induction l with
 | nil => rfl
 | cons s r ih => simp only [smI, e s (by simp), ih (fun t ht => e t (by simp [ht]))]
theorem smI_mulr {α : Type} (g : α → Int) (c : Int) (l : List α) : smI (fun s => g s * c) l = smI g l * c := by
 induction l with
 | nil => simp [smI]
 | cons s r ih => simp only [smI, ih, Int.add_mul]
theorem total {n : Nat} {l : List S32} (hc : Gm.connB ((n : Int) + 1) l = true) : smI (yy n l) l * ((gg n l : Int) * (gg n l : Int)) = smI (sqN n l) l := by
 rw [← smI_mulr]
 refine smI_congr (fun s hs => ?_)
 have h := (gg_facts hc).2.2 s hs
 unfold yy sqN
 rw [← h]
 grind
theorem yy_nonneg {n : Nat} {l : List S32} (hc : Gm.connB ((n : Int) + 1) l = true) (s : S32) (hs : s ∈ l) : 0 ≤ yy n l s := by
 have hv := mem_at (conn_v hc) s hs
 unfold yy
 rw [Int.mul_assoc]
 exact Int.mul_nonneg (by omega) (La.sq_nonneg' _)
theorem low_le {n : Nat} {l : List S32} (hc : Gm.connB ((n : Int) + 1) l = true) : 0 < dn n l / gg n l ∧ dn n l / gg n l ≤ 27648 := by
 have h1 := gg_facts hc
 have h2 := dn_pos hc
 have h3 := den_small hc
 have h4 := Nat.div_le_self (dn n l) (gg n l)
 refine ⟨Nat.pos_of_ne_zero (fun e => ?_), by omega⟩
 rw [e] at h1
 omega
theorem total_le {n : Nat} {l : List S32} (hc : Gm.connB ((n : Int) + 1) l = true) : 0 ≤ smI (yy n l) l ∧ smI (yy n l) l ≤ 240000 * (27648 * 27648) := by
 have h0 := smI_nonneg (yy_nonneg hc)
 have h1 := total hc
 have h2 := sumN_le hc
 have h3 := gg_facts hc
 have h4 := dn_pos hc
 have h5 := den_small hc
 have h6 : (dn n l : Int) * (dn n l : Int) ≤ 27648 * 27648 := La.mul_le (by omega) (by omega) (by omega) (by omega)
 have h7 : (1 : Int) ≤ (gg n l : Int) * (gg n l : Int) := by
  have := Int.mul_pos (show (0 : Int) < gg n l by omega) (show (0 : Int) < gg n l by omega)
  omega
 have h8 : smI (yy n l) l * 1 ≤ smI (yy n l) l * ((gg n l : Int) * (gg n l : Int)) := Int.mul_le_mul_of_nonneg_left h7 h0
 omega
theorem part_le {n : Nat} {l : List S32} (hc : Gm.connB ((n : Int) + 1) l = true) (i : Nat) (hi : i ≤ l.length) : 0 ≤ smI (yy n l) (l.take i) ∧ smI (yy n l) (l.take i) ≤ 240000 * (27648 * 27648) := by
 have h0 := total_le hc
 have e : smI (yy n l) l = smI (yy n l) (l.take i) + smI (yy n l) (l.drop i) := by
  rw [← smI_append, List.take_append_drop]
 have h1 : 0 ≤ smI (yy n l) (l.take i) := smI_nonneg (fun s hs => yy_nonneg hc s (List.mem_of_mem_take hs))
 have h2 : 0 ≤ smI (yy n l) (l.drop i) := smI_nonneg (fun s hs => yy_nonneg hc s (List.mem_of_mem_drop hs))
 omega
theorem ssq_low {n : Nat} {l : List S32} (hc : Gm.connB ((n : Int) + 1) l = true) : ssq n l = mkRat (smI (yy n l) l) ((dn n l / gg n l) * (dn n l / gg n l)) := by
 have h1 := gg_facts hc
 have h2 := low_le hc
 have h3 := total hc
 rw [ssq_mk hc, mkq, mkq, ← h3]
 obtain ⟨d, hd⟩ : ∃ d, d = dn n l / gg n l := ⟨_, rfl⟩
 rw [← hd] at h1 h2 ⊢
 rw [← h1.2.1]
 have e1 : (((d : Nat) : Int) : Rat) ≠ 0 := by
  intro e
  have : ((d : Nat) : Int) = 0 := by exact_mod_cast e
  omega
 have e2 : (((gg n l : Nat) : Int) : Rat) ≠ 0 := by
  intro e
  have : ((gg n l : Nat) : Int) = 0 := by exact_mod_cast e
  omega
 push_cast at e1 e2 ⊢
 grind
theorem sq_l0 {n : Nat} {l : List S32} (hc : Gm.connB ((n : Int) + 1) l = true) : ∀ (d k i : Nat), i + d = l.length → KB + d < k →
  spec_SquareSumOf.l0 k (resD ((n : Int) + 1) l) (resL ((n : Int) + 1) l) (smI (yy n l) (l.take i)) i ((n : Int) + 1) l = some ((ssq n l).num, ((ssq n l).den : Int), true) := by
 have hn := conn_n hc
 have hL : resL ((n : Int) + 1) l = lowL (dn n l) (l.map (resN n l)) := by unfold resL; rw [if_pos hc, wp_eq]
 have hD : resD ((n : Int) + 1) l = ((dn n l / gg n l : Nat) : Int) := by unfold resD; rw [if_pos hc, wp_eq]; rfl
 have hLl : (resL ((n : Int) + 1) l).length = l.length := by rw [hL]; simp [lowL]
 intro d
 induction d with
 | zero =>
  intro k i hi hk
  obtain ⟨k, rfl⟩ : ∃ m, k = m + 1 := ⟨k - 1, by omega⟩
  have h2 := low_le hc
  have h3 := total_le hc
  have hkb : KB = 1099511628000 := rfl
  simp only [spec_SquareSumOf.l0]
  rw [if_neg (by omega), List.take_of_length_le (by omega), hD]
  rw [ssq_low hc]
  obtain ⟨q, hq⟩ : ∃ q, q = dn n l / gg n l := ⟨_, rfl⟩
  rw [← hq] at h2 ⊢
  obtain ⟨t, ht⟩ : ∃ t, t = smI (yy n l) l := ⟨_, rfl⟩
  rw [← ht] at h3 ⊢
  have h4 : (q : Int) * (q : Int) ≤ 27648 * 27648 := La.mul_le (by omega) (by omega) (by omega) (by omega)
  have h5 : 0 < (q : Int) * (q : Int) := Int.mul_pos (by omega) (by omega)
  have e : (q : Int) * (q : Int) = ((q * q : Nat) : Int) := by push_cast; rfl
  rw [wrap_id (by omega) (by omega), e]
  obtain ⟨m, hm⟩ : ∃ m, m = q * q := ⟨_, rfl⟩
  rw [← hm] at e ⊢
  rw [gcd_eq k t (m : Int) (by omega) (by omega) (by omega) (by omega) (by omega), Option.bind_some, Int.natAbs_natCast, Nat.gcd_comm]
  have hg : 0 < Nat.gcd m t.natAbs := Nat.gcd_pos_of_pos_left _ (by omega)
  rw [if_neg (by omega), Rat.num_mkRat, Rat.den_mkRat, if_neg (by omega), if_neg (by omega)]
  have hd1 : (Nat.gcd m t.natAbs : Int) ∣ t := Int.natAbs_dvd_natAbs.1 (by simpa using Nat.gcd_dvd_right m t.natAbs)
  rw [Int.tdiv_eq_ediv_of_dvd hd1, Int.tdiv_eq_ediv_of_nonneg (by omega), ← Int.natCast_ediv]
  have hb1 : (t / (Nat.gcd m t.natAbs : Int)).natAbs ≤ t.natAbs := by
   rw [Int.natAbs_ediv_of_dvd hd1, Int.natAbs_natCast]
   exact Nat.div_le_self _ _
  have hb2 := Nat.div_le_self m (Nat.gcd m t.natAbs)
  obtain ⟨z, hz⟩ : ∃ z, z = m / Nat.gcd m t.natAbs := ⟨_, rfl⟩
  rw [← hz] at hb2 ⊢
  rw [wrap_id (x := (z : Int)) (by omega) (by omega), wrap_id (by omega) (by omega)]
 | succ d ih =>
  intro k i hi hk
  obtain ⟨k, rfl⟩ : ∃ m, k = m + 1 := ⟨k - 1, by omega⟩
  have hlt : i < l.length := by omega
  have hm : l[i] ∈ l := List.getElem_mem hlt
  have hv := mem_at (conn_v hc) _ hm
  have hr := resN_size hc _ hm
  have hg := gg_facts hc
  have h0 := ih k (i + 1) (by omega) (by omega)
  have p1 := part_le hc i (by omega)
  have p2 := part_le hc (i + 1) (by omega)
  have es : smI (yy n l) (l.take (i + 1)) = smI (yy n l) (l.take i) + yy n l l[i] := by
   rw [List.take_succ_eq_append_getElem hlt, smI_append]
   simp [smI]
  rw [es] at h0 p2
  have hrd : rd (resL ((n : Int) + 1) l) i = yv n l l[i] := by
   rw [hL]
   simp [rd, lowL, List.getD_eq_getElem?_getD, hlt]
   rfl
  have hy : (yv n l l[i]).natAbs ≤ (resN n l l[i]).natAbs := by
   have h := hg.2.2 _ hm
   have h2 : (resN n l l[i]).natAbs = (yv n l l[i]).natAbs * gg n l := by rw [← h, Int.natAbs_mul, Int.natAbs_natCast]
   rw [h2]
   exact Nat.le_mul_of_pos_right _ hg.1
  simp only [spec_SquareSumOf.l0, rd_mem hlt, hrd, hLl]
  rw [if_pos (by omega), if_pos (by omega), if_pos (by omega)]
  have hw := Gn.mulb (X := 3) (Y := 1099511627776) (a := l[i].f3) (b := yv n l l[i]) (by decide) (by decide) (by unfold Gn.Bd; omega) (by unfold Gn.Bd; omega)
  unfold Gn.Bd at hw
  have hyy := yy_nonneg hc _ hm
  have e : wrap64 (smI (yy n l) (l.take i) + wrap64 (wrap64 (l[i].f3 * yv n l l[i]) * yv n l l[i])) = smI (yy n l) (l.take i) + yy n l l[i] := by
   rw [wrap_id (x := l[i].f3 * yv n l l[i]) (by omega) (by omega)]
   rw [show l[i].f3 * yv n l l[i] * yv n l l[i] = yy n l l[i] from rfl]
   rw [wrap_id (x := yy n l l[i]) (by omega) (by omega), wrap_id (by omega) (by omega)]
  rw [e, wrap_id (x := (i : Int) + 1) (by omega) (by omega)]
  exact_mod_cast h0
theorem specSq (p : Int) (l : List S32) (k : Nat) (hk : KB + 9 ≤ k) : spec_SquareSumOf.f k p l = some (okN (Gm.connB p l) (ssq (wp p) l), okD (Gm.connB p l) (ssq (wp p) l), Gm.connB p l) := by
 simp only [spec_SquareSumOf.f, PuEx.whole_eq, Option.bind_some, spec_l10Residuals.f, spec_l10Adjusted.f]
 by_cases h : Gm.connB p l = true
 ·obtain ⟨n, rfl⟩ := conn_nat h
  have hn := conn_n h
  obtain ⟨z, hz, rfl⟩ := res_l0 h l.length k 0 (by omega) (by omega)
  simp only [h, if_true, Option.bind_some, wp_eq]
  simp only [List.take_zero, List.map_nil] at hz
  rw [show ((0 : Nat) : Int) = 0 from rfl] at hz
  rw [hz]
  have h2 := sq_l0 h l.length k 0 (by omega) (by omega)
  simp only [List.take_zero, smI] at h2
  rw [show ((0 : Nat) : Int) = 0 from rfl] at h2
  simp only [Option.bind_some, h2, okN, okD, if_true]
 ·have h' : Gm.connB p l = false := by simpa using h
  simp [h', okN, okD]
end Go.Proofs.Ytkafbmanmffliaa.PuSq

/- The law on the program's SquareSumOf, walked where both sides hand back the same. -/
namespace Go.Proofs.Ytkafbmanmffliaa.LwSO
open Go Go.RowKit YtkafbmanmffliaaW.PrintWords YtkafbmanmffliaaW.PrintLast YtkafbmanmffliaaW.PrintMore Q Hc Ex PuS PuI PuEx
set_option linter.unusedVariables false
set_option linter.unusedSimpArgs false
def Hands (f : FuncId) (p : Int) (m : List S32) (d1 : Int) (d2 : Int) (b : Bool) : Prop :=
 ∀ (W : World) (A : Option Addr) (c : Nat), Kd.C k32 W A m.length m → m.length ≤ c → Calls Try.prog f #[.agg #[.int .i64 p, .slice A m.length c]] W fun e w' => e = .returned (.tuple #[.int .i64 d1, .int .i64 d2, .bool b]) ∧ Below W.heap.size W w'
set_option maxHeartbeats 4000000 in
set_option maxRecDepth 100000 in
theorem walk (p : Int) (l : List S121) (A : Option Addr) (c : Nat) (m : List S32) (d1 : Int) (d2 : Int) (b : Bool) (hl : l.length ≤ 1048576) (hm : m = l.map conv)
  (h1 : Hands 42 p m d1 d2 b) (h2 : Hands 25 p m d1 d2 b) (w : World) (hr : Kd.C k121 w A l.length l) (hc : l.length ≤ c) :
  Calls Try.prog 10 #[.agg #[.int .i64 p, .slice A l.length c]] w fun e w' => e = .returned (.bool true) ∧ Below w.heap.size w w' := by
 have hu42 := Try.underlying42
 have hu26 := Try.underlying26
 have hml : m.length ≤ 1048576 := by rw [hm]; simpa using hl
 obtain ⟨K, hK⟩ : ∃ K, l.length + m.length + 5 ≤ K := ⟨_, Nat.le_refl _⟩
 have HSZ := Aside0.mk (szSurvey_eq p l (by omega))
 rw [if_pos hl] at HSZ
 have HT := Aside0.mk (show laws_toSurvey.f K p l = some (p, m) by rw [hm]; exact toSurvey_eq p l hl K (by omega))
 have HEY := Aside0.mk (eqSurvey_eq p m hml K (by omega))
 obtain ⟨t, ht⟩ : ∃ t : Int, t = 1048576 - (l.length : Int) := ⟨_, rfl⟩
 rw [← ht] at HSZ
 have hbx := below_alloc (Below.refl w.heap.size w) (.cells #[.int .i64 p, .slice A l.length c] 42)
 have HR := Aside0.mk hr
 have HC := Aside0.mk hc
 have H1 := Aside0.mk h1
 have H2 := Aside0.mk h2
 have HBX := Aside0.mk hbx
 have hb0 : (b != b) = false := bne_self_eq_false b
 have hdd1 : (d1 != d1) = false := bne_self_eq_false d1
 have hdd2 : (d2 != d2) = false := bne_self_eq_false d2
 have c1 : decide (t < 0) = false := decide_eq_false (by omega)
 clear hr hc h1 h2 hbx hm hml hl ht hK
 go_enter Try.func10, Try.ntmps10
 go_wp2_with (fail)
 refine (laws_szSurvey.calls p A c l 1048576 t _ (Kd.C_below HR.out HBX.out) HC.out HSZ.out).mono ?_
 rintro e w1 ⟨rfl, hb⟩
 have HB := Aside0.mk (below_step HBX.out hb)
 have K1 := Aside0.mk (blk_below (blk_new w (.cells #[.int .i64 p, .slice A l.length c] 42)) hb)
 clear hb HBX
 have e0 : w1.cell? ⟨w.heap.size, 0, none⟩ = some (.int .i64 p) := (blk_cell K1.out 0).trans rfl
 have e1 : w1.cell? ⟨w.heap.size, 1, none⟩ = some (.slice A l.length c) := (blk_cell K1.out 1).trans rfl
 go_wp2_with (fail)
 refine (laws_toSurvey.calls K p A c l p m _ (Kd.C_below HR.out HB.out) HC.out HT.out).mono ?_
 rintro e w2 ⟨s2, rfl, hS, hb⟩
 clear e0 e1
 obtain ⟨A2, c2, rfl⟩ := Kd.R_slice hS
 have HB2 := Aside0.mk (below_step HB.out hb)
 have K2 := Aside0.mk (blk_below K1.out hb)
 have hz := H1.out w2 A2 c2 (Kd.R_reads' hS).2.2 (Kd.R_reads' hS).2.1
 clear hS hb HB K1
 go_wp2_with (fail)
 refine hz.mono ?_
 rintro e w3 ⟨rfl, hb⟩
 have HB3 := Aside0.mk (below_step HB2.out hb)
 have K3 := Aside0.mk (blk_below K2.out hb)
 clear hb hz HB2 K2
 have e0 : w3.cell? ⟨w.heap.size, 0, none⟩ = some (.int .i64 p) := (blk_cell K3.out 0).trans rfl
 have e1 : w3.cell? ⟨w.heap.size, 1, none⟩ = some (.slice A l.length c) := (blk_cell K3.out 1).trans rfl
 go_wp2_with (fail)
 refine (laws_toSurvey.calls K p A c l p m _ (Kd.C_below HR.out HB3.out) HC.out HT.out).mono ?_
 rintro e w4 ⟨s4, rfl, hS, hb⟩
 clear e0 e1
 obtain ⟨A4, c4', rfl⟩ := Kd.R_slice hS
 have hba := below_alloc (Below.refl w4.heap.size w4) (.cells #[.int .i64 p, .slice A4 m.length c4'] 26)
 have X4 := Aside0.mk (heap_alloc_new w4 (.cells #[.int .i64 p, .slice A4 m.length c4'] 26))
 have R4 := Aside0.mk (Kd.C_below (Kd.R_reads' hS).2.2 hba)
 have C4 := Aside0.mk (Kd.R_reads' hS).2.1
 have HB4 := Aside0.mk (below_step (below_step HB3.out hb) hba)
 have K4 := Aside0.mk (blk_below (blk_below K3.out hb) hba)
 have hz := H2.out (w4.alloc (.cells #[.int .i64 p, .slice A4 m.length c4'] 26)) A4 c4' R4.out C4.out
 clear hS hb hba HB3 K3
 go_wp2_with (fail)
 refine hz.mono ?_
 rintro e w5 ⟨rfl, hb⟩
 have HB5 := Aside0.mk (below_step HB4.out hb)
 have K5 := Aside0.mk (blk_below K4.out hb)
 have X5 := Aside0.mk (blk_below X4.out hb)
 have R5 := Aside0.mk (Kd.C_below R4.out hb)
 clear hb hz HB4 K4 X4 R4
 have e0 : w5.cell? ⟨w.heap.size, 0, none⟩ = some (.int .i64 p) := (blk_cell K5.out 0).trans rfl
 have e1 : w5.cell? ⟨w.heap.size, 1, none⟩ = some (.slice A l.length c) := (blk_cell K5.out 1).trans rfl
 have e2 : w5.cell? ⟨w4.heap.size, 0, none⟩ = some (.int .i64 p) := (blk_cell X5.out 0).trans rfl
 have e3 : w5.cell? ⟨w4.heap.size, 1, none⟩ = some (.slice A4 m.length c4') := (blk_cell X5.out 1).trans rfl
 go_wp2_with (fail)
 refine start_ (n := 5) (S := fun w' => w'.cell? ⟨w.heap.size, 0, none⟩ = some (.int .i64 p) ∧ w'.cell? ⟨w.heap.size, 1, none⟩ = some (.slice A l.length c) ∧ w'.cell? ⟨w4.heap.size, 0, none⟩ = some (.int .i64 p) ∧ w'.cell? ⟨w4.heap.size, 1, none⟩ = some (.slice A4 m.length c4')) (ds := []) #[false, false, false, false, false] (by kernel_rfl) rfl rfl ⟨e0, e1, e2, e3⟩ (fun hHeld => ?_)
 refine take_ (i := 0) (N := some 44) (v := ?_) (a' := ?_) #[true, false, false, false, false] rfl rfl (by kernel_rfl) (fun _ _ _ h => h) (Or.inl ⟨by rfl, ?_⟩) hHeld ?_ ?_
 rotate_left
 ·rintro w' ⟨s0, s1, s2, s3⟩
  go_simp
  with_reducible rfl
 rotate_left
 ·simp only [Act.put, List.setIfInBounds_toArray, List.set_cons_zero, List.set_cons_succ, i64_w, i32_w]
  rfl
 refine take_ (i := 1) (N := some 45) (v := ?_) (a' := ?_) #[true, true, false, false, false] rfl rfl (by kernel_rfl) (fun _ _ _ h => h) (Or.inl ⟨by rfl, ?_⟩) hHeld ?_ ?_
 rotate_left
 ·rintro w' ⟨s0, s1, s2, s3⟩
  go_simp
  with_reducible rfl
 rotate_left
 ·simp only [Act.put, List.setIfInBounds_toArray, List.set_cons_zero, List.set_cons_succ, i64_w, i32_w]
  rfl
 refine one_ (i := 2) (N := some 46) #[true, true, true, false, false] rfl rfl (by kernel_rfl) (by decide) (fun K_ hK => ?_)
 refine goes_ Try.func30 (by kernel_rfl) rfl #[.agg #[.int .i64 p, .slice A l.length c]] (by rfl) rfl rfl (by (try simp only [List.map_toArray, List.map_cons, List.map_nil]); first | done | rfl) ?_
 refine (laws_toSurvey.calls K p A c l p m w5.drew (Kd.C_below HR.out (below_drew HB5.out)) HC.out HT.out).mono ?_
 rintro e w7 ⟨s7, rfl, hS, hb⟩
 obtain ⟨A7, c7, rfl⟩ := Kd.R_slice hS
 have HBd := Aside0.mk (below_step (below_drew (Below.refl w5.heap.size w5)) hb)
 have D7 := Aside0.mk (Kd.R_reads' hS)
 clear hS hb
 refine ⟨_, rfl, ?_⟩
 refine hK.out _ _ (⟨(HBd.out.cell (World.block_lt_of_cell? _ _ e0)).trans e0, (HBd.out.cell (World.block_lt_of_cell? _ _ e1)).trans e1, (HBd.out.cell (World.block_lt_of_cell? _ _ e2)).trans e2, (HBd.out.cell (World.block_lt_of_cell? _ _ e3)).trans e3⟩) (fun hHeld => ?_)
 clear hK K_
 refine norm_ (a' := ?_) ?_ ?_
 rotate_left
 ·show Act.put _ (some 46) _ = _
  simp only [Act.put, List.setIfInBounds_toArray, List.set_cons_zero, List.set_cons_succ, i64_w, i32_w]
  rfl
 refine one_ (i := 3) (N := some 47) #[true, true, true, true, false] rfl rfl (by kernel_rfl) (by decide) (fun K_ hK => ?_)
 refine goes_ Try.func31 (by kernel_rfl) rfl #[.agg #[.int .i64 p, .slice A4 m.length c4'], .agg #[.int .i64 p, .slice A7 m.length c7]] (by rfl) rfl rfl (by (try simp only [List.map_toArray, List.map_cons, List.map_nil]); first | done | rfl) ?_
 refine (laws_eqSurvey.calls K p A4 c4' m p A7 c7 m true w7 (Kd.C_below R5.out HBd.out) C4.out D7.out.2.2 D7.out.2.1 HEY.out).mono ?_
 rintro e w8 ⟨rfl, hb⟩
 have HB8 := Aside0.mk (below_step HB5.out (below_step HBd.out hb))
 have HB8' := Aside0.mk (below_step HBd.out hb)
 clear hb
 refine ⟨_, rfl, ?_⟩
 refine hK.out _ _ (⟨(HB8'.out.cell (World.block_lt_of_cell? _ _ e0)).trans e0, (HB8'.out.cell (World.block_lt_of_cell? _ _ e1)).trans e1, (HB8'.out.cell (World.block_lt_of_cell? _ _ e2)).trans e2, (HB8'.out.cell (World.block_lt_of_cell? _ _ e3)).trans e3⟩) (fun hHeld => ?_)
 clear hK K_
 refine norm_ (a' := ?_) ?_ ?_
 rotate_left
 ·show Act.put _ (some 47) _ = _
  simp only [Act.put, List.setIfInBounds_toArray, List.set_cons_zero, List.set_cons_succ, i64_w, i32_w]
  rfl
 refine pure_ (i := 4) (N := some 48) (v := ?_) (a' := ?_) #[true, true, true, true, true] rfl rfl (by kernel_rfl) (fun _ _ _ h => h) (Or.inl ⟨by rfl, ?_⟩) ?_ ?_
 rotate_left
 ·intro w'
  go_simp
  with_reducible rfl
 rotate_left
 ·simp only [Act.put, List.setIfInBounds_toArray, List.set_cons_zero, List.set_cons_succ, i64_w, i32_w]
  rfl
 refine done_ (by kernel_rfl) ?_
 go_wp2_with (fail)
 go_ret
 exact ⟨rfl, HB8.out⟩
set_option maxHeartbeats 4000000 in
theorem law_any (p : Int) (l : List S121) (A : Option Addr) (c : Nat) (w : World) (hr : Kd.C k121 w A l.length l) (hc : l.length ≤ c) (h : l.length ≤ 9223372036854775807) :
  Calls Try.prog 10 #[.agg #[.int .i64 p, .slice A l.length c]] w fun e w' => e = .returned (.bool true) ∧ Below w.heap.size w w' := by
 by_cases hl : l.length ≤ 1048576
 ·have hm : (l.map conv).length ≤ 1048576 := by simpa using hl
  obtain ⟨K, hK⟩ : ∃ K, KB + 9 ≤ K := ⟨_, Nat.le_refl _⟩
  exact walk p l A c (l.map conv) (Ex2.okN (Gm.connB p (l.map conv)) (Sb.ssq (wp p) (l.map conv))) (Ex2.okD (Gm.connB p (l.map conv)) (Sb.ssq (wp p) (l.map conv))) (Gm.connB p (l.map conv)) hl rfl
   (fun W A c hr hc => spec_SquareSumOf.calls K p A c (l.map conv) _ _ _ W hr hc (PuSq.specSq p (l.map conv) K (by omega)))
   (fun W A c hr hc => Ex3.squareSum_any p (l.map conv) A c W hr hc hm) w hr hc
 ·have hu42 := Try.underlying42
  have hsz := szSurvey_eq p l h
  rw [if_neg hl] at hsz
  have hbx := below_alloc (Below.refl w.heap.size w) (.cells #[.int .i64 p, .slice A l.length c] 42)
  have hz := laws_szSurvey.calls p A c l 1048576 (-1) _ (Kd.C_below hr hbx) hc hsz
  have HB := Aside0.mk hbx
  clear hr hc hbx hsz h hl
  go_enter Try.func10, Try.ntmps10
  go_wp2_with (fail)
  refine hz.mono ?_
  rintro e w1 ⟨rfl, hb⟩
  have HB1 := Aside0.mk (below_step HB.out hb)
  clear hb hz
  go_wp2_with (fail)
  go_ret
  exact ⟨rfl, HB1.out⟩
end Go.Proofs.Ytkafbmanmffliaa.LwSO

