/- Parts of the proof that the law of this seat holds: Vb6, Vb0, Vb7, Hd, Ht, Vc0, Vc1, Vc2, Vc3, Q75, Q76, PuR, PuRL. -/
import Derived.Test.YtahmgalkliicfaaDoorGRpa
import Derived.Test.YtahmgalkliicfaaDoorGRpb
import Derived.RegionTactic
import Derived.BigRegion
set_option linter.unusedVariables false
set_option linter.unusedSimpArgs false
-- made by a patched copy of print.sh: this session's own
namespace Go.Proofs.YtahmgalkliicfaaDoor.Q
open Go.RowKit Go.Proofs.YtahmgalkliicfaaDoorW.PrintWords Go.Proofs.YtahmgalkliicfaaDoorW.PrintLast Go.Proofs.YtahmgalkliicfaaDoorW.PrintMore
attribute [local go_sem] max2_int min2_int max_two min_two max_three min_three max_four min_four   -- for this text's walks alone
set_option linter.unusedVariables false
set_option linter.unusedSimpArgs false

/-! ### impl_readRing: function 93 -/
def impl_readRing.j0 : Nat → ByteArray → Bool → Option (Int × Int × Bool)
  | 0, _, _ => none
  | k + 1, x0, x18 => if x18 = true then (some (0, 0, false)) else (if 1 ≤ (x0.size : Int) then ((impl_ReadDecimal.f (x0.extract 1 x0.size)).bind fun bt550 => (if 0 < (x0.size : Int) then (if (bt x0 0) = 116 then (if bt550.2 = true then ((impl_ValidRing.f 1 bt550.1).bind fun t553 => (some (1, bt550.1, t553))) else (some (1, bt550.1, false))) else (if bt550.2 = true then ((impl_ValidRing.f 0 bt550.1).bind fun t554 => (some (0, bt550.1, t554))) else (some (0, bt550.1, false)))) else (none))) else (none))
def impl_readRing.f (k : Nat) (a0 : ByteArray) : Option (Int × Int × Bool) := if a0.toList = ([] : List UInt8) then (impl_readRing.j0 k a0 true) else (if 0 < (a0.size : Int) then (if (bt a0 0) = 115 then (impl_readRing.j0 k a0 false) else (impl_readRing.j0 k a0 ((bt a0 0) != 116))) else (none))
theorem impl_readRing.mono_l : ∀ k, (∀ y0 y1, LeO (impl_readRing.j0 k y0 y1) (impl_readRing.j0 (k + 1) y0 y1))
  | 0 => fun _ _ r h => by simp [impl_readRing.j0] at h
  | k + 1 => by
    have ih0 := impl_readRing.mono_l k
    · intro y0 y1
      unfold impl_readRing.j0
      repeat' first
      | (with_reducible exact ih0 _ _)
      | (with_reducible exact LeO.refl _)
      | (with_reducible exact LeO.none _)
      | (with_reducible refine LeO.ite ?_ ?_)
      | (with_reducible refine LeO.bind ?_ (fun _ => ?_))
      | exact ih0 _ _
      | exact LeO.none _
      | refine LeO.ite ?_ ?_
      | refine LeO.bind ?_ (fun _ => ?_)
theorem impl_readRing.mono : ∀ a0 k, LeO (impl_readRing.f k a0) (impl_readRing.f (k + 1) a0) := by
  intro a0 k
  have ih0 := impl_readRing.mono_l k
  unfold impl_readRing.f
  repeat' first
      | (with_reducible exact ih0 _ _)
      | (with_reducible exact LeO.refl _)
      | (with_reducible exact LeO.none _)
      | (with_reducible refine LeO.ite ?_ ?_)
      | (with_reducible refine LeO.bind ?_ (fun _ => ?_))
      | exact ih0 _ _
      | exact LeO.none _
      | refine LeO.ite ?_ ?_
      | refine LeO.bind ?_ (fun _ => ?_)
def impl_readRing.T7 : Bool × List (List Nat × List Nat) := (true, [([], []), ([], []), ([1], [1]), ([2], [2]), ([3, 2, 2], [2, 3]), ([2, 4], [2, 4]), ([0, 4, 0], [0]), ([5, 6, 0, 1, 2, 3, 4, 5, 6], [5])])
def impl_readRing.B7 : List Nat := [0, 0, 2, 6, 14, 30, 31, 127]
theorem impl_readRing.tab7 : rtab .any (opsOf Tryd.f93 7) = impl_readRing.T7 := by kernel_rfl
theorem impl_readRing.bits7 : waitsOk impl_readRing.T7.2 impl_readRing.B7 = true := by kernel_rfl
set_option maxHeartbeats 8000000 in
set_option maxRecDepth 100000 in
theorem impl_readRing.calls (k : Nat) (a0 : ByteArray) (r1 : Int) (r2 : Int) (r3 : Bool) (w : World) (hT : Tb.TC w) (h : impl_readRing.f k a0 = some (r1, r2, r3)) :
    Calls Tryd.prog 93 #[.string a0] w fun e w' => e = .returned (.tuple #[.agg #[.int .i64 r1, .int .i64 r2], .bool r3]) ∧ Below w.heap.size w w' := by
  have HT := Aside0.mk hT
  clear hT
  have hu39 := Tryd.underlying39
  have HB := Aside0.mk (Below.refl w.heap.size w)
  have H : (if a0.toList = ([] : List UInt8) then (impl_readRing.j0 k a0 true) else (if 0 < (a0.size : Int) then (if (bt a0 0) = 115 then (impl_readRing.j0 k a0 false) else (impl_readRing.j0 k a0 ((bt a0 0) != 116))) else (none))) = some (r1, r2, r3) := h
  clear h
  have HC2 := Aside0.mk H
  clear H
  go_enter Tryd.func93, Tryd.ntmps93
  go_upto_region 1 with (first | ((with_reducible refine gate_dst (N := 2) rfl ?_); refine box_event ?hg (N := 2) ?hd (cs := #[.int .i64 0, .int .i64 0]) (t := 39) ?hr ?_; (case hd => rfl); (case hg => rfl); (case hr => first | (go_simp; done) | (go_simp; rfl)); intro gb549 hg w3 hbox hb; have n0_ := Aside0.mk (below_step (by repeat (first | (with_reducible first | exact HB.out | apply below_alloc | apply pw_below_drewN | apply below_drew1) | exact HB.out)) hb); have n1_ := Aside0.mk (hbox); have n2_ := Aside0.mk ((by rw [hg]; exact (below_size (by repeat (first | (with_reducible first | exact HB.out | apply below_alloc | apply pw_below_drewN | apply below_drew1) | exact HB.out))) : w.heap.size ≤ gb549)); have n3_ := Aside0.mk ((by rw [hg]; exact (below_size (by repeat (first | (with_reducible first | exact HB.out | apply below_alloc | apply pw_below_drewN | apply below_drew1) | exact HB.out))) : w.heap.size ≤ gb549)); clear HB; have HB := n0_; have BK549 := n1_; have GW549 := n2_; have GE549 := n3_; clear n0_ n1_ n2_ n3_; clear hb hbox hg))
  (try simp only [Act.put, List.setIfInBounds_toArray, List.set_cons_zero, List.set_cons_succ])
  go_cut [18] (fun v18 wc => ∃ (kq : Nat) (x18_1 : Bool), v18 = .bool x18_1 ∧ Aside0 (impl_readRing.j0 kq a0 x18_1 = some (r1, r2, r3)) ∧ Aside0 (kq ≤ k) ∧ Aside0 (wc.heap[gb549]? = some (.cells #[.int .i64 0, .int .i64 0] 39 (0, 0))) ∧ Aside0 (Below w.heap.size w wc))
  case first =>
    have H := HC2.out
    clear HC2
    by_cases c4 : a0.toList = ([] : List UInt8)
    · rw [if_pos c4] at H
      have c4b0 : (a0.toList == ([] : List UInt8)) = true := beq_iff_eq.mpr c4
      have c4b1 : (a0.toList != ([] : List UInt8)) = false := bne_eq_false_iff_eq.mpr c4
      clear c4
      (first | rw [c4b0] | (simp only [i64_w, i32_w]; rw [c4b0]) | skip)
      have H' := Aside0.mk H
      clear H
      go_wp2
      go_meet
      case rel => exact ⟨_, (true), (by first | rfl | (simp; done) | (simp [*]; done)), H', ⟨by first | omega | exact Nat.le_refl _⟩, ⟨by (with_reducible repeat (first | refine blk_drewN ?_ _ | refine blk_drew ?_ | refine blk_alloc ?_ _)); exact BK549.out⟩, ⟨by repeat (first | (with_reducible first | exact HB.out | apply below_alloc | apply pw_below_drewN | apply below_drew1 | refine below_set ?_ GE549.out) | exact HB.out)⟩⟩
    · rw [if_neg c4] at H
      have c4b0 : (a0.toList == ([] : List UInt8)) = false := beq_eq_false_iff_ne.mpr c4
      have c4b1 : (a0.toList != ([] : List UInt8)) = true := bne_iff_ne.mpr c4
      (first | rw [c4b0] | (simp only [i64_w, i32_w]; rw [c4b0]) | skip)
      by_cases c5 : 0 < (a0.size : Int)
      · rw [if_pos c5] at H
        have c5b0 : decide (0 < (a0.size : Int)) = true := decide_eq_true c5
        have c5b1 : decide (0 < a0.size) = true := decide_eq_true (by omega)
        clear c5
        by_cases c7 : (bt a0 0) = 115
        · rw [if_pos c7] at H
          have c7b0 : ((bt a0 0) == 115) = true := beq_iff_eq.mpr c7
          have c7b1 : ((bt a0 0) != 115) = false := bne_eq_false_iff_eq.mpr c7
          clear c7
          have H' := Aside0.mk H
          clear H
          have p6 : 0 ≤ (0 : Int) := (by omega)
          have q6 : 0 < a0.size := (by have : (0 : Int) < (a0.size : Int) := of_decide_eq_true (by first | (with_reducible assumption) | assumption); omega)
          have hx6 : ∀ h : 0 < a0.size, ((a0[0]'h).toNat : Int) = bt a0 0 := bt_at a0 0
          clear p6
          have qi6 : (0 < (a0.size : Int)) = True := eq_true (of_decide_eq_true (by first | (with_reducible assumption) | assumption))
          replace q6 := eq_true q6
          go_wp2
          go_meet
          case rel => exact ⟨_, (false), (by first | rfl | (simp; done) | (simp [*]; done)), H', ⟨by first | omega | exact Nat.le_refl _⟩, ⟨by (with_reducible repeat (first | refine blk_drewN ?_ _ | refine blk_drew ?_ | refine blk_alloc ?_ _)); exact BK549.out⟩, ⟨by repeat (first | (with_reducible first | exact HB.out | apply below_alloc | apply pw_below_drewN | apply below_drew1 | refine below_set ?_ GE549.out) | exact HB.out)⟩⟩
        · rw [if_neg c7] at H
          have c7b0 : ((bt a0 0) == 115) = false := beq_eq_false_iff_ne.mpr c7
          have c7b1 : ((bt a0 0) != 115) = true := bne_iff_ne.mpr c7
          have H' := Aside0.mk H
          clear H
          have p6 : 0 ≤ (0 : Int) := (by omega)
          have q6 : 0 < a0.size := (by have : (0 : Int) < (a0.size : Int) := of_decide_eq_true (by first | (with_reducible assumption) | assumption); omega)
          have hx6 : ∀ h : 0 < a0.size, ((a0[0]'h).toNat : Int) = bt a0 0 := bt_at a0 0
          clear p6
          have qi6 : (0 < (a0.size : Int)) = True := eq_true (of_decide_eq_true (by first | (with_reducible assumption) | assumption))
          replace q6 := eq_true q6
          have p8 : 0 ≤ (0 : Int) := (by omega)
          have q8 : 0 < a0.size := (by have : (0 : Int) < (a0.size : Int) := of_decide_eq_true (by first | (with_reducible assumption) | assumption); omega)
          have hx8 : ∀ h : 0 < a0.size, ((a0[0]'h).toNat : Int) = bt a0 0 := bt_at a0 0
          clear p8
          have qi8 : (0 < (a0.size : Int)) = True := eq_true (of_decide_eq_true (by first | (with_reducible assumption) | assumption))
          replace q8 := eq_true q8
          go_wp2
          go_meet
          case rel => exact ⟨_, (((bt a0 0) != 116)), (by first | rfl | (simp; done) | (simp [*]; done)), H', ⟨by first | omega | exact Nat.le_refl _⟩, ⟨by (with_reducible repeat (first | refine blk_drewN ?_ _ | refine blk_drew ?_ | refine blk_alloc ?_ _)); exact BK549.out⟩, ⟨by repeat (first | (with_reducible first | exact HB.out | apply below_alloc | apply pw_below_drewN | apply below_drew1 | refine below_set ?_ GE549.out) | exact HB.out)⟩⟩
      · rw [if_neg c5] at H
        exact absurd H (by simp)
  case rest =>
    clear HC2
    try clear p2
    try clear c4
    try clear c4b0
    try clear c4b1
    try clear c5
    try clear c5b0
    try clear c5b1
    try clear p6
    try clear q6
    try clear hx6
    try clear qi6
    try clear c7
    try clear c7b0
    try clear c7b1
    try clear p8
    try clear q8
    try clear hx8
    try clear qi8
    try clear p6
    try clear p8
    try clear q6
    try clear q8
    obtain ⟨kq, x18_1, rfl, HA, HJ1, BK549, HB⟩ := hcut
    cases kq with
    | zero => exact absurd HA.out (by simp [impl_readRing.j0])
    | succ kj1 =>
      have H := HA.out
      clear HA
      simp only [impl_readRing.j0] at H
      by_cases c9 : x18_1 = true
      · subst c9
        have H1 : (some (0, 0, false)) = some (r1, r2, r3) := by rw [if_pos rfl] at H; exact H
        clear H
        have H := H1
        clear H1
        simp only [Option.some.injEq, Prod.mk.injEq] at H
        obtain ⟨rfl, rfl, rfl⟩ := H
        have hcz10_0 : wc.cell? ⟨gb549, 0, none⟩ = some (.int .i64 0) := (blk_cell BK549.out 0).trans rfl
        have hcz10_1 : wc.cell? ⟨gb549, 1, none⟩ = some (.int .i64 0) := (blk_cell BK549.out 1).trans rfl
        have hfz10_0 := blk_frozen BK549.out 0
        have hfz10_1 := blk_frozen BK549.out 1
        go_wp2
        refine bodyPost_ret (results_ct rfl _ _ gb549 39 #[.int .i64 0, .int .i64 0] (0, 0) _ rfl (by (with_reducible repeat (first | refine blk_drewN ?_ _ | refine blk_drew ?_ | refine blk_alloc ?_ _)); refine blk_put (cs := #[.int .i64 0, .int .i64 0]) ?_ 1 _ rfl; (with_reducible repeat (first | refine blk_drewN ?_ _ | refine blk_drew ?_ | refine blk_alloc ?_ _)); refine blk_put (cs := #[.int .i64 0, .int .i64 0]) ?_ 0 _ rfl; (with_reducible repeat (first | refine blk_drewN ?_ _ | refine blk_drew ?_ | refine blk_alloc ?_ _)); exact BK549.out) Tryd.underlying39 rfl (by kernel_rfl)) rfl ?_
        exact ⟨by first | rfl | (simp [errW_none, errW_some] <;> rfl) | (simp [*, errW_none, errW_some] <;> rfl), by repeat (first | (with_reducible first | exact HB.out | apply below_alloc | apply pw_below_drewN | apply below_drew1 | refine below_set ?_ GE549.out) | exact HB.out)⟩
      · replace c9 := Bool.eq_false_iff.mpr c9
        subst c9
        have H1 : (if 1 ≤ (a0.size : Int) then ((impl_ReadDecimal.f (a0.extract 1 a0.size)).bind fun bt550 => (if 0 < (a0.size : Int) then (if (bt a0 0) = 116 then (if bt550.2 = true then ((impl_ValidRing.f 1 bt550.1).bind fun t553 => (some (1, bt550.1, t553))) else (some (1, bt550.1, false))) else (if bt550.2 = true then ((impl_ValidRing.f 0 bt550.1).bind fun t554 => (some (0, bt550.1, t554))) else (some (0, bt550.1, false)))) else (none))) else (none)) = some (r1, r2, r3) := by rw [if_neg (show ¬ (false = true) by decide)] at H; exact H
        clear H
        have H := H1
        clear H1
        by_cases c11 : 1 ≤ (a0.size : Int)
        · rw [if_pos c11] at H
          have c11b0 := eq_true c11
          have c11b1 : decide (1 ≤ (a0.size : Int)) = true := decide_eq_true c11
          clear c11
          replace H := Option.bind_eq_some_iff.mp H
          obtain ⟨⟨t550, t551⟩, A120, H⟩ := H
          replace H : (if 0 < (a0.size : Int) then (if (bt a0 0) = 116 then (if t551 = true then ((impl_ValidRing.f 1 t550).bind fun t553 => (some (1, t550, t553))) else (some (1, t550, false))) else (if t551 = true then ((impl_ValidRing.f 0 t550).bind fun t554 => (some (0, t550, t554))) else (some (0, t550, false)))) else (none)) = some (r1, r2, r3) := H
          have A12 := Aside0.mk A120
          clear A120
          by_cases c13 : 0 < (a0.size : Int)
          · rw [if_pos c13] at H
            have c13b0 : decide (0 < (a0.size : Int)) = true := decide_eq_true c13
            have c13b1 : decide (0 < a0.size) = true := decide_eq_true (by omega)
            clear c13
            by_cases c15 : (bt a0 0) = 116
            · rw [if_pos c15] at H
              have c15b0 : ((bt a0 0) == 116) = true := beq_iff_eq.mpr c15
              have c15b1 : ((bt a0 0) != 116) = false := bne_eq_false_iff_eq.mpr c15
              clear c15
              by_cases c16 : t551 = true
              · subst c16
                have H1 : ((impl_ValidRing.f 1 t550).bind fun t553 => (some (1, t550, t553))) = some (r1, r2, r3) := by rw [if_pos rfl] at H; exact H
                clear H
                have H := H1
                clear H1
                replace H := Option.bind_eq_some_iff.mp H
                obtain ⟨t553, A170, H⟩ := H
                replace H : (some (1, t550, t553)) = some (r1, r2, r3) := H
                have A17 := Aside0.mk A170
                clear A170
                simp only [Option.some.injEq, Prod.mk.injEq] at H
                obtain ⟨rfl, rfl, rfl⟩ := H
                try go_wp2_with (first | ((with_reducible refine gate_callee (f := 56) rfl ?_); refine goesL_ (some 23) rfl rfl Tryd.func56 (by kernel_rfl) rfl #[.string (a0.extract 1 a0.size)] rfl (by (try simp only [List.map_toArray, List.map_cons, List.map_nil]); first | done | rfl | (simp only [List.length_drop, List.length_take]; rfl)) ?_; (with_reducible refine (impl_ReadDecimal.calls (a0.extract 1 a0.size) t550 true _ ?side1 A12.out).mono ?_); (case side1 => first | exact HT.out | exact Tb.TC.below HT.out (by repeat (first | (with_reducible first | exact HB.out | apply below_alloc | apply pw_below_drewN | apply below_drew1 | refine below_set ?_ GE549.out) | exact HB.out))); rintro e w18 ⟨rfl, hb⟩; refine ⟨_, rfl, ?_⟩; have n0_ := Aside0.mk (blk_below (g := gb549) (o := .cells #[.int .i64 0, .int .i64 0] 39 (0, 0)) (by (with_reducible repeat (first | refine blk_drewN ?_ _ | refine blk_drew ?_ | refine blk_alloc ?_ _)); exact BK549.out) hb); have n1_ := Aside0.mk (below_step (by repeat (first | (with_reducible first | exact HB.out | apply below_alloc | apply pw_below_drewN | apply below_drew1 | refine below_set ?_ GE549.out) | exact HB.out)) hb); clear BK549; clear HB; have BK549 := n0_; have HB := n1_; clear n0_ n1_; (try clear hb); (try clear hb2); (try clear hk); (try clear hi)) | ((with_reducible refine gate_dst (N := 6) rfl ?_); refine box_event ?hg (N := 6) ?hd (cs := #[.int .i64 0, .int .i64 0]) (t := 39) ?hr ?_; (case hd => rfl); (case hg => rfl); (case hr => first | (go_simp; done) | (go_simp; rfl)); intro gb552 hg w19 hbox hb; have n0_ := Aside0.mk (blk_below (g := gb549) (o := .cells #[.int .i64 0, .int .i64 0] 39 (0, 0)) (by (with_reducible repeat (first | refine blk_drewN ?_ _ | refine blk_drew ?_ | refine blk_alloc ?_ _)); exact BK549.out) hb); have n1_ := Aside0.mk (below_step (by repeat (first | (with_reducible first | exact HB.out | apply below_alloc | apply pw_below_drewN | apply below_drew1 | refine below_set ?_ GE549.out) | exact HB.out)) hb); have n2_ := Aside0.mk (hbox); have n3_ := Aside0.mk ((by rw [hg]; exact (below_size (by repeat (first | (with_reducible first | exact HB.out | apply below_alloc | apply pw_below_drewN | apply below_drew1 | refine below_set ?_ GE549.out) | exact HB.out))) : w.heap.size ≤ gb552)); have n4_ := Aside0.mk ((by rw [hg]; exact (below_size (by repeat (first | (with_reducible first | exact HB.out | apply below_alloc | apply pw_below_drewN | apply below_drew1 | refine below_set ?_ GE549.out) | exact HB.out))) : w.heap.size ≤ gb552)); have n5_ := Aside0.mk ((by rw [hg]; exact Nat.ne_of_lt (blk_lt (g := gb549) (o := .cells #[.int .i64 0, .int .i64 0] 39 (0, 0)) (by (with_reducible repeat (first | refine blk_drewN ?_ _ | refine blk_drew ?_ | refine blk_alloc ?_ _)); exact BK549.out)) : gb549 ≠ gb552)); have n6_ := Aside0.mk ((by rw [hg]; exact Nat.ne_of_gt (blk_lt (g := gb549) (o := .cells #[.int .i64 0, .int .i64 0] 39 (0, 0)) (by (with_reducible repeat (first | refine blk_drewN ?_ _ | refine blk_drew ?_ | refine blk_alloc ?_ _)); exact BK549.out)) : gb552 ≠ gb549)); clear BK549; clear HB; have BK549 := n0_; have HB := n1_; have BK552 := n2_; have GW552 := n3_; have GE552 := n4_; have NB549_552 := n5_; have NB552_549 := n6_; clear n0_ n1_ n2_ n3_ n4_ n5_ n6_; clear hb hbox hg; have hnb20 := NB552_549.out; have hnc20 := NB549_552.out; have hcz21_0 : w19.cell? ⟨gb552, 0, none⟩ = some (.int .i64 0) := (blk_cell BK552.out 0).trans rfl; have hcz21_1 : w19.cell? ⟨gb552, 1, none⟩ = some (.int .i64 0) := (blk_cell BK552.out 1).trans rfl; have hfz21_0 := blk_frozen BK552.out 0; have hfz21_1 := blk_frozen BK552.out 1; have p14 : 0 ≤ (0 : Int) := (by omega); have q14 : 0 < a0.size := (by have : (0 : Int) < (a0.size : Int) := of_decide_eq_true (by first | (with_reducible assumption) | assumption); omega); have hx14 : ∀ h : 0 < a0.size, ((a0[0]'h).toNat : Int) = bt a0 0 := bt_at a0 0; clear p14; have qi14 : (0 < (a0.size : Int)) = True := eq_true (of_decide_eq_true (by first | (with_reducible assumption) | assumption)); replace q14 := eq_true q14))
                have n0_ : Aside0 ((((w19.setCell ⟨gb552, 0, none⟩ (.int .i64 0)).setCell ⟨gb552, 1, none⟩ (.int .i64 t550)).setCell ⟨gb552, 0, none⟩ (.int .i64 1)).heap[gb549]? = some (.cells #[.int .i64 0, .int .i64 0] 39 (0, 0))) := ⟨by (with_reducible repeat (first | refine blk_drewN ?_ _ | refine blk_drew ?_ | refine blk_alloc ?_ _)); refine blk_far ?_ NB549_552.out _; (with_reducible repeat (first | refine blk_drewN ?_ _ | refine blk_drew ?_ | refine blk_alloc ?_ _)); refine blk_far ?_ NB549_552.out _; (with_reducible repeat (first | refine blk_drewN ?_ _ | refine blk_drew ?_ | refine blk_alloc ?_ _)); refine blk_far ?_ NB549_552.out _; (with_reducible repeat (first | refine blk_drewN ?_ _ | refine blk_drew ?_ | refine blk_alloc ?_ _)); exact BK549.out⟩
                have n1_ : Aside0 ((((w19.setCell ⟨gb552, 0, none⟩ (.int .i64 0)).setCell ⟨gb552, 1, none⟩ (.int .i64 t550)).setCell ⟨gb552, 0, none⟩ (.int .i64 1)).heap[gb552]? = some (.cells #[.int .i64 1, .int .i64 t550] 39 (0, 0))) := ⟨by (with_reducible repeat (first | refine blk_drewN ?_ _ | refine blk_drew ?_ | refine blk_alloc ?_ _)); refine blk_put (cs := #[.int .i64 0, .int .i64 t550]) ?_ 0 _ rfl; (with_reducible repeat (first | refine blk_drewN ?_ _ | refine blk_drew ?_ | refine blk_alloc ?_ _)); refine blk_put (cs := #[.int .i64 0, .int .i64 0]) ?_ 1 _ rfl; (with_reducible repeat (first | refine blk_drewN ?_ _ | refine blk_drew ?_ | refine blk_alloc ?_ _)); refine blk_put (cs := #[.int .i64 0, .int .i64 0]) ?_ 0 _ rfl; (with_reducible repeat (first | refine blk_drewN ?_ _ | refine blk_drew ?_ | refine blk_alloc ?_ _)); exact BK552.out⟩
                have n2_ : Aside0 (Below w.heap.size w (((w19.setCell ⟨gb552, 0, none⟩ (.int .i64 0)).setCell ⟨gb552, 1, none⟩ (.int .i64 t550)).setCell ⟨gb552, 0, none⟩ (.int .i64 1))) := ⟨by repeat (first | (with_reducible first | exact HB.out | apply below_alloc | apply pw_below_drewN | apply below_drew1 | refine below_set ?_ GE549.out | refine below_set ?_ GE552.out) | exact HB.out)⟩
                (try clear BK549)
                (try clear BK552)
                (try clear HB)
                generalize (((w19.setCell ⟨gb552, 0, none⟩ (.int .i64 0)).setCell ⟨gb552, 1, none⟩ (.int .i64 t550)).setCell ⟨gb552, 0, none⟩ (.int .i64 1)) = w22 at n0_ n1_ n2_ ⊢
                have BK549 := n0_
                have BK552 := n1_
                have HB := n2_
                clear n0_ n1_ n2_
                have n0_ := Aside0.mk (blk_drew BK549.out)
                have n1_ := Aside0.mk (blk_drew BK552.out)
                have n2_ := Aside0.mk (below_drew1 HB.out)
                clear BK549
                clear BK552
                clear HB
                have BK549 := n0_
                have BK552 := n1_
                have HB := n2_
                clear n0_ n1_ n2_
                refine start_ (n := 8) (S := fun w' => w'.cell? ⟨gb552, 0, none⟩ = some (.int .i64 1) ∧ w'.cell? ⟨gb552, 1, none⟩ = some (.int .i64 t550)) (ds := []) #[false, false, false, false, false, false, false, false] (by kernel_rfl) rfl rfl ⟨(blk_cell BK552.out 0).trans rfl, (blk_cell BK552.out 1).trans rfl⟩ (fun hHeld => ?_); refine with_tabW impl_readRing.tab7 impl_readRing.bits7 (fun HT_ HW_ => ?_)
                generalize w22.drew = w23 at BK549 BK552 HB hHeld ⊢
                refine pure_ (i := 1) (N := some 33) (v := ?_) (a' := ?_) #[false, true, false, false, false, false, false, false] rfl rfl (any_of HT_.out (by kernel_rfl)) (fun _ _ _ h => h) (Or.inl ⟨by rfl, ?_⟩) ?_ ?_
                rotate_left
                · intro w'
                  go_simp
                  with_reducible rfl
                rotate_left
                · simp only [Act.put, List.setIfInBounds_toArray, List.set_cons_zero, List.set_cons_succ, i64_w, i32_w]
                  rfl
                refine pure_ (i := 2) (N := some 34) (v := ?_) (a' := ?_) #[false, true, true, false, false, false, false, false] rfl rfl (any_of HT_.out (by kernel_rfl)) (fun _ _ _ h => h) (Or.inl ⟨by rfl, ?_⟩) ?_ ?_
                rotate_left
                · intro w'
                  go_simp
                  with_reducible rfl
                rotate_left
                · simp only [Act.put, List.setIfInBounds_toArray, List.set_cons_zero, List.set_cons_succ, i64_w, i32_w]
                  rfl
                refine take_ (i := 0) (N := some 32) (v := ?_) (a' := ?_) #[true, true, true, false, false, false, false, false] rfl rfl (take_ofW HT_.out HW_.out (by kernel_rfl)) (fun _ _ _ h => h) (Or.inl ⟨by rfl, ?_⟩) hHeld ?_ ?_
                rotate_left
                · rintro w' ⟨s0, s1⟩
                  go_simp
                  with_reducible rfl
                rotate_left
                · simp only [Act.put, List.setIfInBounds_toArray, List.set_cons_zero, List.set_cons_succ, i64_w, i32_w]
                  rfl
                refine take_ (i := 3) (N := some 35) (v := ?_) (a' := ?_) #[true, true, true, true, false, false, false, false] rfl rfl (take_ofW HT_.out HW_.out (by kernel_rfl)) (fun _ _ _ h => h) (Or.inl ⟨by rfl, ?_⟩) hHeld ?_ ?_
                rotate_left
                · rintro w' ⟨s0, s1⟩
                  go_simp
                  with_reducible rfl
                rotate_left
                · simp only [Act.put, List.setIfInBounds_toArray, List.set_cons_zero, List.set_cons_succ, i64_w, i32_w]
                  rfl
                refine one_ (i := 4) (N := some 36) #[true, true, true, true, true, false, false, false] rfl rfl (one_of HT_.out (by kernel_rfl)) (by decide) (fun K hK => ?_)
                refine goes_ Tryd.func80 (by kernel_rfl) rfl #[.agg #[.int .i64 1, .int .i64 t550]] (by rfl) rfl rfl (by (try simp only [List.map_toArray, List.map_cons, List.map_nil]); first | done | rfl | (simp only [List.length_drop, List.length_take]; rfl)) ?_
                with_reducible refine (impl_ValidRing.calls 1 t550 t553 _ A17.out).mono ?_
                rintro e w24 ⟨rfl, hb⟩
                refine ⟨_, rfl, ?_⟩
                have n0_ := Aside0.mk (blk_below (g := gb549) (o := .cells #[.int .i64 0, .int .i64 0] 39 (0, 0)) (by (with_reducible repeat (first | refine blk_drewN ?_ _ | refine blk_drew ?_ | refine blk_alloc ?_ _)); exact BK549.out) hb)
                have n1_ := Aside0.mk (blk_below (g := gb552) (o := .cells #[.int .i64 1, .int .i64 t550] 39 (0, 0)) (by (with_reducible repeat (first | refine blk_drewN ?_ _ | refine blk_drew ?_ | refine blk_alloc ?_ _)); exact BK552.out) hb)
                have n2_ := Aside0.mk (below_step (by repeat (first | (with_reducible first | exact HB.out | apply below_alloc | apply pw_below_drewN | apply below_drew1 | refine below_set ?_ GE549.out | refine below_set ?_ GE552.out) | exact HB.out)) hb)
                clear BK549
                clear BK552
                clear HB
                have BK549 := n0_
                have BK552 := n1_
                have HB := n2_
                clear n0_ n1_ n2_
                (try clear hb)
                (try clear hb2)
                (try clear hk)
                (try clear hi)
                refine hK.out _ _ ⟨(blk_cell BK552.out 0).trans rfl, (blk_cell BK552.out 1).trans rfl⟩ (fun hHeld => ?_)
                clear hK K
                refine norm_ (a' := ?_) ?_ ?_
                rotate_left
                · show Act.put _ (some 36) _ = _
                  simp only [Act.put, List.setIfInBounds_toArray, List.set_cons_zero, List.set_cons_succ, i64_w, i32_w]
                  rfl
                refine pure_ (i := 5) (N := some 37) (v := ?_) (a' := ?_) #[true, true, true, true, true, true, false, false] rfl rfl (any_of HT_.out (by kernel_rfl)) (fun _ _ _ h => h) (Or.inl ⟨by rfl, ?_⟩) ?_ ?_
                rotate_left
                · intro w'
                  go_simp
                  with_reducible rfl
                rotate_left
                · simp only [Act.put, List.setIfInBounds_toArray, List.set_cons_zero, List.set_cons_succ, i64_w, i32_w]
                  rfl
                refine one_ (i := 6) (N := none) #[true, true, true, true, true, true, true, false] rfl rfl (one_of HT_.out (by kernel_rfl)) (by decide) (fun K hK => ?_)
                have hs25 : w24.cell? ⟨gb549, 0, none⟩ = some (.int .i64 0) := (blk_cell BK549.out 0).trans rfl
                have hfs25 := blk_frozen BK549.out 0
                have hns25_1 := NB552_549.out
                have hms25_1 := NB549_552.out
                have hs26 : w24.cell? ⟨gb549, 1, none⟩ = some (.int .i64 0) := (blk_cell BK549.out 1).trans rfl
                have hfs26 := blk_frozen BK549.out 1
                have hns26_1 := NB552_549.out
                have hms26_1 := NB549_552.out
                refine skip_ (w1 := ?_) (by rfl) rfl ?_ ?_
                rotate_left
                · go_simp
                  rfl
                refine hK.out _ _ ⟨((cell_far (p := ⟨gb549, _, none⟩) NB552_549.out _).trans (((cell_far (p := ⟨gb549, _, none⟩) NB552_549.out _).trans (hHeld.1)))), ((cell_far (p := ⟨gb549, _, none⟩) NB552_549.out _).trans (((cell_far (p := ⟨gb549, _, none⟩) NB552_549.out _).trans (hHeld.2))))⟩ (fun hHeld => ?_)
                clear hK K
                refine pure_ (i := 7) (N := some 3) (v := ?_) (a' := ?_) #[true, true, true, true, true, true, true, true] rfl rfl (any_of HT_.out (by kernel_rfl)) (fun _ _ _ h => h) (Or.inl ⟨by rfl, ?_⟩) ?_ ?_
                rotate_left
                · intro w'
                  go_simp
                  with_reducible rfl
                rotate_left
                · simp only [Act.put, List.setIfInBounds_toArray, List.set_cons_zero, List.set_cons_succ, i64_w, i32_w]
                  rfl
                refine done_ (done_of HT_.out (by kernel_rfl)) ?_
                try go_wp2
                refine bodyPost_ret (results_ct rfl _ _ gb549 39 #[.int .i64 1, .int .i64 t550] (0, 0) _ rfl (by (with_reducible repeat (first | refine blk_drewN ?_ _ | refine blk_drew ?_ | refine blk_alloc ?_ _)); refine blk_put (cs := #[.int .i64 1, .int .i64 0]) ?_ 1 _ rfl; (with_reducible repeat (first | refine blk_drewN ?_ _ | refine blk_drew ?_ | refine blk_alloc ?_ _)); refine blk_put (cs := #[.int .i64 0, .int .i64 0]) ?_ 0 _ rfl; (with_reducible repeat (first | refine blk_drewN ?_ _ | refine blk_drew ?_ | refine blk_alloc ?_ _)); exact BK549.out) Tryd.underlying39 rfl (by kernel_rfl)) rfl ?_
                exact ⟨by first | rfl | (simp [errW_none, errW_some] <;> rfl) | (simp [*, errW_none, errW_some] <;> rfl), by repeat (first | (with_reducible first | exact HB.out | apply below_alloc | apply pw_below_drewN | apply below_drew1 | refine below_set ?_ GE549.out | refine below_set ?_ GE552.out) | exact HB.out)⟩
              · replace c16 := Bool.eq_false_iff.mpr c16
                subst c16
                have H1 : (some (1, t550, false)) = some (r1, r2, r3) := by rw [if_neg (show ¬ (false = true) by decide)] at H; exact H
                clear H
                have H := H1
                clear H1
                simp only [Option.some.injEq, Prod.mk.injEq] at H
                obtain ⟨rfl, rfl, rfl⟩ := H
                try go_wp2_with (first | ((with_reducible refine gate_callee (f := 56) rfl ?_); refine goesL_ (some 23) rfl rfl Tryd.func56 (by kernel_rfl) rfl #[.string (a0.extract 1 a0.size)] rfl (by (try simp only [List.map_toArray, List.map_cons, List.map_nil]); first | done | rfl | (simp only [List.length_drop, List.length_take]; rfl)) ?_; (with_reducible refine (impl_ReadDecimal.calls (a0.extract 1 a0.size) t550 false _ ?side1 A12.out).mono ?_); (case side1 => first | exact HT.out | exact Tb.TC.below HT.out (by repeat (first | (with_reducible first | exact HB.out | apply below_alloc | apply pw_below_drewN | apply below_drew1 | refine below_set ?_ GE549.out) | exact HB.out))); rintro e w27 ⟨rfl, hb⟩; refine ⟨_, rfl, ?_⟩; have n0_ := Aside0.mk (blk_below (g := gb549) (o := .cells #[.int .i64 0, .int .i64 0] 39 (0, 0)) (by (with_reducible repeat (first | refine blk_drewN ?_ _ | refine blk_drew ?_ | refine blk_alloc ?_ _)); exact BK549.out) hb); have n1_ := Aside0.mk (below_step (by repeat (first | (with_reducible first | exact HB.out | apply below_alloc | apply pw_below_drewN | apply below_drew1 | refine below_set ?_ GE549.out) | exact HB.out)) hb); clear BK549; clear HB; have BK549 := n0_; have HB := n1_; clear n0_ n1_; (try clear hb); (try clear hb2); (try clear hk); (try clear hi)) | ((with_reducible refine gate_dst (N := 6) rfl ?_); refine box_event ?hg (N := 6) ?hd (cs := #[.int .i64 0, .int .i64 0]) (t := 39) ?hr ?_; (case hd => rfl); (case hg => rfl); (case hr => first | (go_simp; done) | (go_simp; rfl)); intro gb552 hg w28 hbox hb; have n0_ := Aside0.mk (blk_below (g := gb549) (o := .cells #[.int .i64 0, .int .i64 0] 39 (0, 0)) (by (with_reducible repeat (first | refine blk_drewN ?_ _ | refine blk_drew ?_ | refine blk_alloc ?_ _)); exact BK549.out) hb); have n1_ := Aside0.mk (below_step (by repeat (first | (with_reducible first | exact HB.out | apply below_alloc | apply pw_below_drewN | apply below_drew1 | refine below_set ?_ GE549.out) | exact HB.out)) hb); have n2_ := Aside0.mk (hbox); have n3_ := Aside0.mk ((by rw [hg]; exact (below_size (by repeat (first | (with_reducible first | exact HB.out | apply below_alloc | apply pw_below_drewN | apply below_drew1 | refine below_set ?_ GE549.out) | exact HB.out))) : w.heap.size ≤ gb552)); have n4_ := Aside0.mk ((by rw [hg]; exact (below_size (by repeat (first | (with_reducible first | exact HB.out | apply below_alloc | apply pw_below_drewN | apply below_drew1 | refine below_set ?_ GE549.out) | exact HB.out))) : w.heap.size ≤ gb552)); have n5_ := Aside0.mk ((by rw [hg]; exact Nat.ne_of_lt (blk_lt (g := gb549) (o := .cells #[.int .i64 0, .int .i64 0] 39 (0, 0)) (by (with_reducible repeat (first | refine blk_drewN ?_ _ | refine blk_drew ?_ | refine blk_alloc ?_ _)); exact BK549.out)) : gb549 ≠ gb552)); have n6_ := Aside0.mk ((by rw [hg]; exact Nat.ne_of_gt (blk_lt (g := gb549) (o := .cells #[.int .i64 0, .int .i64 0] 39 (0, 0)) (by (with_reducible repeat (first | refine blk_drewN ?_ _ | refine blk_drew ?_ | refine blk_alloc ?_ _)); exact BK549.out)) : gb552 ≠ gb549)); clear BK549; clear HB; have BK549 := n0_; have HB := n1_; have BK552 := n2_; have GW552 := n3_; have GE552 := n4_; have NB549_552 := n5_; have NB552_549 := n6_; clear n0_ n1_ n2_ n3_ n4_ n5_ n6_; clear hb hbox hg; have hnb29 := NB552_549.out; have hnc29 := NB549_552.out; have hcz30_0 : w28.cell? ⟨gb552, 0, none⟩ = some (.int .i64 0) := (blk_cell BK552.out 0).trans rfl; have hcz30_1 : w28.cell? ⟨gb552, 1, none⟩ = some (.int .i64 0) := (blk_cell BK552.out 1).trans rfl; have hfz30_0 := blk_frozen BK552.out 0; have hfz30_1 := blk_frozen BK552.out 1; have p14 : 0 ≤ (0 : Int) := (by omega); have q14 : 0 < a0.size := (by have : (0 : Int) < (a0.size : Int) := of_decide_eq_true (by first | (with_reducible assumption) | assumption); omega); have hx14 : ∀ h : 0 < a0.size, ((a0[0]'h).toNat : Int) = bt a0 0 := bt_at a0 0; clear p14; have qi14 : (0 < (a0.size : Int)) = True := eq_true (of_decide_eq_true (by first | (with_reducible assumption) | assumption)); replace q14 := eq_true q14))
                have n0_ : Aside0 ((((w28.setCell ⟨gb552, 0, none⟩ (.int .i64 0)).setCell ⟨gb552, 1, none⟩ (.int .i64 t550)).setCell ⟨gb552, 0, none⟩ (.int .i64 1)).heap[gb549]? = some (.cells #[.int .i64 0, .int .i64 0] 39 (0, 0))) := ⟨by (with_reducible repeat (first | refine blk_drewN ?_ _ | refine blk_drew ?_ | refine blk_alloc ?_ _)); refine blk_far ?_ NB549_552.out _; (with_reducible repeat (first | refine blk_drewN ?_ _ | refine blk_drew ?_ | refine blk_alloc ?_ _)); refine blk_far ?_ NB549_552.out _; (with_reducible repeat (first | refine blk_drewN ?_ _ | refine blk_drew ?_ | refine blk_alloc ?_ _)); refine blk_far ?_ NB549_552.out _; (with_reducible repeat (first | refine blk_drewN ?_ _ | refine blk_drew ?_ | refine blk_alloc ?_ _)); exact BK549.out⟩
                have n1_ : Aside0 ((((w28.setCell ⟨gb552, 0, none⟩ (.int .i64 0)).setCell ⟨gb552, 1, none⟩ (.int .i64 t550)).setCell ⟨gb552, 0, none⟩ (.int .i64 1)).heap[gb552]? = some (.cells #[.int .i64 1, .int .i64 t550] 39 (0, 0))) := ⟨by (with_reducible repeat (first | refine blk_drewN ?_ _ | refine blk_drew ?_ | refine blk_alloc ?_ _)); refine blk_put (cs := #[.int .i64 0, .int .i64 t550]) ?_ 0 _ rfl; (with_reducible repeat (first | refine blk_drewN ?_ _ | refine blk_drew ?_ | refine blk_alloc ?_ _)); refine blk_put (cs := #[.int .i64 0, .int .i64 0]) ?_ 1 _ rfl; (with_reducible repeat (first | refine blk_drewN ?_ _ | refine blk_drew ?_ | refine blk_alloc ?_ _)); refine blk_put (cs := #[.int .i64 0, .int .i64 0]) ?_ 0 _ rfl; (with_reducible repeat (first | refine blk_drewN ?_ _ | refine blk_drew ?_ | refine blk_alloc ?_ _)); exact BK552.out⟩
                have n2_ : Aside0 (Below w.heap.size w (((w28.setCell ⟨gb552, 0, none⟩ (.int .i64 0)).setCell ⟨gb552, 1, none⟩ (.int .i64 t550)).setCell ⟨gb552, 0, none⟩ (.int .i64 1))) := ⟨by repeat (first | (with_reducible first | exact HB.out | apply below_alloc | apply pw_below_drewN | apply below_drew1 | refine below_set ?_ GE549.out | refine below_set ?_ GE552.out) | exact HB.out)⟩
                (try clear BK549)
                (try clear BK552)
                (try clear HB)
                generalize (((w28.setCell ⟨gb552, 0, none⟩ (.int .i64 0)).setCell ⟨gb552, 1, none⟩ (.int .i64 t550)).setCell ⟨gb552, 0, none⟩ (.int .i64 1)) = w31 at n0_ n1_ n2_ ⊢
                have BK549 := n0_
                have BK552 := n1_
                have HB := n2_
                clear n0_ n1_ n2_
                have n0_ := Aside0.mk (blk_drew BK549.out)
                have n1_ := Aside0.mk (blk_drew BK552.out)
                have n2_ := Aside0.mk (below_drew1 HB.out)
                clear BK549
                clear BK552
                clear HB
                have BK549 := n0_
                have BK552 := n1_
                have HB := n2_
                clear n0_ n1_ n2_
                refine start_ (n := 8) (S := fun w' => w'.cell? ⟨gb552, 0, none⟩ = some (.int .i64 1) ∧ w'.cell? ⟨gb552, 1, none⟩ = some (.int .i64 t550)) (ds := []) #[false, false, false, false, false, false, false, false] (by kernel_rfl) rfl rfl ⟨(blk_cell BK552.out 0).trans rfl, (blk_cell BK552.out 1).trans rfl⟩ (fun hHeld => ?_); refine with_tabW impl_readRing.tab7 impl_readRing.bits7 (fun HT_ HW_ => ?_)
                generalize w31.drew = w32 at BK549 BK552 HB hHeld ⊢
                refine pure_ (i := 1) (N := some 33) (v := ?_) (a' := ?_) #[false, true, false, false, false, false, false, false] rfl rfl (any_of HT_.out (by kernel_rfl)) (fun _ _ _ h => h) (Or.inl ⟨by rfl, ?_⟩) ?_ ?_
                rotate_left
                · intro w'
                  go_simp
                  with_reducible rfl
                rotate_left
                · simp only [Act.put, List.setIfInBounds_toArray, List.set_cons_zero, List.set_cons_succ, i64_w, i32_w]
                  rfl
                refine pure_ (i := 2) (N := some 34) (v := ?_) (a' := ?_) #[false, true, true, false, false, false, false, false] rfl rfl (any_of HT_.out (by kernel_rfl)) (fun _ _ _ h => h) (Or.inl ⟨by rfl, ?_⟩) ?_ ?_
                rotate_left
                · intro w'
                  go_simp
                  with_reducible rfl
                rotate_left
                · simp only [Act.put, List.setIfInBounds_toArray, List.set_cons_zero, List.set_cons_succ, i64_w, i32_w]
                  rfl
                refine pure_ (i := 3) (N := some 35) (v := undef) (a' := ?_) #[false, true, true, true, false, false, false, false] rfl rfl (any_of HT_.out (by kernel_rfl)) (fun _ _ _ h => h) (Or.inr ⟨by rfl, rfl⟩) ?_ ?_
                rotate_left
                · simp only [Act.put, List.setIfInBounds_toArray, List.set_cons_zero, List.set_cons_succ, i64_w, i32_w]
                  rfl
                refine pure_ (i := 4) (N := some 36) (v := undef) (a' := ?_) #[false, true, true, true, true, false, false, false] rfl rfl (any_of HT_.out (by kernel_rfl)) (fun _ _ _ h => h) (Or.inr ⟨by rfl, rfl⟩) ?_ ?_
                rotate_left
                · simp only [Act.put, List.setIfInBounds_toArray, List.set_cons_zero, List.set_cons_succ, i64_w, i32_w]
                  rfl
                refine pure_ (i := 5) (N := some 37) (v := ?_) (a' := ?_) #[false, true, true, true, true, true, false, false] rfl rfl (any_of HT_.out (by kernel_rfl)) (fun _ _ _ h => h) (Or.inl ⟨by rfl, ?_⟩) ?_ ?_
                rotate_left
                · intro w'
                  go_simp
                  with_reducible rfl
                rotate_left
                · simp only [Act.put, List.setIfInBounds_toArray, List.set_cons_zero, List.set_cons_succ, i64_w, i32_w]
                  rfl
                refine take_ (i := 0) (N := some 32) (v := ?_) (a' := ?_) #[true, true, true, true, true, true, false, false] rfl rfl (take_ofW HT_.out HW_.out (by kernel_rfl)) (fun _ _ _ h => h) (Or.inl ⟨by rfl, ?_⟩) hHeld ?_ ?_
                rotate_left
                · rintro w' ⟨s0, s1⟩
                  go_simp
                  with_reducible rfl
                rotate_left
                · simp only [Act.put, List.setIfInBounds_toArray, List.set_cons_zero, List.set_cons_succ, i64_w, i32_w]
                  rfl
                refine one_ (i := 6) (N := none) #[true, true, true, true, true, true, true, false] rfl rfl (one_of HT_.out (by kernel_rfl)) (by decide) (fun K hK => ?_)
                have hs33 : w32.cell? ⟨gb549, 0, none⟩ = some (.int .i64 0) := (blk_cell BK549.out 0).trans rfl
                have hfs33 := blk_frozen BK549.out 0
                have hns33_1 := NB552_549.out
                have hms33_1 := NB549_552.out
                have hs34 : w32.cell? ⟨gb549, 1, none⟩ = some (.int .i64 0) := (blk_cell BK549.out 1).trans rfl
                have hfs34 := blk_frozen BK549.out 1
                have hns34_1 := NB552_549.out
                have hms34_1 := NB549_552.out
                refine skip_ (w1 := ?_) (by rfl) rfl ?_ ?_
                rotate_left
                · go_simp
                  rfl
                refine hK.out _ _ ⟨((cell_far (p := ⟨gb549, _, none⟩) NB552_549.out _).trans (((cell_far (p := ⟨gb549, _, none⟩) NB552_549.out _).trans (hHeld.1)))), ((cell_far (p := ⟨gb549, _, none⟩) NB552_549.out _).trans (((cell_far (p := ⟨gb549, _, none⟩) NB552_549.out _).trans (hHeld.2))))⟩ (fun hHeld => ?_)
                clear hK K
                refine pure_ (i := 7) (N := some 3) (v := ?_) (a' := ?_) #[true, true, true, true, true, true, true, true] rfl rfl (any_of HT_.out (by kernel_rfl)) (fun _ _ _ h => h) (Or.inl ⟨by rfl, ?_⟩) ?_ ?_
                rotate_left
                · intro w'
                  go_simp
                  with_reducible rfl
                rotate_left
                · simp only [Act.put, List.setIfInBounds_toArray, List.set_cons_zero, List.set_cons_succ, i64_w, i32_w]
                  rfl
                refine done_ (done_of HT_.out (by kernel_rfl)) ?_
                try go_wp2
                refine bodyPost_ret (results_ct rfl _ _ gb549 39 #[.int .i64 1, .int .i64 t550] (0, 0) _ rfl (by (with_reducible repeat (first | refine blk_drewN ?_ _ | refine blk_drew ?_ | refine blk_alloc ?_ _)); refine blk_put (cs := #[.int .i64 1, .int .i64 0]) ?_ 1 _ rfl; (with_reducible repeat (first | refine blk_drewN ?_ _ | refine blk_drew ?_ | refine blk_alloc ?_ _)); refine blk_put (cs := #[.int .i64 0, .int .i64 0]) ?_ 0 _ rfl; (with_reducible repeat (first | refine blk_drewN ?_ _ | refine blk_drew ?_ | refine blk_alloc ?_ _)); exact BK549.out) Tryd.underlying39 rfl (by kernel_rfl)) rfl ?_
                exact ⟨by first | rfl | (simp [errW_none, errW_some] <;> rfl) | (simp [*, errW_none, errW_some] <;> rfl), by repeat (first | (with_reducible first | exact HB.out | apply below_alloc | apply pw_below_drewN | apply below_drew1 | refine below_set ?_ GE549.out | refine below_set ?_ GE552.out) | exact HB.out)⟩
            · rw [if_neg c15] at H
              have c15b0 : ((bt a0 0) == 116) = false := beq_eq_false_iff_ne.mpr c15
              have c15b1 : ((bt a0 0) != 116) = true := bne_iff_ne.mpr c15
              by_cases c35 : t551 = true
              · subst c35
                have H1 : ((impl_ValidRing.f 0 t550).bind fun t554 => (some (0, t550, t554))) = some (r1, r2, r3) := by rw [if_pos rfl] at H; exact H
                clear H
                have H := H1
                clear H1
                replace H := Option.bind_eq_some_iff.mp H
                obtain ⟨t554, A360, H⟩ := H
                replace H : (some (0, t550, t554)) = some (r1, r2, r3) := H
                have A36 := Aside0.mk A360
                clear A360
                simp only [Option.some.injEq, Prod.mk.injEq] at H
                obtain ⟨rfl, rfl, rfl⟩ := H
                try go_wp2_with (first | ((with_reducible refine gate_callee (f := 56) rfl ?_); refine goesL_ (some 23) rfl rfl Tryd.func56 (by kernel_rfl) rfl #[.string (a0.extract 1 a0.size)] rfl (by (try simp only [List.map_toArray, List.map_cons, List.map_nil]); first | done | rfl | (simp only [List.length_drop, List.length_take]; rfl)) ?_; (with_reducible refine (impl_ReadDecimal.calls (a0.extract 1 a0.size) t550 true _ ?side1 A12.out).mono ?_); (case side1 => first | exact HT.out | exact Tb.TC.below HT.out (by repeat (first | (with_reducible first | exact HB.out | apply below_alloc | apply pw_below_drewN | apply below_drew1 | refine below_set ?_ GE549.out) | exact HB.out))); rintro e w37 ⟨rfl, hb⟩; refine ⟨_, rfl, ?_⟩; have n0_ := Aside0.mk (blk_below (g := gb549) (o := .cells #[.int .i64 0, .int .i64 0] 39 (0, 0)) (by (with_reducible repeat (first | refine blk_drewN ?_ _ | refine blk_drew ?_ | refine blk_alloc ?_ _)); exact BK549.out) hb); have n1_ := Aside0.mk (below_step (by repeat (first | (with_reducible first | exact HB.out | apply below_alloc | apply pw_below_drewN | apply below_drew1 | refine below_set ?_ GE549.out) | exact HB.out)) hb); clear BK549; clear HB; have BK549 := n0_; have HB := n1_; clear n0_ n1_; (try clear hb); (try clear hb2); (try clear hk); (try clear hi)) | ((with_reducible refine gate_dst (N := 6) rfl ?_); refine box_event ?hg (N := 6) ?hd (cs := #[.int .i64 0, .int .i64 0]) (t := 39) ?hr ?_; (case hd => rfl); (case hg => rfl); (case hr => first | (go_simp; done) | (go_simp; rfl)); intro gb552 hg w38 hbox hb; have n0_ := Aside0.mk (blk_below (g := gb549) (o := .cells #[.int .i64 0, .int .i64 0] 39 (0, 0)) (by (with_reducible repeat (first | refine blk_drewN ?_ _ | refine blk_drew ?_ | refine blk_alloc ?_ _)); exact BK549.out) hb); have n1_ := Aside0.mk (below_step (by repeat (first | (with_reducible first | exact HB.out | apply below_alloc | apply pw_below_drewN | apply below_drew1 | refine below_set ?_ GE549.out) | exact HB.out)) hb); have n2_ := Aside0.mk (hbox); have n3_ := Aside0.mk ((by rw [hg]; exact (below_size (by repeat (first | (with_reducible first | exact HB.out | apply below_alloc | apply pw_below_drewN | apply below_drew1 | refine below_set ?_ GE549.out) | exact HB.out))) : w.heap.size ≤ gb552)); have n4_ := Aside0.mk ((by rw [hg]; exact (below_size (by repeat (first | (with_reducible first | exact HB.out | apply below_alloc | apply pw_below_drewN | apply below_drew1 | refine below_set ?_ GE549.out) | exact HB.out))) : w.heap.size ≤ gb552)); have n5_ := Aside0.mk ((by rw [hg]; exact Nat.ne_of_lt (blk_lt (g := gb549) (o := .cells #[.int .i64 0, .int .i64 0] 39 (0, 0)) (by (with_reducible repeat (first | refine blk_drewN ?_ _ | refine blk_drew ?_ | refine blk_alloc ?_ _)); exact BK549.out)) : gb549 ≠ gb552)); have n6_ := Aside0.mk ((by rw [hg]; exact Nat.ne_of_gt (blk_lt (g := gb549) (o := .cells #[.int .i64 0, .int .i64 0] 39 (0, 0)) (by (with_reducible repeat (first | refine blk_drewN ?_ _ | refine blk_drew ?_ | refine blk_alloc ?_ _)); exact BK549.out)) : gb552 ≠ gb549)); clear BK549; clear HB; have BK549 := n0_; have HB := n1_; have BK552 := n2_; have GW552 := n3_; have GE552 := n4_; have NB549_552 := n5_; have NB552_549 := n6_; clear n0_ n1_ n2_ n3_ n4_ n5_ n6_; clear hb hbox hg; have hnb39 := NB552_549.out; have hnc39 := NB549_552.out; have hcz40_0 : w38.cell? ⟨gb552, 0, none⟩ = some (.int .i64 0) := (blk_cell BK552.out 0).trans rfl; have hcz40_1 : w38.cell? ⟨gb552, 1, none⟩ = some (.int .i64 0) := (blk_cell BK552.out 1).trans rfl; have hfz40_0 := blk_frozen BK552.out 0; have hfz40_1 := blk_frozen BK552.out 1; have p14 : 0 ≤ (0 : Int) := (by omega); have q14 : 0 < a0.size := (by have : (0 : Int) < (a0.size : Int) := of_decide_eq_true (by first | (with_reducible assumption) | assumption); omega); have hx14 : ∀ h : 0 < a0.size, ((a0[0]'h).toNat : Int) = bt a0 0 := bt_at a0 0; clear p14; have qi14 : (0 < (a0.size : Int)) = True := eq_true (of_decide_eq_true (by first | (with_reducible assumption) | assumption)); replace q14 := eq_true q14))
                have n0_ : Aside0 (((w38.setCell ⟨gb552, 0, none⟩ (.int .i64 0)).setCell ⟨gb552, 1, none⟩ (.int .i64 t550)).heap[gb549]? = some (.cells #[.int .i64 0, .int .i64 0] 39 (0, 0))) := ⟨by (with_reducible repeat (first | refine blk_drewN ?_ _ | refine blk_drew ?_ | refine blk_alloc ?_ _)); refine blk_far ?_ NB549_552.out _; (with_reducible repeat (first | refine blk_drewN ?_ _ | refine blk_drew ?_ | refine blk_alloc ?_ _)); refine blk_far ?_ NB549_552.out _; (with_reducible repeat (first | refine blk_drewN ?_ _ | refine blk_drew ?_ | refine blk_alloc ?_ _)); exact BK549.out⟩
                have n1_ : Aside0 (((w38.setCell ⟨gb552, 0, none⟩ (.int .i64 0)).setCell ⟨gb552, 1, none⟩ (.int .i64 t550)).heap[gb552]? = some (.cells #[.int .i64 0, .int .i64 t550] 39 (0, 0))) := ⟨by (with_reducible repeat (first | refine blk_drewN ?_ _ | refine blk_drew ?_ | refine blk_alloc ?_ _)); refine blk_put (cs := #[.int .i64 0, .int .i64 0]) ?_ 1 _ rfl; (with_reducible repeat (first | refine blk_drewN ?_ _ | refine blk_drew ?_ | refine blk_alloc ?_ _)); refine blk_put (cs := #[.int .i64 0, .int .i64 0]) ?_ 0 _ rfl; (with_reducible repeat (first | refine blk_drewN ?_ _ | refine blk_drew ?_ | refine blk_alloc ?_ _)); exact BK552.out⟩
                have n2_ : Aside0 (Below w.heap.size w ((w38.setCell ⟨gb552, 0, none⟩ (.int .i64 0)).setCell ⟨gb552, 1, none⟩ (.int .i64 t550))) := ⟨by repeat (first | (with_reducible first | exact HB.out | apply below_alloc | apply pw_below_drewN | apply below_drew1 | refine below_set ?_ GE549.out | refine below_set ?_ GE552.out) | exact HB.out)⟩
                (try clear BK549)
                (try clear BK552)
                (try clear HB)
                generalize ((w38.setCell ⟨gb552, 0, none⟩ (.int .i64 0)).setCell ⟨gb552, 1, none⟩ (.int .i64 t550)) = w41 at n0_ n1_ n2_ ⊢
                have BK549 := n0_
                have BK552 := n1_
                have HB := n2_
                clear n0_ n1_ n2_
                have n0_ := Aside0.mk (blk_drew BK549.out)
                have n1_ := Aside0.mk (blk_drew BK552.out)
                have n2_ := Aside0.mk (below_drew1 HB.out)
                clear BK549
                clear BK552
                clear HB
                have BK549 := n0_
                have BK552 := n1_
                have HB := n2_
                clear n0_ n1_ n2_
                refine start_ (n := 8) (S := fun w' => w'.cell? ⟨gb552, 0, none⟩ = some (.int .i64 0) ∧ w'.cell? ⟨gb552, 1, none⟩ = some (.int .i64 t550)) (ds := []) #[false, false, false, false, false, false, false, false] (by kernel_rfl) rfl rfl ⟨(blk_cell BK552.out 0).trans rfl, (blk_cell BK552.out 1).trans rfl⟩ (fun hHeld => ?_); refine with_tabW impl_readRing.tab7 impl_readRing.bits7 (fun HT_ HW_ => ?_)
                generalize w41.drew = w42 at BK549 BK552 HB hHeld ⊢
                refine pure_ (i := 1) (N := some 33) (v := ?_) (a' := ?_) #[false, true, false, false, false, false, false, false] rfl rfl (any_of HT_.out (by kernel_rfl)) (fun _ _ _ h => h) (Or.inl ⟨by rfl, ?_⟩) ?_ ?_
                rotate_left
                · intro w'
                  go_simp
                  with_reducible rfl
                rotate_left
                · simp only [Act.put, List.setIfInBounds_toArray, List.set_cons_zero, List.set_cons_succ, i64_w, i32_w]
                  rfl
                refine pure_ (i := 2) (N := some 34) (v := ?_) (a' := ?_) #[false, true, true, false, false, false, false, false] rfl rfl (any_of HT_.out (by kernel_rfl)) (fun _ _ _ h => h) (Or.inl ⟨by rfl, ?_⟩) ?_ ?_
                rotate_left
                · intro w'
                  go_simp
                  with_reducible rfl
                rotate_left
                · simp only [Act.put, List.setIfInBounds_toArray, List.set_cons_zero, List.set_cons_succ, i64_w, i32_w]
                  rfl
                refine take_ (i := 0) (N := some 32) (v := ?_) (a' := ?_) #[true, true, true, false, false, false, false, false] rfl rfl (take_ofW HT_.out HW_.out (by kernel_rfl)) (fun _ _ _ h => h) (Or.inl ⟨by rfl, ?_⟩) hHeld ?_ ?_
                rotate_left
                · rintro w' ⟨s0, s1⟩
                  go_simp
                  with_reducible rfl
                rotate_left
                · simp only [Act.put, List.setIfInBounds_toArray, List.set_cons_zero, List.set_cons_succ, i64_w, i32_w]
                  rfl
                refine take_ (i := 3) (N := some 35) (v := ?_) (a' := ?_) #[true, true, true, true, false, false, false, false] rfl rfl (take_ofW HT_.out HW_.out (by kernel_rfl)) (fun _ _ _ h => h) (Or.inl ⟨by rfl, ?_⟩) hHeld ?_ ?_
                rotate_left
                · rintro w' ⟨s0, s1⟩
                  go_simp
                  with_reducible rfl
                rotate_left
                · simp only [Act.put, List.setIfInBounds_toArray, List.set_cons_zero, List.set_cons_succ, i64_w, i32_w]
                  rfl
                refine one_ (i := 4) (N := some 36) #[true, true, true, true, true, false, false, false] rfl rfl (one_of HT_.out (by kernel_rfl)) (by decide) (fun K hK => ?_)
                refine goes_ Tryd.func80 (by kernel_rfl) rfl #[.agg #[.int .i64 0, .int .i64 t550]] (by rfl) rfl rfl (by (try simp only [List.map_toArray, List.map_cons, List.map_nil]); first | done | rfl | (simp only [List.length_drop, List.length_take]; rfl)) ?_
                with_reducible refine (impl_ValidRing.calls 0 t550 t554 _ A36.out).mono ?_
                rintro e w43 ⟨rfl, hb⟩
                refine ⟨_, rfl, ?_⟩
                have n0_ := Aside0.mk (blk_below (g := gb549) (o := .cells #[.int .i64 0, .int .i64 0] 39 (0, 0)) (by (with_reducible repeat (first | refine blk_drewN ?_ _ | refine blk_drew ?_ | refine blk_alloc ?_ _)); exact BK549.out) hb)
                have n1_ := Aside0.mk (blk_below (g := gb552) (o := .cells #[.int .i64 0, .int .i64 t550] 39 (0, 0)) (by (with_reducible repeat (first | refine blk_drewN ?_ _ | refine blk_drew ?_ | refine blk_alloc ?_ _)); exact BK552.out) hb)
                have n2_ := Aside0.mk (below_step (by repeat (first | (with_reducible first | exact HB.out | apply below_alloc | apply pw_below_drewN | apply below_drew1 | refine below_set ?_ GE549.out | refine below_set ?_ GE552.out) | exact HB.out)) hb)
                clear BK549
                clear BK552
                clear HB
                have BK549 := n0_
                have BK552 := n1_
                have HB := n2_
                clear n0_ n1_ n2_
                (try clear hb)
                (try clear hb2)
                (try clear hk)
                (try clear hi)
                refine hK.out _ _ ⟨(blk_cell BK552.out 0).trans rfl, (blk_cell BK552.out 1).trans rfl⟩ (fun hHeld => ?_)
                clear hK K
                refine norm_ (a' := ?_) ?_ ?_
                rotate_left
                · show Act.put _ (some 36) _ = _
                  simp only [Act.put, List.setIfInBounds_toArray, List.set_cons_zero, List.set_cons_succ, i64_w, i32_w]
                  rfl
                refine pure_ (i := 5) (N := some 37) (v := ?_) (a' := ?_) #[true, true, true, true, true, true, false, false] rfl rfl (any_of HT_.out (by kernel_rfl)) (fun _ _ _ h => h) (Or.inl ⟨by rfl, ?_⟩) ?_ ?_
                rotate_left
                · intro w'
                  go_simp
                  with_reducible rfl
                rotate_left
                · simp only [Act.put, List.setIfInBounds_toArray, List.set_cons_zero, List.set_cons_succ, i64_w, i32_w]
                  rfl
                refine one_ (i := 6) (N := none) #[true, true, true, true, true, true, true, false] rfl rfl (one_of HT_.out (by kernel_rfl)) (by decide) (fun K hK => ?_)
                have hs44 : w43.cell? ⟨gb549, 0, none⟩ = some (.int .i64 0) := (blk_cell BK549.out 0).trans rfl
                have hfs44 := blk_frozen BK549.out 0
                have hns44_1 := NB552_549.out
                have hms44_1 := NB549_552.out
                have hs45 : w43.cell? ⟨gb549, 1, none⟩ = some (.int .i64 0) := (blk_cell BK549.out 1).trans rfl
                have hfs45 := blk_frozen BK549.out 1
                have hns45_1 := NB552_549.out
                have hms45_1 := NB549_552.out
                refine skip_ (w1 := ?_) (by rfl) rfl ?_ ?_
                rotate_left
                · go_simp
                  rfl
                refine hK.out _ _ ⟨((cell_far (p := ⟨gb549, _, none⟩) NB552_549.out _).trans (((cell_far (p := ⟨gb549, _, none⟩) NB552_549.out _).trans (hHeld.1)))), ((cell_far (p := ⟨gb549, _, none⟩) NB552_549.out _).trans (((cell_far (p := ⟨gb549, _, none⟩) NB552_549.out _).trans (hHeld.2))))⟩ (fun hHeld => ?_)
                clear hK K
                refine pure_ (i := 7) (N := some 3) (v := ?_) (a' := ?_) #[true, true, true, true, true, true, true, true] rfl rfl (any_of HT_.out (by kernel_rfl)) (fun _ _ _ h => h) (Or.inl ⟨by rfl, ?_⟩) ?_ ?_
                rotate_left
                · intro w'
                  go_simp
                  with_reducible rfl
                rotate_left
                · simp only [Act.put, List.setIfInBounds_toArray, List.set_cons_zero, List.set_cons_succ, i64_w, i32_w]
                  rfl
                refine done_ (done_of HT_.out (by kernel_rfl)) ?_
                try go_wp2
                refine bodyPost_ret (results_ct rfl _ _ gb549 39 #[.int .i64 0, .int .i64 t550] (0, 0) _ rfl (by (with_reducible repeat (first | refine blk_drewN ?_ _ | refine blk_drew ?_ | refine blk_alloc ?_ _)); refine blk_put (cs := #[.int .i64 0, .int .i64 0]) ?_ 1 _ rfl; (with_reducible repeat (first | refine blk_drewN ?_ _ | refine blk_drew ?_ | refine blk_alloc ?_ _)); refine blk_put (cs := #[.int .i64 0, .int .i64 0]) ?_ 0 _ rfl; (with_reducible repeat (first | refine blk_drewN ?_ _ | refine blk_drew ?_ | refine blk_alloc ?_ _)); exact BK549.out) Tryd.underlying39 rfl (by kernel_rfl)) rfl ?_
                exact ⟨by first | rfl | (simp [errW_none, errW_some] <;> rfl) | (simp [*, errW_none, errW_some] <;> rfl), by repeat (first | (with_reducible first | exact HB.out | apply below_alloc | apply pw_below_drewN | apply below_drew1 | refine below_set ?_ GE549.out | refine below_set ?_ GE552.out) | exact HB.out)⟩
              · replace c35 := Bool.eq_false_iff.mpr c35
                subst c35
                have H1 : (some (0, t550, false)) = some (r1, r2, r3) := by rw [if_neg (show ¬ (false = true) by decide)] at H; exact H
                clear H
                have H := H1
                clear H1
                simp only [Option.some.injEq, Prod.mk.injEq] at H
                obtain ⟨rfl, rfl, rfl⟩ := H
                try go_wp2_with (first | ((with_reducible refine gate_callee (f := 56) rfl ?_); refine goesL_ (some 23) rfl rfl Tryd.func56 (by kernel_rfl) rfl #[.string (a0.extract 1 a0.size)] rfl (by (try simp only [List.map_toArray, List.map_cons, List.map_nil]); first | done | rfl | (simp only [List.length_drop, List.length_take]; rfl)) ?_; (with_reducible refine (impl_ReadDecimal.calls (a0.extract 1 a0.size) t550 false _ ?side1 A12.out).mono ?_); (case side1 => first | exact HT.out | exact Tb.TC.below HT.out (by repeat (first | (with_reducible first | exact HB.out | apply below_alloc | apply pw_below_drewN | apply below_drew1 | refine below_set ?_ GE549.out) | exact HB.out))); rintro e w46 ⟨rfl, hb⟩; refine ⟨_, rfl, ?_⟩; have n0_ := Aside0.mk (blk_below (g := gb549) (o := .cells #[.int .i64 0, .int .i64 0] 39 (0, 0)) (by (with_reducible repeat (first | refine blk_drewN ?_ _ | refine blk_drew ?_ | refine blk_alloc ?_ _)); exact BK549.out) hb); have n1_ := Aside0.mk (below_step (by repeat (first | (with_reducible first | exact HB.out | apply below_alloc | apply pw_below_drewN | apply below_drew1 | refine below_set ?_ GE549.out) | exact HB.out)) hb); clear BK549; clear HB; have BK549 := n0_; have HB := n1_; clear n0_ n1_; (try clear hb); (try clear hb2); (try clear hk); (try clear hi)) | ((with_reducible refine gate_dst (N := 6) rfl ?_); refine box_event ?hg (N := 6) ?hd (cs := #[.int .i64 0, .int .i64 0]) (t := 39) ?hr ?_; (case hd => rfl); (case hg => rfl); (case hr => first | (go_simp; done) | (go_simp; rfl)); intro gb552 hg w47 hbox hb; have n0_ := Aside0.mk (blk_below (g := gb549) (o := .cells #[.int .i64 0, .int .i64 0] 39 (0, 0)) (by (with_reducible repeat (first | refine blk_drewN ?_ _ | refine blk_drew ?_ | refine blk_alloc ?_ _)); exact BK549.out) hb); have n1_ := Aside0.mk (below_step (by repeat (first | (with_reducible first | exact HB.out | apply below_alloc | apply pw_below_drewN | apply below_drew1 | refine below_set ?_ GE549.out) | exact HB.out)) hb); have n2_ := Aside0.mk (hbox); have n3_ := Aside0.mk ((by rw [hg]; exact (below_size (by repeat (first | (with_reducible first | exact HB.out | apply below_alloc | apply pw_below_drewN | apply below_drew1 | refine below_set ?_ GE549.out) | exact HB.out))) : w.heap.size ≤ gb552)); have n4_ := Aside0.mk ((by rw [hg]; exact (below_size (by repeat (first | (with_reducible first | exact HB.out | apply below_alloc | apply pw_below_drewN | apply below_drew1 | refine below_set ?_ GE549.out) | exact HB.out))) : w.heap.size ≤ gb552)); have n5_ := Aside0.mk ((by rw [hg]; exact Nat.ne_of_lt (blk_lt (g := gb549) (o := .cells #[.int .i64 0, .int .i64 0] 39 (0, 0)) (by (with_reducible repeat (first | refine blk_drewN ?_ _ | refine blk_drew ?_ | refine blk_alloc ?_ _)); exact BK549.out)) : gb549 ≠ gb552)); have n6_ := Aside0.mk ((by rw [hg]; exact Nat.ne_of_gt (blk_lt (g := gb549) (o := .cells #[.int .i64 0, .int .i64 0] 39 (0, 0)) (by (with_reducible repeat (first | refine blk_drewN ?_ _ | refine blk_drew ?_ | refine blk_alloc ?_ _)); exact BK549.out)) : gb552 ≠ gb549)); clear BK549; clear HB; have BK549 := n0_; have HB := n1_; have BK552 := n2_; have GW552 := n3_; have GE552 := n4_; have NB549_552 := n5_; have NB552_549 := n6_; clear n0_ n1_ n2_ n3_ n4_ n5_ n6_; clear hb hbox hg; have hnb48 := NB552_549.out; have hnc48 := NB549_552.out; have hcz49_0 : w47.cell? ⟨gb552, 0, none⟩ = some (.int .i64 0) := (blk_cell BK552.out 0).trans rfl; have hcz49_1 : w47.cell? ⟨gb552, 1, none⟩ = some (.int .i64 0) := (blk_cell BK552.out 1).trans rfl; have hfz49_0 := blk_frozen BK552.out 0; have hfz49_1 := blk_frozen BK552.out 1; have p14 : 0 ≤ (0 : Int) := (by omega); have q14 : 0 < a0.size := (by have : (0 : Int) < (a0.size : Int) := of_decide_eq_true (by first | (with_reducible assumption) | assumption); omega); have hx14 : ∀ h : 0 < a0.size, ((a0[0]'h).toNat : Int) = bt a0 0 := bt_at a0 0; clear p14; have qi14 : (0 < (a0.size : Int)) = True := eq_true (of_decide_eq_true (by first | (with_reducible assumption) | assumption)); replace q14 := eq_true q14))
                have n0_ : Aside0 (((w47.setCell ⟨gb552, 0, none⟩ (.int .i64 0)).setCell ⟨gb552, 1, none⟩ (.int .i64 t550)).heap[gb549]? = some (.cells #[.int .i64 0, .int .i64 0] 39 (0, 0))) := ⟨by (with_reducible repeat (first | refine blk_drewN ?_ _ | refine blk_drew ?_ | refine blk_alloc ?_ _)); refine blk_far ?_ NB549_552.out _; (with_reducible repeat (first | refine blk_drewN ?_ _ | refine blk_drew ?_ | refine blk_alloc ?_ _)); refine blk_far ?_ NB549_552.out _; (with_reducible repeat (first | refine blk_drewN ?_ _ | refine blk_drew ?_ | refine blk_alloc ?_ _)); exact BK549.out⟩
                have n1_ : Aside0 (((w47.setCell ⟨gb552, 0, none⟩ (.int .i64 0)).setCell ⟨gb552, 1, none⟩ (.int .i64 t550)).heap[gb552]? = some (.cells #[.int .i64 0, .int .i64 t550] 39 (0, 0))) := ⟨by (with_reducible repeat (first | refine blk_drewN ?_ _ | refine blk_drew ?_ | refine blk_alloc ?_ _)); refine blk_put (cs := #[.int .i64 0, .int .i64 0]) ?_ 1 _ rfl; (with_reducible repeat (first | refine blk_drewN ?_ _ | refine blk_drew ?_ | refine blk_alloc ?_ _)); refine blk_put (cs := #[.int .i64 0, .int .i64 0]) ?_ 0 _ rfl; (with_reducible repeat (first | refine blk_drewN ?_ _ | refine blk_drew ?_ | refine blk_alloc ?_ _)); exact BK552.out⟩
                have n2_ : Aside0 (Below w.heap.size w ((w47.setCell ⟨gb552, 0, none⟩ (.int .i64 0)).setCell ⟨gb552, 1, none⟩ (.int .i64 t550))) := ⟨by repeat (first | (with_reducible first | exact HB.out | apply below_alloc | apply pw_below_drewN | apply below_drew1 | refine below_set ?_ GE549.out | refine below_set ?_ GE552.out) | exact HB.out)⟩
                (try clear BK549)
                (try clear BK552)
                (try clear HB)
                generalize ((w47.setCell ⟨gb552, 0, none⟩ (.int .i64 0)).setCell ⟨gb552, 1, none⟩ (.int .i64 t550)) = w50 at n0_ n1_ n2_ ⊢
                have BK549 := n0_
                have BK552 := n1_
                have HB := n2_
                clear n0_ n1_ n2_
                have n0_ := Aside0.mk (blk_drew BK549.out)
                have n1_ := Aside0.mk (blk_drew BK552.out)
                have n2_ := Aside0.mk (below_drew1 HB.out)
                clear BK549
                clear BK552
                clear HB
                have BK549 := n0_
                have BK552 := n1_
                have HB := n2_
                clear n0_ n1_ n2_
                refine start_ (n := 8) (S := fun w' => w'.cell? ⟨gb552, 0, none⟩ = some (.int .i64 0) ∧ w'.cell? ⟨gb552, 1, none⟩ = some (.int .i64 t550)) (ds := []) #[false, false, false, false, false, false, false, false] (by kernel_rfl) rfl rfl ⟨(blk_cell BK552.out 0).trans rfl, (blk_cell BK552.out 1).trans rfl⟩ (fun hHeld => ?_); refine with_tabW impl_readRing.tab7 impl_readRing.bits7 (fun HT_ HW_ => ?_)
                generalize w50.drew = w51 at BK549 BK552 HB hHeld ⊢
                refine pure_ (i := 1) (N := some 33) (v := ?_) (a' := ?_) #[false, true, false, false, false, false, false, false] rfl rfl (any_of HT_.out (by kernel_rfl)) (fun _ _ _ h => h) (Or.inl ⟨by rfl, ?_⟩) ?_ ?_
                rotate_left
                · intro w'
                  go_simp
                  with_reducible rfl
                rotate_left
                · simp only [Act.put, List.setIfInBounds_toArray, List.set_cons_zero, List.set_cons_succ, i64_w, i32_w]
                  rfl
                refine pure_ (i := 2) (N := some 34) (v := ?_) (a' := ?_) #[false, true, true, false, false, false, false, false] rfl rfl (any_of HT_.out (by kernel_rfl)) (fun _ _ _ h => h) (Or.inl ⟨by rfl, ?_⟩) ?_ ?_
                rotate_left
                · intro w'
                  go_simp
                  with_reducible rfl
                rotate_left
                · simp only [Act.put, List.setIfInBounds_toArray, List.set_cons_zero, List.set_cons_succ, i64_w, i32_w]
                  rfl
                refine pure_ (i := 3) (N := some 35) (v := undef) (a' := ?_) #[false, true, true, true, false, false, false, false] rfl rfl (any_of HT_.out (by kernel_rfl)) (fun _ _ _ h => h) (Or.inr ⟨by rfl, rfl⟩) ?_ ?_
                rotate_left
                · simp only [Act.put, List.setIfInBounds_toArray, List.set_cons_zero, List.set_cons_succ, i64_w, i32_w]
                  rfl
                refine pure_ (i := 4) (N := some 36) (v := undef) (a' := ?_) #[false, true, true, true, true, false, false, false] rfl rfl (any_of HT_.out (by kernel_rfl)) (fun _ _ _ h => h) (Or.inr ⟨by rfl, rfl⟩) ?_ ?_
                rotate_left
                · simp only [Act.put, List.setIfInBounds_toArray, List.set_cons_zero, List.set_cons_succ, i64_w, i32_w]
                  rfl
                refine pure_ (i := 5) (N := some 37) (v := ?_) (a' := ?_) #[false, true, true, true, true, true, false, false] rfl rfl (any_of HT_.out (by kernel_rfl)) (fun _ _ _ h => h) (Or.inl ⟨by rfl, ?_⟩) ?_ ?_
                rotate_left
                · intro w'
                  go_simp
                  with_reducible rfl
                rotate_left
                · simp only [Act.put, List.setIfInBounds_toArray, List.set_cons_zero, List.set_cons_succ, i64_w, i32_w]
                  rfl
                refine take_ (i := 0) (N := some 32) (v := ?_) (a' := ?_) #[true, true, true, true, true, true, false, false] rfl rfl (take_ofW HT_.out HW_.out (by kernel_rfl)) (fun _ _ _ h => h) (Or.inl ⟨by rfl, ?_⟩) hHeld ?_ ?_
                rotate_left
                · rintro w' ⟨s0, s1⟩
                  go_simp
                  with_reducible rfl
                rotate_left
                · simp only [Act.put, List.setIfInBounds_toArray, List.set_cons_zero, List.set_cons_succ, i64_w, i32_w]
                  rfl
                refine one_ (i := 6) (N := none) #[true, true, true, true, true, true, true, false] rfl rfl (one_of HT_.out (by kernel_rfl)) (by decide) (fun K hK => ?_)
                have hs52 : w51.cell? ⟨gb549, 0, none⟩ = some (.int .i64 0) := (blk_cell BK549.out 0).trans rfl
                have hfs52 := blk_frozen BK549.out 0
                have hns52_1 := NB552_549.out
                have hms52_1 := NB549_552.out
                have hs53 : w51.cell? ⟨gb549, 1, none⟩ = some (.int .i64 0) := (blk_cell BK549.out 1).trans rfl
                have hfs53 := blk_frozen BK549.out 1
                have hns53_1 := NB552_549.out
                have hms53_1 := NB549_552.out
                refine skip_ (w1 := ?_) (by rfl) rfl ?_ ?_
                rotate_left
                · go_simp
                  rfl
                refine hK.out _ _ ⟨((cell_far (p := ⟨gb549, _, none⟩) NB552_549.out _).trans (((cell_far (p := ⟨gb549, _, none⟩) NB552_549.out _).trans (hHeld.1)))), ((cell_far (p := ⟨gb549, _, none⟩) NB552_549.out _).trans (((cell_far (p := ⟨gb549, _, none⟩) NB552_549.out _).trans (hHeld.2))))⟩ (fun hHeld => ?_)
                clear hK K
                refine pure_ (i := 7) (N := some 3) (v := ?_) (a' := ?_) #[true, true, true, true, true, true, true, true] rfl rfl (any_of HT_.out (by kernel_rfl)) (fun _ _ _ h => h) (Or.inl ⟨by rfl, ?_⟩) ?_ ?_
                rotate_left
                · intro w'
                  go_simp
                  with_reducible rfl
                rotate_left
                · simp only [Act.put, List.setIfInBounds_toArray, List.set_cons_zero, List.set_cons_succ, i64_w, i32_w]
                  rfl
                refine done_ (done_of HT_.out (by kernel_rfl)) ?_
                try go_wp2
                refine bodyPost_ret (results_ct rfl _ _ gb549 39 #[.int .i64 0, .int .i64 t550] (0, 0) _ rfl (by (with_reducible repeat (first | refine blk_drewN ?_ _ | refine blk_drew ?_ | refine blk_alloc ?_ _)); refine blk_put (cs := #[.int .i64 0, .int .i64 0]) ?_ 1 _ rfl; (with_reducible repeat (first | refine blk_drewN ?_ _ | refine blk_drew ?_ | refine blk_alloc ?_ _)); refine blk_put (cs := #[.int .i64 0, .int .i64 0]) ?_ 0 _ rfl; (with_reducible repeat (first | refine blk_drewN ?_ _ | refine blk_drew ?_ | refine blk_alloc ?_ _)); exact BK549.out) Tryd.underlying39 rfl (by kernel_rfl)) rfl ?_
                exact ⟨by first | rfl | (simp [errW_none, errW_some] <;> rfl) | (simp [*, errW_none, errW_some] <;> rfl), by repeat (first | (with_reducible first | exact HB.out | apply below_alloc | apply pw_below_drewN | apply below_drew1 | refine below_set ?_ GE549.out | refine below_set ?_ GE552.out) | exact HB.out)⟩
          · rw [if_neg c13] at H
            exact absurd H (by simp)
        · rw [if_neg c11] at H
          exact absurd H (by simp)

end Go.Proofs.YtahmgalkliicfaaDoor.Q

-- made by a patched copy of print.sh: this session's own
namespace Go.Proofs.YtahmgalkliicfaaDoor.Q
open Go.RowKit Go.Proofs.YtahmgalkliicfaaDoorW.PrintWords Go.Proofs.YtahmgalkliicfaaDoorW.PrintLast Go.Proofs.YtahmgalkliicfaaDoorW.PrintMore
attribute [local go_sem] max2_int min2_int max_two min_two max_three min_three max_four min_four   -- for this text's walks alone
set_option linter.unusedVariables false
set_option linter.unusedSimpArgs false

/-! ### strings_Split: function 55 -/
def strings_Split.f (a0 : ByteArray) (a1 : ByteArray) : Option (List (ByteArray)) := match a1.data.toList with
  | [c] => if a0.size < 4294967281 then some ((Sp.split1 c a0.data.toList).map Sp.tx) else none
  | _ => none
theorem strings_Split.calls (a0 : ByteArray) (a1 : ByteArray) (r : List (ByteArray)) (w : World) (hT : Tb.TB w) (h : strings_Split.f a0 a1 = some r) :
    Calls Tryd.prog 55 #[.string a0, .string a1] w fun e w' => ∃ v0_ : Value, e = .returned (v0_) ∧ Kd.R Kd.string 9 w' w.heap.size (fun _ => True) v0_ r ∧ Below w.heap.size w w' := by
  unfold strings_Split.f at h
  split at h
  · rename_i c hc
    split at h
    · rename_i hs
      obtain rfl := Option.some.inj h
      obtain rfl : a1 = Sp.tx [c] := by
        apply ByteArray.ext
        rw [← Array.toList_inj, hc]; rfl
      exact Sp.split_any a0 c w hT hs
    · cases h
  · cases h

end Go.Proofs.YtahmgalkliicfaaDoor.Q

-- made by a patched copy of print.sh: this session's own
namespace Go.Proofs.YtahmgalkliicfaaDoor.Q
open Go.RowKit Go.Proofs.YtahmgalkliicfaaDoorW.PrintWords Go.Proofs.YtahmgalkliicfaaDoorW.PrintLast Go.Proofs.YtahmgalkliicfaaDoorW.PrintMore
attribute [local go_sem] max2_int min2_int max_two min_two max_three min_three max_four min_four   -- for this text's walks alone
set_option linter.unusedVariables false
set_option linter.unusedSimpArgs false

/-! ### impl_readAll: function 94 -/
def impl_readAll.l0 : Nat → Int → Int → List Int → List ByteArray → Int → Int → Option (List Int × Bool)
  | 0, _, _, _, _, _, _ => none
  | k + 1, x2, x3, x10, x18, x19, x20 => if x20 < x19 then (if 0 ≤ x20 then (if x20 < (x18.length : Int) then ((impl_readIn.f (rdOf ByteArray.empty x18 x20) x2 x3).bind fun bt562 => (if bt562.2 = true then (if x10.length < 17592186044416 then (impl_readAll.l0 k x2 x3 (x10 ++ [bt562.1]) x18 x19 (wrap64 (x20 + 1))) else (none)) else (some (([] : List Int), false)))) else (none)) else (none)) else (some (x10, true))
def impl_readAll.f (k : Nat) (a0 : ByteArray) (a1 : ByteArray) (a2 : Int) (a3 : Int) : Option (List Int × Bool) := (strings_Split.f a0 a1).bind fun t558 => (impl_readAll.l0 k a2 a3 (([] : List Int)) t558 (t558.length : Int) 0)
theorem impl_readAll.mono_l : ∀ k, (∀ y0 y1 y2 y3 y4 y5, LeO (impl_readAll.l0 k y0 y1 y2 y3 y4 y5) (impl_readAll.l0 (k + 1) y0 y1 y2 y3 y4 y5))
  | 0 => fun _ _ _ _ _ _ r h => by simp [impl_readAll.l0] at h
  | k + 1 => by
    have ih0 := impl_readAll.mono_l k
    · intro y0 y1 y2 y3 y4 y5
      unfold impl_readAll.l0
      repeat' first
      | (with_reducible exact ih0 _ _ _ _ _ _)
      | (with_reducible exact LeO.refl _)
      | (with_reducible exact LeO.none _)
      | (with_reducible refine LeO.ite ?_ ?_)
      | (with_reducible refine LeO.bind ?_ (fun _ => ?_))
      | exact ih0 _ _ _ _ _ _
      | exact LeO.none _
      | refine LeO.ite ?_ ?_
      | refine LeO.bind ?_ (fun _ => ?_)
theorem impl_readAll.mono : ∀ a0 a1 a2 a3 k, LeO (impl_readAll.f k a0 a1 a2 a3) (impl_readAll.f (k + 1) a0 a1 a2 a3) := by
  intro a0 a1 a2 a3 k
  have ih0 := impl_readAll.mono_l k
  unfold impl_readAll.f
  repeat' first
      | (with_reducible exact ih0 _ _ _ _ _ _)
      | (with_reducible exact LeO.refl _)
      | (with_reducible exact LeO.none _)
      | (with_reducible refine LeO.ite ?_ ?_)
      | (with_reducible refine LeO.bind ?_ (fun _ => ?_))
      | exact ih0 _ _ _ _ _ _
      | exact LeO.none _
      | refine LeO.ite ?_ ?_
      | refine LeO.bind ?_ (fun _ => ?_)
set_option maxHeartbeats 8000000 in
set_option maxRecDepth 100000 in
theorem impl_readAll.calls (k : Nat) (a0 : ByteArray) (a1 : ByteArray) (a2 : Int) (a3 : Int) (r1 : List Int) (r2 : Bool) (w : World) (hT : Tb.TC w) (h : impl_readAll.f k a0 a1 a2 a3 = some (r1, r2)) :
    Calls Tryd.prog 94 #[.string a0, .string a1, .int .i64 a2, .int .i64 a3] w fun e w' => ∃ v0_ : Value, e = .returned (.tuple #[v0_, .bool r2]) ∧ Kd.R (Kd.int .i64) 2 w' w.heap.size (fun _ => True) v0_ r1 ∧ Below w.heap.size w w' := by
  have HT := Aside0.mk hT
  clear hT
  have HB := Aside0.mk (Below.refl w.heap.size w)
  have H : ((strings_Split.f a0 a1).bind fun t558 => (impl_readAll.l0 k a2 a3 (([] : List Int)) t558 (t558.length : Int) 0)) = some (r1, r2) := h
  clear h
  obtain ⟨y555, hy555⟩ : ∃ y_ : List Int, y_ = (([] : List Int)) := ⟨_, rfl⟩
  replace H : ((strings_Split.f a0 a1).bind fun t558 => (impl_readAll.l0 k a2 a3 y555 t558 (t558.length : Int) 0)) = some (r1, r2) := by first | (rw [hy555]; with_reducible exact H) | (have H2_ := (Option.bind_some _ _).symm.trans H; rw [hy555]; with_reducible exact H2_) | (have H2_ := (Option.bind_some _ _).symm.trans H; with_reducible exact H2_) | with_reducible exact H | (rw [hy555]; exact H) | exact H
  have Ny555 := Aside0.mk hy555
  clear hy555
  replace H := Option.bind_eq_some_iff.mp H
  obtain ⟨t558, A50, H⟩ := H
  replace H : (impl_readAll.l0 k a2 a3 y555 t558 (t558.length : Int) 0) = some (r1, r2) := H
  have A5 := Aside0.mk A50
  clear A50
  have H' := Aside0.mk H
  clear H
  go_enter Tryd.func94, Tryd.ntmps94
  go_wp2_with (first | ((with_reducible refine gate_dst (N := 15) rfl ?_); refine Kd.R_lit (Kd.int .i64) _ 2 ?hg (N := 15) ?hd (xs := ([] : List Int)) (inner := []) (ok := fun _ => True) (okp := fun _ => True) ?hr ?hp (fun _ hk => hk) trivial (Below.refl _ _) (Nat.le_refl _) (by simp) ?_; (case hd => rfl); (case hg => rfl); (case hr => first | (go_simp; done) | (go_simp; rfl)); (case hp => exact (Reps.none _ _)); intro v556 w6 ho7 hb hg_ hnew_; clear hg_ hnew_; (first | rw [← Ny555.out] at ho7 | (simp only [Int.reduceToNat] at ho7; rw [← Ny555.out] at ho7)); have n0_ := Aside0.mk (Kd.R_lower ho7 (below_size (by repeat (first | (with_reducible first | exact HB.out | apply below_alloc | apply pw_below_drewN | apply below_drew1) | exact HB.out)))); have n1_ := Aside0.mk (below_step (by repeat (first | (with_reducible first | exact HB.out | apply below_alloc | apply pw_below_drewN | apply below_drew1) | exact HB.out)) hb); clear HB; have HO557 := n0_; have HB := n1_; clear n0_ n1_; clear hb ho7) | ((with_reducible refine gate_callee (f := 55) rfl ?_); refine goesL_ (some 18) rfl rfl Tryd.func55 (by kernel_rfl) rfl #[.string a0, .string a1] rfl (by (try simp only [List.map_toArray, List.map_cons, List.map_nil]); first | done | rfl | (simp only [List.length_drop, List.length_take]; rfl)) ?_; (with_reducible refine (strings_Split.calls a0 a1 t558 _ ?side1 A5.out).mono ?_); (case side1 => first | exact Tb.TC.tb (HT.out) | exact Tb.TC.tb (Tb.TC.below HT.out (by repeat (first | (with_reducible first | exact HB.out | apply below_alloc | apply pw_below_drewN | apply below_drew1) | exact HB.out)))); rintro e w8 ⟨v559, rfl, ho0, hb⟩; refine ⟨_, rfl, ?_⟩; have n0_ := Aside0.mk (Kd.R_below (by (with_reducible repeat (first | apply Kd.R_alloc | apply Kd.R_drewN | apply Kd.R_drew)); exact HO557.out) hb); have n1_ := Aside0.mk (Kd.R_lower ho0 (below_size (by repeat (first | (with_reducible first | exact HB.out | apply below_alloc | apply pw_below_drewN | apply below_drew1) | exact HB.out)))); have n2_ := Aside0.mk (below_step (by repeat (first | (with_reducible first | exact HB.out | apply below_alloc | apply pw_below_drewN | apply below_drew1) | exact HB.out)) hb); clear HO557; clear HB; have HO557 := n0_; have HO560 := n1_; have HB := n2_; clear n0_ n1_ n2_; (try clear hb); (try clear hb2); (try clear hk); (try clear hi); (try clear ho0); obtain ⟨Ao9, co9, eo9⟩ := Kd.R_slice HO560.out; subst eo9))
  go_loopg [10, 20] k (fun kq v10 v20 w' => ∃ (x10_1 : List Int) (x20_1 : Int), v20 = .int .i64 x20_1 ∧ Aside0 (impl_readAll.l0 kq a2 a3 x10_1 t558 (t558.length : Int) x20_1 = some (r1, r2)) ∧ Aside0 (kq ≤ k) ∧ Aside0 (Kd.R (Kd.int .i64) 2 w' w.heap.size (fun _ => True) v10 x10_1) ∧ Aside0 (Kd.R Kd.string 9 w' w.heap.size (fun _ => True) (.slice Ao9 t558.length co9) t558) ∧ Aside0 (Below w.heap.size w w'))
  case atStart => exact ⟨(y555), (0), (by first | rfl | (simp; done) | (simp [*]; done)), H', ⟨Nat.le_refl _⟩, ⟨by (with_reducible repeat (first | apply Kd.R_alloc | apply Kd.R_drewN | apply Kd.R_drew)); exact HO557.out⟩, ⟨by (with_reducible repeat (first | apply Kd.R_alloc | apply Kd.R_drewN | apply Kd.R_drew)); exact HO560.out⟩, ⟨by repeat (first | (with_reducible first | exact HB.out | apply below_alloc | apply pw_below_drewN | apply below_drew1) | exact HB.out)⟩⟩
  case round =>
    clear H'
    try clear p2
    try clear c5
    try clear c9
    obtain ⟨x10_1, x20_1, rfl, HA, HK1, HO_10, HO_18, HB⟩ := hrel
    cases gk with
    | zero => exact absurd HA.out (by simp [impl_readAll.l0])
    | succ k1 =>
      have H := HA.out
      clear HA
      simp only [impl_readAll.l0] at H
      by_cases c10 : x20_1 < (t558.length : Int)
      · rw [if_pos c10] at H
        have c10b0 : decide (x20_1 < (t558.length : Int)) = true := decide_eq_true c10
        clear c10
        by_cases c11 : 0 ≤ x20_1
        · rw [if_pos c11] at H
          have c11b0 : decide (0 ≤ x20_1) = true := decide_eq_true c11
          clear c11
          by_cases c12 : x20_1 < (t558.length : Int)
          · rw [if_pos c12] at H
            have c12b0 : decide (x20_1 < (t558.length : Int)) = true := decide_eq_true c12
            clear c12
            replace H := Option.bind_eq_some_iff.mp H
            obtain ⟨⟨t562, t563⟩, A130, H⟩ := H
            replace H : (if t563 = true then (if x10_1.length < 17592186044416 then (impl_readAll.l0 k1 a2 a3 (x10_1 ++ [t562]) t558 (t558.length : Int) (wrap64 (x20_1 + 1))) else (none)) else (some (([] : List Int), false))) = some (r1, r2) := H
            have A13 := Aside0.mk A130
            clear A130
            by_cases c14 : t563 = true
            · subst c14
              have H1 : (if x10_1.length < 17592186044416 then (impl_readAll.l0 k1 a2 a3 (x10_1 ++ [t562]) t558 (t558.length : Int) (wrap64 (x20_1 + 1))) else (none)) = some (r1, r2) := by rw [if_pos rfl] at H; exact H
              clear H
              have H := H1
              clear H1
              by_cases c15 : x10_1.length < 17592186044416
              · rw [if_pos c15] at H
                have LMc15 := Aside0.mk c15
                clear c15
                obtain ⟨y564, hy564⟩ : ∃ y_ : List Int, y_ = (x10_1 ++ [t562]) := ⟨_, rfl⟩
                replace H : (impl_readAll.l0 k1 a2 a3 y564 t558 (t558.length : Int) (wrap64 (x20_1 + 1))) = some (r1, r2) := by first | (rw [hy564]; with_reducible exact H) | (have H2_ := (Option.bind_some _ _).symm.trans H; rw [hy564]; with_reducible exact H2_) | (have H2_ := (Option.bind_some _ _).symm.trans H; with_reducible exact H2_) | with_reducible exact H | (rw [hy564]; exact H) | exact H
                have Ny564 := Aside0.mk hy564
                clear hy564
                have H' := Aside0.mk H
                clear H
                have p561 : 0 ≤ (x20_1 : Int) := of_decide_eq_true (by first | (with_reducible assumption) | assumption)
                have q561 : x20_1 < (t558.length : Int) := of_decide_eq_true (by first | (with_reducible assumption) | assumption)
                obtain ⟨ad561, e561, hx561_0⟩ := Kd.at_string (Kd.R_reads' HO_18.out).2.2 x20_1 p561 q561
                cases e561
                replace p561 := eq_true p561
                replace q561 := eq_true q561
                go_wp2_with (first | ((with_reducible refine gate_callee (f := 88) rfl ?_); refine goesL_ (some 28) rfl rfl Tryd.func88 (by kernel_rfl) rfl #[.string (rdOf ByteArray.empty t558 x20_1), .int .i64 a2, .int .i64 a3] rfl (by (try simp only [List.map_toArray, List.map_cons, List.map_nil]); first | done | rfl | (simp only [List.length_drop, List.length_take]; rfl)) ?_; (with_reducible refine (impl_readIn.calls (rdOf ByteArray.empty t558 x20_1) a2 a3 t562 true _ ?side1 A13.out).mono ?_); (case side1 => first | exact HT.out | exact Tb.TC.below HT.out (by repeat (first | (with_reducible first | exact HB.out | apply below_alloc | apply pw_below_drewN | apply below_drew1) | exact HB.out))); rintro e w16 ⟨rfl, hb⟩; refine ⟨_, rfl, ?_⟩; have n0_ := Aside0.mk (Kd.R_below (by (with_reducible repeat (first | apply Kd.R_alloc | apply Kd.R_drewN | apply Kd.R_drew)); exact HO_10.out) hb); have n1_ := Aside0.mk (Kd.R_below (by (with_reducible repeat (first | apply Kd.R_alloc | apply Kd.R_drewN | apply Kd.R_drew)); exact HO_18.out) hb); have n2_ := Aside0.mk (below_step (by repeat (first | (with_reducible first | exact HB.out | apply below_alloc | apply pw_below_drewN | apply below_drew1) | exact HB.out)) hb); clear HO_10; clear HO_18; clear HB; have HO_10 := n0_; have HO_18 := n1_; have HB := n2_; clear n0_ n1_ n2_; (try clear hb); (try clear hb2); (try clear hk); (try clear hi)) | ((with_reducible refine gate_builtin (b := .append) (xs := #[.tmp 33, .tmp 35]) rfl ?_); at_builtin; refine Kd.R_append (Kd.int .i64) (w0 := w) w.heap.size rfl (.tmp 33) (.tmp 35) 91 2 (.int .i64 0) 8 rfl Tryd.underlying91 info2 rfl (by decide) (by omega) u10 x10_1 t562 [.int .i64 t562] (fun _ => True) (fun _ => False) rfl rfl ?aP (fun _ hk => hk.elim) ?aF ?aO ?aB ?aS ?aL ?_; (case aP => exact rfl); (case aB => exact (by repeat (first | (with_reducible first | exact HB.out | apply below_alloc | apply pw_below_drewN | apply below_drew1) | exact HB.out))); (case aF => exact (fun _ _ => trivial)); (case aO => exact (by (with_reducible repeat (first | apply Kd.R_alloc | apply Kd.R_drewN | apply Kd.R_drew)); exact HO_10.out)); (case aS => exact (below_size (by repeat (first | (with_reducible first | exact HB.out | apply below_alloc | apply pw_below_drewN | apply below_drew1) | exact HB.out)))); (case aL => have := LMc15.out; omega); intro v565 w17 ho hb hg hat; rw [← Ny564.out] at ho; have n0_ := Aside0.mk (Kd.R_over' (by (with_reducible repeat (first | apply Kd.R_alloc | apply Kd.R_drewN | apply Kd.R_drew)); exact HO_18.out) (Kd.R_typed (by (with_reducible repeat (first | apply Kd.R_alloc | apply Kd.R_drewN | apply Kd.R_drew)); exact HO_10.out)) (by decide) hg); have n1_ := Aside0.mk (hb); have n2_ := Aside0.mk (ho); clear HO_18; clear HB; clear HO_10; have HO_18 := n0_; have HB := n1_; have HO566 := n2_; clear n0_ n1_ n2_; clear ho hb hg hat))
                go_roundg k1
                case measure => have := HK1.out; omega
                case rel => exact ⟨(y564), (wrap64 (x20_1 + 1)), (by first | rfl | (simp; done) | (simp [*]; done)), H', ⟨by have := HK1.out; omega⟩, ⟨by (with_reducible repeat (first | apply Kd.R_alloc | apply Kd.R_drewN | apply Kd.R_drew)); exact HO566.out⟩, ⟨by (with_reducible repeat (first | apply Kd.R_alloc | apply Kd.R_drewN | apply Kd.R_drew)); exact HO_18.out⟩, ⟨by repeat (first | (with_reducible first | exact HB.out | apply below_alloc | apply pw_below_drewN | apply below_drew1) | exact HB.out)⟩⟩
              · rw [if_neg c15] at H
                exact absurd H (by simp)
            · replace c14 := Bool.eq_false_iff.mpr c14
              subst c14
              have H1 : (some (([] : List Int), false)) = some (r1, r2) := by rw [if_neg (show ¬ (false = true) by decide)] at H; exact H
              clear H
              have H := H1
              clear H1
              simp only [Option.some.injEq, Prod.mk.injEq] at H
              obtain ⟨rfl, rfl⟩ := H
              have p561 : 0 ≤ (x20_1 : Int) := of_decide_eq_true (by first | (with_reducible assumption) | assumption)
              have q561 : x20_1 < (t558.length : Int) := of_decide_eq_true (by first | (with_reducible assumption) | assumption)
              obtain ⟨ad561, e561, hx561_0⟩ := Kd.at_string (Kd.R_reads' HO_18.out).2.2 x20_1 p561 q561
              cases e561
              replace p561 := eq_true p561
              replace q561 := eq_true q561
              go_wp2_with (first | ((with_reducible refine gate_callee (f := 88) rfl ?_); refine goesL_ (some 28) rfl rfl Tryd.func88 (by kernel_rfl) rfl #[.string (rdOf ByteArray.empty t558 x20_1), .int .i64 a2, .int .i64 a3] rfl (by (try simp only [List.map_toArray, List.map_cons, List.map_nil]); first | done | rfl | (simp only [List.length_drop, List.length_take]; rfl)) ?_; (with_reducible refine (impl_readIn.calls (rdOf ByteArray.empty t558 x20_1) a2 a3 t562 false _ ?side1 A13.out).mono ?_); (case side1 => first | exact HT.out | exact Tb.TC.below HT.out (by repeat (first | (with_reducible first | exact HB.out | apply below_alloc | apply pw_below_drewN | apply below_drew1) | exact HB.out))); rintro e w18 ⟨rfl, hb⟩; refine ⟨_, rfl, ?_⟩; have n0_ := Aside0.mk (Kd.R_below (by (with_reducible repeat (first | apply Kd.R_alloc | apply Kd.R_drewN | apply Kd.R_drew)); exact HO_10.out) hb); have n1_ := Aside0.mk (Kd.R_below (by (with_reducible repeat (first | apply Kd.R_alloc | apply Kd.R_drewN | apply Kd.R_drew)); exact HO_18.out) hb); have n2_ := Aside0.mk (below_step (by repeat (first | (with_reducible first | exact HB.out | apply below_alloc | apply pw_below_drewN | apply below_drew1) | exact HB.out)) hb); clear HO_10; clear HO_18; clear HB; have HO_10 := n0_; have HO_18 := n1_; have HB := n2_; clear n0_ n1_ n2_; (try clear hb); (try clear hb2); (try clear hk); (try clear hi)))
              go_ret2
              exact ⟨_, by first | rfl | (simp [errW_none, errW_some] <;> rfl) | (simp [*, errW_none, errW_some] <;> rfl), by first | exact Kd.R_nil _ _ _ _ _ | exact Kd.N_nil _ _ _ _ _ | exact Kd.V_nil _ _ _ _ _ | exact Kd.Q_nil _ _ _ _ _ | exact Kd.S_nil _ _ _ _ _, by repeat (first | (with_reducible first | exact HB.out | apply below_alloc | apply pw_below_drewN | apply below_drew1) | exact HB.out)⟩
          · rw [if_neg c12] at H
            exact absurd H (by simp)
        · rw [if_neg c11] at H
          exact absurd H (by simp)
      · rw [if_neg c10] at H
        have c10b0 : decide (x20_1 < (t558.length : Int)) = false := decide_eq_false c10
        clear c10
        simp only [Option.some.injEq, Prod.mk.injEq] at H
        obtain ⟨rfl, rfl⟩ := H
        go_wp2
        go_ret2
        exact ⟨_, by first | rfl | (simp [errW_none, errW_some] <;> rfl) | (simp [*, errW_none, errW_some] <;> rfl), by (with_reducible repeat (first | apply Kd.R_alloc | apply Kd.R_drewN | apply Kd.R_drew)); exact HO_10.out, by repeat (first | (with_reducible first | exact HB.out | apply below_alloc | apply pw_below_drewN | apply below_drew1) | exact HB.out)⟩

end Go.Proofs.YtahmgalkliicfaaDoor.Q

/- The program's readDeed: the deed with a text. -/
namespace Go.Proofs.YtahmgalkliicfaaDoor.Hd
open Go.RowKit Go.Proofs.YtahmgalkliicfaaDoorW.PrintWords Go.Proofs.YtahmgalkliicfaaDoorW.PrintLast Go.Proofs.YtahmgalkliicfaaDoorW.PrintMore Go.Proofs.YtahmgalkliicfaaDoor.Q Go.Proofs.YtahmgalkliicfaaDoor.Ha Go.Proofs.YtahmgalkliicfaaDoor.Sp Go.Proofs.YtahmgalkliicfaaDoor.PuD Go.Proofs.YtahmgalkliicfaaDoor.PuVD Go.Proofs.YtahmgalkliicfaaDoor.PuDT Go.Proofs.YtahmgalkliicfaaDoor.Ni

def textN (x : Nine) : List UInt8 := deedT x.1 x.2.1 x.2.2.1 x.2.2.2.1 x.2.2.2.2.1 x.2.2.2.2.2.1 x.2.2.2.2.2.2.1 x.2.2.2.2.2.2.2.1 x.2.2.2.2.2.2.2.2
/-- What is handed back of a deed that was put together out of the text l. -/
def okI (l : List UInt8) (x : Nine) : Nine × Bool := if deedN x = true ∧ textN x = l then (x, true) else (n0, false)

theorem three_cells {w : World} {A : Option Addr} {a b c : Int} (h : (Kd.int .i64).C w A [a, b, c].length [a, b, c]) : ∃ ad, A = some ad ∧ w.cell? ad = some (.int .i64 a) ∧ w.cell? ⟨ad.block, ad.off + 1, none⟩ = some (.int .i64 b) ∧ w.cell? ⟨ad.block, ad.off + 2, none⟩ = some (.int .i64 c) := by
  obtain ⟨ad, rfl, h0⟩ := Kd.at_int h 0 (by decide) (by simp)
  obtain ⟨ad', e, h1⟩ := Kd.at_int h 1 (by decide) (by simp)
  cases e
  obtain ⟨ad', e, h2⟩ := Kd.at_int h 2 (by decide) (by simp)
  cases e
  refine ⟨ad, rfl, ?_, ?_, ?_⟩
  · simpa [rd, Addr.add] using h0
  · simpa [rd, Addr.add] using h1
  · simpa [rd, Addr.add] using h2
theorem three_far {w w2 : World} {ad : Addr} {n c : Nat} {xs : List Int} {g : Nat} {o : Obj} (h : (Kd.int .i64).R 2 w2 w.heap.size (fun _ => True) (.slice (some ad) n c) xs) (hd : w.heap[g]? = some o) : (ad.block = g) = False := by
  obtain ⟨inner, hw⟩ := Kd.R_own h
  have ho := own_base hw ad.block (by simp [Value.ownBlock])
  have hg := blk_lt hd
  exact eq_false (by omega)

theorem cut_at {l p q : List UInt8} {t : Bool} (hc : cut1 32 l = (p, q, t)) (hl : l.length ≤ 1048576) (W : World) (hT : Tb.TC W) :
    Calls Tryd.prog 89 #[.string (txt l), .string (⟨#[32]⟩ : ByteArray)] W fun e w' => e = .returned (.tuple #[.string (txt p), .string (txt q), .bool t]) ∧ Below W.heap.size W w' := by
  have h := cut_any (txt l) 32 W hT.tb (by rw [txt_size]; omega)
  rw [show (txt l).data.toList = l from rfl, hc] at h
  exact h

set_option maxRecDepth 100000 in
set_option maxHeartbeats 1000000 in
theorem read_bad (l p q : List UInt8) (t : Bool) (hl : l.length ≤ 1048576) (hc : cut1 32 l = (p, q, t)) (hp : p ≠ [98, 117, 105, 108, 100]) (k : Nat) (ns : List Int) (ok : Bool) (hr : impl_readAll.f k (txt q) (⟨#[32]⟩ : ByteArray) (-1000000000) 1000000000 = some (ns, ok)) (hb : ok = false ∨ ns.length ≠ 3) (w : World) (hT : Tb.TC w) :
    Calls Tryd.prog 61 #[.string (txt l)] w fun e w' => e = endN (n0, false) ∧ Below w.heap.size w w' := by
  have HT := Aside0.mk hT
  have HC := Lib.hid hc
  have hu := Tryd.underlying41
  have hu2 := Tryd.underlying39
  have q0 : ((txt p).toList == [98, 117, 105, 108, 100]) = false := by rw [ByteArray.toList_eq]; exact beq_eq_false_iff_ne.2 hp
  have HQ := Aside0.mk hr
  have hb2 : ok = false ∨ (ok = true ∧ ((ns.length : Int) == 3) = false) := by
    cases ok with
    | false => exact .inl rfl
    | true => exact .inr ⟨rfl, by rcases hb with h | h; cases h; exact beq_eq_false_iff_ne.2 (by omega)⟩
  clear hc hp hT hr hb
  rcases hb2 with rfl | ⟨rfl, q5⟩
  · go_enter Tryd.func61, Tryd.ntmps61
    go_wp2_with (first
      | (go_at_call 89; refine (cut_at HC.out hl _ (Tb.TC.below HT.out (below_alloc (Below.refl _ _) _))).mono ?_; rintro e w1 ⟨rfl, hb1⟩; have HS := Aside0.mk (St.mk (g := w1.heap.size) (below_alloc (below_step (below_alloc (Below.refl _ _) _) hb1) _) (Nat.le_refl _) (Nat.lt_of_lt_of_le (by simp) hb1.size) (blk_alloc (blk_below (blk_new w (blkN n0)) hb1) _) (blk_new w1 (blkN n0))); clear hb1)
      | (go_at_call 94; refine (impl_readAll.calls k _ _ _ _ _ _ _ (Tb.TC.below HT.out HS.out.bel) HQ.out).mono ?_; rintro e w2 ⟨v, rfl, hR, hb2⟩; obtain ⟨A, cA, rfl⟩ := Kd.R_slice hR; clear hR; have hS := HS.out.step hb2; obtain ⟨d0, d1, d2, d3, d4, d5, d6, d7, d8⟩ := cells9 hS.d; obtain ⟨k0, k1, k2, k3, k4, k5, k6, k7, k8⟩ := frozen9 hS.d; obtain ⟨c0, c1, c2, c3, c4, c5, c6, c7, c8⟩ := cells9 hS.r; obtain ⟨f0, f1, f2, f3, f4, f5, f6, f7, f8⟩ := frozen9 hS.r; have HS := Aside0.mk hS; clear hS hb2))
    refine bodyPost_ret (results_ct rfl _ _ w.heap.size 41 (cellsN n0) (0, 0) _ rfl (HS.out.putR n0).r Tryd.underlying41 rfl (by kernel_rfl)) rfl ?_
    exact ⟨rfl, (HS.out.putR n0).bel⟩
  · go_enter Tryd.func61, Tryd.ntmps61
    go_wp2_with (first
      | (go_at_call 89; refine (cut_at HC.out hl _ (Tb.TC.below HT.out (below_alloc (Below.refl _ _) _))).mono ?_; rintro e w1 ⟨rfl, hb1⟩; have HS := Aside0.mk (St.mk (g := w1.heap.size) (below_alloc (below_step (below_alloc (Below.refl _ _) _) hb1) _) (Nat.le_refl _) (Nat.lt_of_lt_of_le (by simp) hb1.size) (blk_alloc (blk_below (blk_new w (blkN n0)) hb1) _) (blk_new w1 (blkN n0))); clear hb1)
      | (go_at_call 94; refine (impl_readAll.calls k _ _ _ _ _ _ _ (Tb.TC.below HT.out HS.out.bel) HQ.out).mono ?_; rintro e w2 ⟨v, rfl, hR, hb2⟩; obtain ⟨A, cA, rfl⟩ := Kd.R_slice hR; clear hR; have hS := HS.out.step hb2; obtain ⟨d0, d1, d2, d3, d4, d5, d6, d7, d8⟩ := cells9 hS.d; obtain ⟨k0, k1, k2, k3, k4, k5, k6, k7, k8⟩ := frozen9 hS.d; obtain ⟨c0, c1, c2, c3, c4, c5, c6, c7, c8⟩ := cells9 hS.r; obtain ⟨f0, f1, f2, f3, f4, f5, f6, f7, f8⟩ := frozen9 hS.r; have HS := Aside0.mk hS; clear hS hb2))
    refine bodyPost_ret (results_ct rfl _ _ w.heap.size 41 (cellsN n0) (0, 0) _ rfl (HS.out.putR n0).r Tryd.underlying41 rfl (by kernel_rfl)) rfl ?_
    exact ⟨rfl, (HS.out.putR n0).bel⟩
set_option maxRecDepth 100000 in
set_option maxHeartbeats 1000000 in
theorem read_build (l p q : List UInt8) (t : Bool) (hl : l.length ≤ 1048576) (hc : cut1 32 l = (p, q, t)) (hp : p = [98, 117, 105, 108, 100]) (k : Nat) (rk rn : Int) (ok : Bool) (hr : impl_readRing.f k (txt q) = some (rk, rn, ok)) (w : World) (hT : Tb.TC w) :
    Calls Tryd.prog 61 #[.string (txt l)] w fun e w' => e = endN (okI l (2, 0, 0, 0, rk, rn, 0, 0, 0)) ∧ Below w.heap.size w w' := by
  have HT := Aside0.mk hT
  have HC := Lib.hid hc
  have hu := Tryd.underlying41
  have hu2 := Tryd.underlying39
  have q0 : ((txt p).toList == [98, 117, 105, 108, 100]) = true := by rw [ByteArray.toList_eq]; exact beq_iff_eq.2 hp
  have HQ := Aside0.mk hr
  clear hc hp hT hr
  cases hk : deedN (2, 0, 0, 0, rk, rn, 0, 0, 0)
  · have HE := Aside0.mk (show endN (n0, false) = endN (okI l (2, 0, 0, 0, rk, rn, 0, 0, 0)) by simp [okI, hk])
    have HV := Aside0.mk ((impl_eq 2 0 0 0 rk rn 0 0 0).trans (congrArg some hk))
    clear hk
    go_enter Tryd.func61, Tryd.ntmps61
    go_wp2_with (first
      | (go_at_call 89; refine (cut_at HC.out hl _ (Tb.TC.below HT.out (below_alloc (Below.refl _ _) _))).mono ?_; rintro e w1 ⟨rfl, hb1⟩; have HS := Aside0.mk (St.mk (g := w1.heap.size) (below_alloc (below_step (below_alloc (Below.refl _ _) _) hb1) _) (Nat.le_refl _) (Nat.lt_of_lt_of_le (by simp) hb1.size) (blk_alloc (blk_below (blk_new w (blkN n0)) hb1) _) (blk_new w1 (blkN n0))); clear hb1)
      | (go_at_call 93; refine (impl_readRing.calls k _ _ _ _ _ (Tb.TC.below HT.out HS.out.bel) HQ.out).mono ?_; rintro e w2 ⟨rfl, hb2⟩; have hS := (HS.out.step hb2).alloc (.cells #[.int .i64 rk, .int .i64 rn] 39); obtain ⟨d0, d1, d2, d3, d4, d5, d6, d7, d8⟩ := cells9 hS.d; obtain ⟨k0, k1, k2, k3, k4, k5, k6, k7, k8⟩ := frozen9 hS.d; have HS := Aside0.mk hS; clear hS hb2)
      | (go_at_call 46; refine (impl_ValidDeed.calls _ _ _ _ _ _ _ _ _ _ _ HV.out).mono ?_; rintro e w5 ⟨rfl, hb5⟩; have hS := (HS.out.put (2, 0, 0, 0, rk, rn, 0, 0, 0)).step hb5; obtain ⟨c0, c1, c2, c3, c4, c5, c6, c7, c8⟩ := cells9 hS.r; obtain ⟨f0, f1, f2, f3, f4, f5, f6, f7, f8⟩ := frozen9 hS.r; obtain ⟨d0, d1, d2, d3, d4, d5, d6, d7, d8⟩ := cells9 hS.d; have HS5 := Aside0.mk hS; clear hS hb5))
    refine bodyPost_ret (results_ct rfl _ _ w.heap.size 41 (cellsN n0) (0, 0) _ rfl (HS5.out.putR n0).r Tryd.underlying41 rfl (by kernel_rfl)) rfl ?_
    exact ⟨HE.out, (HS5.out.putR n0).bel⟩
  · have HX := Aside0.mk (show impl_deedText.f 4 2 0 0 0 rk rn 0 0 0 = some (txt (textN (2, 0, 0, 0, rk, rn, 0, 0, 0))) from implDeedT hk 4 (by omega))
    have HV := Aside0.mk ((impl_eq 2 0 0 0 rk rn 0 0 0).trans (congrArg some hk))
    by_cases ht : textN (2, 0, 0, 0, rk, rn, 0, 0, 0) = l
    · have HE := Aside0.mk (show endN ((2, 0, 0, 0, rk, rn, 0, 0, 0), true) = endN (okI l (2, 0, 0, 0, rk, rn, 0, 0, 0)) by simp [okI, hk, ht])
      have q9 : ((txt (textN (2, 0, 0, 0, rk, rn, 0, 0, 0))).toList == (txt l).toList) = true := by rw [ByteArray.toList_eq, ByteArray.toList_eq]; exact beq_iff_eq.2 ht
      have q9n : ((txt (textN (2, 0, 0, 0, rk, rn, 0, 0, 0))).toList != (txt l).toList) = false := by rw [bne, q9]; rfl
      clear hk ht
      go_enter Tryd.func61, Tryd.ntmps61
      go_wp2_with (first
        | (go_at_call 89; refine (cut_at HC.out hl _ (Tb.TC.below HT.out (below_alloc (Below.refl _ _) _))).mono ?_; rintro e w1 ⟨rfl, hb1⟩; have HS := Aside0.mk (St.mk (g := w1.heap.size) (below_alloc (below_step (below_alloc (Below.refl _ _) _) hb1) _) (Nat.le_refl _) (Nat.lt_of_lt_of_le (by simp) hb1.size) (blk_alloc (blk_below (blk_new w (blkN n0)) hb1) _) (blk_new w1 (blkN n0))); clear hb1)
        | (go_at_call 93; refine (impl_readRing.calls k _ _ _ _ _ (Tb.TC.below HT.out HS.out.bel) HQ.out).mono ?_; rintro e w2 ⟨rfl, hb2⟩; have hS := (HS.out.step hb2).alloc (.cells #[.int .i64 rk, .int .i64 rn] 39); obtain ⟨d0, d1, d2, d3, d4, d5, d6, d7, d8⟩ := cells9 hS.d; obtain ⟨k0, k1, k2, k3, k4, k5, k6, k7, k8⟩ := frozen9 hS.d; have HS := Aside0.mk hS; clear hS hb2)
        | (go_at_call 46; refine (impl_ValidDeed.calls _ _ _ _ _ _ _ _ _ _ _ HV.out).mono ?_; rintro e w5 ⟨rfl, hb5⟩; have hS := (HS.out.put (2, 0, 0, 0, rk, rn, 0, 0, 0)).step hb5; obtain ⟨c0, c1, c2, c3, c4, c5, c6, c7, c8⟩ := cells9 hS.r; obtain ⟨f0, f1, f2, f3, f4, f5, f6, f7, f8⟩ := frozen9 hS.r; obtain ⟨d0, d1, d2, d3, d4, d5, d6, d7, d8⟩ := cells9 hS.d; have HS5 := Aside0.mk hS; clear hS hb5)
        | (go_at_call 47; refine (impl_deedText.calls 4 _ _ _ _ _ _ _ _ _ _ _ (Tb.TB.below HT.out.tb HS5.out.bel) HX.out).mono ?_; rintro e w6 ⟨rfl, hb6⟩; have hS := HS5.out.step hb6; obtain ⟨c0, c1, c2, c3, c4, c5, c6, c7, c8⟩ := cells9 hS.r; obtain ⟨f0, f1, f2, f3, f4, f5, f6, f7, f8⟩ := frozen9 hS.r; obtain ⟨d0, d1, d2, d3, d4, d5, d6, d7, d8⟩ := cells9 hS.d; have HS6 := Aside0.mk hS; clear hS hb6))
      refine bodyPost_ret (results_ct rfl _ _ w.heap.size 41 (cellsN (2, 0, 0, 0, rk, rn, 0, 0, 0)) (0, 0) _ rfl (HS6.out.putR (2, 0, 0, 0, rk, rn, 0, 0, 0)).r Tryd.underlying41 rfl (by kernel_rfl)) rfl ?_
      exact ⟨HE.out, (HS6.out.putR (2, 0, 0, 0, rk, rn, 0, 0, 0)).bel⟩
    · have HE := Aside0.mk (show endN (n0, false) = endN (okI l (2, 0, 0, 0, rk, rn, 0, 0, 0)) by simp [okI, hk, ht])
      have q9 : ((txt (textN (2, 0, 0, 0, rk, rn, 0, 0, 0))).toList == (txt l).toList) = false := by rw [ByteArray.toList_eq, ByteArray.toList_eq]; exact beq_eq_false_iff_ne.2 ht
      have q9n : ((txt (textN (2, 0, 0, 0, rk, rn, 0, 0, 0))).toList != (txt l).toList) = true := by rw [bne, q9]; rfl
      clear hk ht
      go_enter Tryd.func61, Tryd.ntmps61
      go_wp2_with (first
        | (go_at_call 89; refine (cut_at HC.out hl _ (Tb.TC.below HT.out (below_alloc (Below.refl _ _) _))).mono ?_; rintro e w1 ⟨rfl, hb1⟩; have HS := Aside0.mk (St.mk (g := w1.heap.size) (below_alloc (below_step (below_alloc (Below.refl _ _) _) hb1) _) (Nat.le_refl _) (Nat.lt_of_lt_of_le (by simp) hb1.size) (blk_alloc (blk_below (blk_new w (blkN n0)) hb1) _) (blk_new w1 (blkN n0))); clear hb1)
        | (go_at_call 93; refine (impl_readRing.calls k _ _ _ _ _ (Tb.TC.below HT.out HS.out.bel) HQ.out).mono ?_; rintro e w2 ⟨rfl, hb2⟩; have hS := (HS.out.step hb2).alloc (.cells #[.int .i64 rk, .int .i64 rn] 39); obtain ⟨d0, d1, d2, d3, d4, d5, d6, d7, d8⟩ := cells9 hS.d; obtain ⟨k0, k1, k2, k3, k4, k5, k6, k7, k8⟩ := frozen9 hS.d; have HS := Aside0.mk hS; clear hS hb2)
        | (go_at_call 46; refine (impl_ValidDeed.calls _ _ _ _ _ _ _ _ _ _ _ HV.out).mono ?_; rintro e w5 ⟨rfl, hb5⟩; have hS := (HS.out.put (2, 0, 0, 0, rk, rn, 0, 0, 0)).step hb5; obtain ⟨c0, c1, c2, c3, c4, c5, c6, c7, c8⟩ := cells9 hS.r; obtain ⟨f0, f1, f2, f3, f4, f5, f6, f7, f8⟩ := frozen9 hS.r; obtain ⟨d0, d1, d2, d3, d4, d5, d6, d7, d8⟩ := cells9 hS.d; have HS5 := Aside0.mk hS; clear hS hb5)
        | (go_at_call 47; refine (impl_deedText.calls 4 _ _ _ _ _ _ _ _ _ _ _ (Tb.TB.below HT.out.tb HS5.out.bel) HX.out).mono ?_; rintro e w6 ⟨rfl, hb6⟩; have hS := HS5.out.step hb6; obtain ⟨c0, c1, c2, c3, c4, c5, c6, c7, c8⟩ := cells9 hS.r; obtain ⟨f0, f1, f2, f3, f4, f5, f6, f7, f8⟩ := frozen9 hS.r; obtain ⟨d0, d1, d2, d3, d4, d5, d6, d7, d8⟩ := cells9 hS.d; have HS6 := Aside0.mk hS; clear hS hb6))
      refine bodyPost_ret (results_ct rfl _ _ w.heap.size 41 (cellsN n0) (0, 0) _ rfl (HS6.out.putR n0).r Tryd.underlying41 rfl (by kernel_rfl)) rfl ?_
      exact ⟨HE.out, (HS6.out.putR n0).bel⟩
set_option maxRecDepth 100000 in
set_option maxHeartbeats 1000000 in
theorem read_push (l p q : List UInt8) (t : Bool) (hl : l.length ≤ 1048576) (hc : cut1 32 l = (p, q, t)) (hp : p ≠ [98, 117, 105, 108, 100] ∧ p ≠ [103, 114, 111, 117, 116]) (k : Nat) (m1 m2 m3 : Int) (hr : impl_readAll.f k (txt q) (⟨#[32]⟩ : ByteArray) (-1000000000) 1000000000 = some ([m1, m2, m3], true)) (w : World) (hT : Tb.TC w) :
    Calls Tryd.prog 61 #[.string (txt l)] w fun e w' => e = endN (okI l (1, m1, m2, m3, 0, 0, 0, 0, 0)) ∧ Below w.heap.size w w' := by
  have HT := Aside0.mk hT
  have HC := Lib.hid hc
  have hu := Tryd.underlying41
  have hu2 := Tryd.underlying39
  have q0 : ((txt p).toList == [98, 117, 105, 108, 100]) = false := by rw [ByteArray.toList_eq]; exact beq_eq_false_iff_ne.2 hp.1
  have q1 : ((txt p).toList == [103, 114, 111, 117, 116]) = false := by rw [ByteArray.toList_eq]; exact beq_eq_false_iff_ne.2 hp.2
  have HQ := Aside0.mk hr
  clear hc hp hT hr
  cases hk : deedN (1, m1, m2, m3, 0, 0, 0, 0, 0)
  · have HE := Aside0.mk (show endN (n0, false) = endN (okI l (1, m1, m2, m3, 0, 0, 0, 0, 0)) by simp [okI, hk])
    have HV := Aside0.mk ((impl_eq 1 m1 m2 m3 0 0 0 0 0).trans (congrArg some hk))
    clear hk
    go_enter Tryd.func61, Tryd.ntmps61
    go_wp2_with (first
      | (go_at_call 89; refine (cut_at HC.out hl _ (Tb.TC.below HT.out (below_alloc (Below.refl _ _) _))).mono ?_; rintro e w1 ⟨rfl, hb1⟩; have HS := Aside0.mk (St.mk (g := w1.heap.size) (below_alloc (below_step (below_alloc (Below.refl _ _) _) hb1) _) (Nat.le_refl _) (Nat.lt_of_lt_of_le (by simp) hb1.size) (blk_alloc (blk_below (blk_new w (blkN n0)) hb1) _) (blk_new w1 (blkN n0))); clear hb1)
      | (go_at_call 94; refine (impl_readAll.calls k _ _ _ _ _ _ _ (Tb.TC.below HT.out HS.out.bel) HQ.out).mono ?_; rintro e w2 ⟨v, rfl, hR, hb2⟩; obtain ⟨A, cA, rfl, hcc, hC⟩ := Kd.R_reads hR; obtain ⟨ad, rfl, hx0, hx1, hx2⟩ := three_cells hC; have hneq := three_far hR HS.out.d; clear hR hC hcc; have hS := HS.out.step hb2; obtain ⟨d0, d1, d2, d3, d4, d5, d6, d7, d8⟩ := cells9 hS.d; obtain ⟨k0, k1, k2, k3, k4, k5, k6, k7, k8⟩ := frozen9 hS.d; obtain ⟨c0, c1, c2, c3, c4, c5, c6, c7, c8⟩ := cells9 hS.r; obtain ⟨f0, f1, f2, f3, f4, f5, f6, f7, f8⟩ := frozen9 hS.r; have HS := Aside0.mk hS; clear hS hb2)
      | (go_at_call 46; refine (impl_ValidDeed.calls _ _ _ _ _ _ _ _ _ _ _ HV.out).mono ?_; rintro e w5 ⟨rfl, hb5⟩; have hS := (HS.out.put (1, m1, m2, m3, 0, 0, 0, 0, 0)).drew.step hb5; obtain ⟨c0, c1, c2, c3, c4, c5, c6, c7, c8⟩ := cells9 hS.r; obtain ⟨f0, f1, f2, f3, f4, f5, f6, f7, f8⟩ := frozen9 hS.r; obtain ⟨d0, d1, d2, d3, d4, d5, d6, d7, d8⟩ := cells9 hS.d; have HS5 := Aside0.mk hS; clear hS hb5))
    go_region
    go_wp2_with (first
      | (go_at_call 89; refine (cut_at HC.out hl _ (Tb.TC.below HT.out (below_alloc (Below.refl _ _) _))).mono ?_; rintro e w1 ⟨rfl, hb1⟩; have HS := Aside0.mk (St.mk (g := w1.heap.size) (below_alloc (below_step (below_alloc (Below.refl _ _) _) hb1) _) (Nat.le_refl _) (Nat.lt_of_lt_of_le (by simp) hb1.size) (blk_alloc (blk_below (blk_new w (blkN n0)) hb1) _) (blk_new w1 (blkN n0))); clear hb1)
      | (go_at_call 94; refine (impl_readAll.calls k _ _ _ _ _ _ _ (Tb.TC.below HT.out HS.out.bel) HQ.out).mono ?_; rintro e w2 ⟨v, rfl, hR, hb2⟩; obtain ⟨A, cA, rfl, hcc, hC⟩ := Kd.R_reads hR; obtain ⟨ad, rfl, hx0, hx1, hx2⟩ := three_cells hC; have hneq := three_far hR HS.out.d; clear hR hC hcc; have hS := HS.out.step hb2; obtain ⟨d0, d1, d2, d3, d4, d5, d6, d7, d8⟩ := cells9 hS.d; obtain ⟨k0, k1, k2, k3, k4, k5, k6, k7, k8⟩ := frozen9 hS.d; obtain ⟨c0, c1, c2, c3, c4, c5, c6, c7, c8⟩ := cells9 hS.r; obtain ⟨f0, f1, f2, f3, f4, f5, f6, f7, f8⟩ := frozen9 hS.r; have HS := Aside0.mk hS; clear hS hb2)
      | (go_at_call 46; refine (impl_ValidDeed.calls _ _ _ _ _ _ _ _ _ _ _ HV.out).mono ?_; rintro e w5 ⟨rfl, hb5⟩; have hS := (HS.out.put (1, m1, m2, m3, 0, 0, 0, 0, 0)).drew.step hb5; obtain ⟨c0, c1, c2, c3, c4, c5, c6, c7, c8⟩ := cells9 hS.r; obtain ⟨f0, f1, f2, f3, f4, f5, f6, f7, f8⟩ := frozen9 hS.r; obtain ⟨d0, d1, d2, d3, d4, d5, d6, d7, d8⟩ := cells9 hS.d; have HS5 := Aside0.mk hS; clear hS hb5))
    refine bodyPost_ret (results_ct rfl _ _ w.heap.size 41 (cellsN n0) (0, 0) _ rfl (HS5.out.putR n0).r Tryd.underlying41 rfl (by kernel_rfl)) rfl ?_
    exact ⟨HE.out, (HS5.out.putR n0).bel⟩
  · have HX := Aside0.mk (show impl_deedText.f 4 1 m1 m2 m3 0 0 0 0 0 = some (txt (textN (1, m1, m2, m3, 0, 0, 0, 0, 0))) from implDeedT hk 4 (by omega))
    have HV := Aside0.mk ((impl_eq 1 m1 m2 m3 0 0 0 0 0).trans (congrArg some hk))
    by_cases ht : textN (1, m1, m2, m3, 0, 0, 0, 0, 0) = l
    · have HE := Aside0.mk (show endN ((1, m1, m2, m3, 0, 0, 0, 0, 0), true) = endN (okI l (1, m1, m2, m3, 0, 0, 0, 0, 0)) by simp [okI, hk, ht])
      have q9 : ((txt (textN (1, m1, m2, m3, 0, 0, 0, 0, 0))).toList == (txt l).toList) = true := by rw [ByteArray.toList_eq, ByteArray.toList_eq]; exact beq_iff_eq.2 ht
      have q9n : ((txt (textN (1, m1, m2, m3, 0, 0, 0, 0, 0))).toList != (txt l).toList) = false := by rw [bne, q9]; rfl
      clear hk ht
      go_enter Tryd.func61, Tryd.ntmps61
      go_wp2_with (first
        | (go_at_call 89; refine (cut_at HC.out hl _ (Tb.TC.below HT.out (below_alloc (Below.refl _ _) _))).mono ?_; rintro e w1 ⟨rfl, hb1⟩; have HS := Aside0.mk (St.mk (g := w1.heap.size) (below_alloc (below_step (below_alloc (Below.refl _ _) _) hb1) _) (Nat.le_refl _) (Nat.lt_of_lt_of_le (by simp) hb1.size) (blk_alloc (blk_below (blk_new w (blkN n0)) hb1) _) (blk_new w1 (blkN n0))); clear hb1)
        | (go_at_call 94; refine (impl_readAll.calls k _ _ _ _ _ _ _ (Tb.TC.below HT.out HS.out.bel) HQ.out).mono ?_; rintro e w2 ⟨v, rfl, hR, hb2⟩; obtain ⟨A, cA, rfl, hcc, hC⟩ := Kd.R_reads hR; obtain ⟨ad, rfl, hx0, hx1, hx2⟩ := three_cells hC; have hneq := three_far hR HS.out.d; clear hR hC hcc; have hS := HS.out.step hb2; obtain ⟨d0, d1, d2, d3, d4, d5, d6, d7, d8⟩ := cells9 hS.d; obtain ⟨k0, k1, k2, k3, k4, k5, k6, k7, k8⟩ := frozen9 hS.d; obtain ⟨c0, c1, c2, c3, c4, c5, c6, c7, c8⟩ := cells9 hS.r; obtain ⟨f0, f1, f2, f3, f4, f5, f6, f7, f8⟩ := frozen9 hS.r; have HS := Aside0.mk hS; clear hS hb2)
        | (go_at_call 46; refine (impl_ValidDeed.calls _ _ _ _ _ _ _ _ _ _ _ HV.out).mono ?_; rintro e w5 ⟨rfl, hb5⟩; have hS := (HS.out.put (1, m1, m2, m3, 0, 0, 0, 0, 0)).drew.step hb5; obtain ⟨c0, c1, c2, c3, c4, c5, c6, c7, c8⟩ := cells9 hS.r; obtain ⟨f0, f1, f2, f3, f4, f5, f6, f7, f8⟩ := frozen9 hS.r; obtain ⟨d0, d1, d2, d3, d4, d5, d6, d7, d8⟩ := cells9 hS.d; have HS5 := Aside0.mk hS; clear hS hb5)
        | (go_at_call 47; refine (impl_deedText.calls 4 _ _ _ _ _ _ _ _ _ _ _ (Tb.TB.below HT.out.tb HS5.out.bel) HX.out).mono ?_; rintro e w6 ⟨rfl, hb6⟩; have hS := HS5.out.step hb6; obtain ⟨c0, c1, c2, c3, c4, c5, c6, c7, c8⟩ := cells9 hS.r; obtain ⟨f0, f1, f2, f3, f4, f5, f6, f7, f8⟩ := frozen9 hS.r; obtain ⟨d0, d1, d2, d3, d4, d5, d6, d7, d8⟩ := cells9 hS.d; have HS6 := Aside0.mk hS; clear hS hb6))
      go_region
      go_wp2_with (first
        | (go_at_call 89; refine (cut_at HC.out hl _ (Tb.TC.below HT.out (below_alloc (Below.refl _ _) _))).mono ?_; rintro e w1 ⟨rfl, hb1⟩; have HS := Aside0.mk (St.mk (g := w1.heap.size) (below_alloc (below_step (below_alloc (Below.refl _ _) _) hb1) _) (Nat.le_refl _) (Nat.lt_of_lt_of_le (by simp) hb1.size) (blk_alloc (blk_below (blk_new w (blkN n0)) hb1) _) (blk_new w1 (blkN n0))); clear hb1)
        | (go_at_call 94; refine (impl_readAll.calls k _ _ _ _ _ _ _ (Tb.TC.below HT.out HS.out.bel) HQ.out).mono ?_; rintro e w2 ⟨v, rfl, hR, hb2⟩; obtain ⟨A, cA, rfl, hcc, hC⟩ := Kd.R_reads hR; obtain ⟨ad, rfl, hx0, hx1, hx2⟩ := three_cells hC; have hneq := three_far hR HS.out.d; clear hR hC hcc; have hS := HS.out.step hb2; obtain ⟨d0, d1, d2, d3, d4, d5, d6, d7, d8⟩ := cells9 hS.d; obtain ⟨k0, k1, k2, k3, k4, k5, k6, k7, k8⟩ := frozen9 hS.d; obtain ⟨c0, c1, c2, c3, c4, c5, c6, c7, c8⟩ := cells9 hS.r; obtain ⟨f0, f1, f2, f3, f4, f5, f6, f7, f8⟩ := frozen9 hS.r; have HS := Aside0.mk hS; clear hS hb2)
        | (go_at_call 46; refine (impl_ValidDeed.calls _ _ _ _ _ _ _ _ _ _ _ HV.out).mono ?_; rintro e w5 ⟨rfl, hb5⟩; have hS := (HS.out.put (1, m1, m2, m3, 0, 0, 0, 0, 0)).drew.step hb5; obtain ⟨c0, c1, c2, c3, c4, c5, c6, c7, c8⟩ := cells9 hS.r; obtain ⟨f0, f1, f2, f3, f4, f5, f6, f7, f8⟩ := frozen9 hS.r; obtain ⟨d0, d1, d2, d3, d4, d5, d6, d7, d8⟩ := cells9 hS.d; have HS5 := Aside0.mk hS; clear hS hb5)
        | (go_at_call 47; refine (impl_deedText.calls 4 _ _ _ _ _ _ _ _ _ _ _ (Tb.TB.below HT.out.tb HS5.out.bel) HX.out).mono ?_; rintro e w6 ⟨rfl, hb6⟩; have hS := HS5.out.step hb6; obtain ⟨c0, c1, c2, c3, c4, c5, c6, c7, c8⟩ := cells9 hS.r; obtain ⟨f0, f1, f2, f3, f4, f5, f6, f7, f8⟩ := frozen9 hS.r; obtain ⟨d0, d1, d2, d3, d4, d5, d6, d7, d8⟩ := cells9 hS.d; have HS6 := Aside0.mk hS; clear hS hb6))
      refine bodyPost_ret (results_ct rfl _ _ w.heap.size 41 (cellsN (1, m1, m2, m3, 0, 0, 0, 0, 0)) (0, 0) _ rfl (HS6.out.putR (1, m1, m2, m3, 0, 0, 0, 0, 0)).r Tryd.underlying41 rfl (by kernel_rfl)) rfl ?_
      exact ⟨HE.out, (HS6.out.putR (1, m1, m2, m3, 0, 0, 0, 0, 0)).bel⟩
    · have HE := Aside0.mk (show endN (n0, false) = endN (okI l (1, m1, m2, m3, 0, 0, 0, 0, 0)) by simp [okI, hk, ht])
      have q9 : ((txt (textN (1, m1, m2, m3, 0, 0, 0, 0, 0))).toList == (txt l).toList) = false := by rw [ByteArray.toList_eq, ByteArray.toList_eq]; exact beq_eq_false_iff_ne.2 ht
      have q9n : ((txt (textN (1, m1, m2, m3, 0, 0, 0, 0, 0))).toList != (txt l).toList) = true := by rw [bne, q9]; rfl
      clear hk ht
      go_enter Tryd.func61, Tryd.ntmps61
      go_wp2_with (first
        | (go_at_call 89; refine (cut_at HC.out hl _ (Tb.TC.below HT.out (below_alloc (Below.refl _ _) _))).mono ?_; rintro e w1 ⟨rfl, hb1⟩; have HS := Aside0.mk (St.mk (g := w1.heap.size) (below_alloc (below_step (below_alloc (Below.refl _ _) _) hb1) _) (Nat.le_refl _) (Nat.lt_of_lt_of_le (by simp) hb1.size) (blk_alloc (blk_below (blk_new w (blkN n0)) hb1) _) (blk_new w1 (blkN n0))); clear hb1)
        | (go_at_call 94; refine (impl_readAll.calls k _ _ _ _ _ _ _ (Tb.TC.below HT.out HS.out.bel) HQ.out).mono ?_; rintro e w2 ⟨v, rfl, hR, hb2⟩; obtain ⟨A, cA, rfl, hcc, hC⟩ := Kd.R_reads hR; obtain ⟨ad, rfl, hx0, hx1, hx2⟩ := three_cells hC; have hneq := three_far hR HS.out.d; clear hR hC hcc; have hS := HS.out.step hb2; obtain ⟨d0, d1, d2, d3, d4, d5, d6, d7, d8⟩ := cells9 hS.d; obtain ⟨k0, k1, k2, k3, k4, k5, k6, k7, k8⟩ := frozen9 hS.d; obtain ⟨c0, c1, c2, c3, c4, c5, c6, c7, c8⟩ := cells9 hS.r; obtain ⟨f0, f1, f2, f3, f4, f5, f6, f7, f8⟩ := frozen9 hS.r; have HS := Aside0.mk hS; clear hS hb2)
        | (go_at_call 46; refine (impl_ValidDeed.calls _ _ _ _ _ _ _ _ _ _ _ HV.out).mono ?_; rintro e w5 ⟨rfl, hb5⟩; have hS := (HS.out.put (1, m1, m2, m3, 0, 0, 0, 0, 0)).drew.step hb5; obtain ⟨c0, c1, c2, c3, c4, c5, c6, c7, c8⟩ := cells9 hS.r; obtain ⟨f0, f1, f2, f3, f4, f5, f6, f7, f8⟩ := frozen9 hS.r; obtain ⟨d0, d1, d2, d3, d4, d5, d6, d7, d8⟩ := cells9 hS.d; have HS5 := Aside0.mk hS; clear hS hb5)
        | (go_at_call 47; refine (impl_deedText.calls 4 _ _ _ _ _ _ _ _ _ _ _ (Tb.TB.below HT.out.tb HS5.out.bel) HX.out).mono ?_; rintro e w6 ⟨rfl, hb6⟩; have hS := HS5.out.step hb6; obtain ⟨c0, c1, c2, c3, c4, c5, c6, c7, c8⟩ := cells9 hS.r; obtain ⟨f0, f1, f2, f3, f4, f5, f6, f7, f8⟩ := frozen9 hS.r; obtain ⟨d0, d1, d2, d3, d4, d5, d6, d7, d8⟩ := cells9 hS.d; have HS6 := Aside0.mk hS; clear hS hb6))
      go_region
      go_wp2_with (first
        | (go_at_call 89; refine (cut_at HC.out hl _ (Tb.TC.below HT.out (below_alloc (Below.refl _ _) _))).mono ?_; rintro e w1 ⟨rfl, hb1⟩; have HS := Aside0.mk (St.mk (g := w1.heap.size) (below_alloc (below_step (below_alloc (Below.refl _ _) _) hb1) _) (Nat.le_refl _) (Nat.lt_of_lt_of_le (by simp) hb1.size) (blk_alloc (blk_below (blk_new w (blkN n0)) hb1) _) (blk_new w1 (blkN n0))); clear hb1)
        | (go_at_call 94; refine (impl_readAll.calls k _ _ _ _ _ _ _ (Tb.TC.below HT.out HS.out.bel) HQ.out).mono ?_; rintro e w2 ⟨v, rfl, hR, hb2⟩; obtain ⟨A, cA, rfl, hcc, hC⟩ := Kd.R_reads hR; obtain ⟨ad, rfl, hx0, hx1, hx2⟩ := three_cells hC; have hneq := three_far hR HS.out.d; clear hR hC hcc; have hS := HS.out.step hb2; obtain ⟨d0, d1, d2, d3, d4, d5, d6, d7, d8⟩ := cells9 hS.d; obtain ⟨k0, k1, k2, k3, k4, k5, k6, k7, k8⟩ := frozen9 hS.d; obtain ⟨c0, c1, c2, c3, c4, c5, c6, c7, c8⟩ := cells9 hS.r; obtain ⟨f0, f1, f2, f3, f4, f5, f6, f7, f8⟩ := frozen9 hS.r; have HS := Aside0.mk hS; clear hS hb2)
        | (go_at_call 46; refine (impl_ValidDeed.calls _ _ _ _ _ _ _ _ _ _ _ HV.out).mono ?_; rintro e w5 ⟨rfl, hb5⟩; have hS := (HS.out.put (1, m1, m2, m3, 0, 0, 0, 0, 0)).drew.step hb5; obtain ⟨c0, c1, c2, c3, c4, c5, c6, c7, c8⟩ := cells9 hS.r; obtain ⟨f0, f1, f2, f3, f4, f5, f6, f7, f8⟩ := frozen9 hS.r; obtain ⟨d0, d1, d2, d3, d4, d5, d6, d7, d8⟩ := cells9 hS.d; have HS5 := Aside0.mk hS; clear hS hb5)
        | (go_at_call 47; refine (impl_deedText.calls 4 _ _ _ _ _ _ _ _ _ _ _ (Tb.TB.below HT.out.tb HS5.out.bel) HX.out).mono ?_; rintro e w6 ⟨rfl, hb6⟩; have hS := HS5.out.step hb6; obtain ⟨c0, c1, c2, c3, c4, c5, c6, c7, c8⟩ := cells9 hS.r; obtain ⟨f0, f1, f2, f3, f4, f5, f6, f7, f8⟩ := frozen9 hS.r; obtain ⟨d0, d1, d2, d3, d4, d5, d6, d7, d8⟩ := cells9 hS.d; have HS6 := Aside0.mk hS; clear hS hb6))
      refine bodyPost_ret (results_ct rfl _ _ w.heap.size 41 (cellsN n0) (0, 0) _ rfl (HS6.out.putR n0).r Tryd.underlying41 rfl (by kernel_rfl)) rfl ?_
      exact ⟨HE.out, (HS6.out.putR n0).bel⟩
set_option maxRecDepth 100000 in
set_option maxHeartbeats 1000000 in
theorem read_grout (l p q : List UInt8) (t : Bool) (hl : l.length ≤ 1048576) (hc : cut1 32 l = (p, q, t)) (hp : p = [103, 114, 111, 117, 116]) (k : Nat) (m1 m2 m3 : Int) (hr : impl_readAll.f k (txt q) (⟨#[32]⟩ : ByteArray) (-1000000000) 1000000000 = some ([m1, m2, m3], true)) (w : World) (hT : Tb.TC w) :
    Calls Tryd.prog 61 #[.string (txt l)] w fun e w' => e = endN (okI l (3, 0, 0, 0, 0, 0, m1, m2, m3)) ∧ Below w.heap.size w w' := by
  have HT := Aside0.mk hT
  have HC := Lib.hid hc
  have hu := Tryd.underlying41
  have hu2 := Tryd.underlying39
  have hp1 : p ≠ [98, 117, 105, 108, 100] := by rw [hp]; decide
  have q0 : ((txt p).toList == [98, 117, 105, 108, 100]) = false := by rw [ByteArray.toList_eq]; exact beq_eq_false_iff_ne.2 hp1
  have q1 : ((txt p).toList == [103, 114, 111, 117, 116]) = true := by rw [ByteArray.toList_eq]; exact beq_iff_eq.2 hp
  have HQ := Aside0.mk hr
  clear hc hp1 hp hT hr
  cases hk : deedN (3, 0, 0, 0, 0, 0, m1, m2, m3)
  · have HE := Aside0.mk (show endN (n0, false) = endN (okI l (3, 0, 0, 0, 0, 0, m1, m2, m3)) by simp [okI, hk])
    have HV := Aside0.mk ((impl_eq 3 0 0 0 0 0 m1 m2 m3).trans (congrArg some hk))
    clear hk
    go_enter Tryd.func61, Tryd.ntmps61
    go_wp2_with (first
      | (go_at_call 89; refine (cut_at HC.out hl _ (Tb.TC.below HT.out (below_alloc (Below.refl _ _) _))).mono ?_; rintro e w1 ⟨rfl, hb1⟩; have HS := Aside0.mk (St.mk (g := w1.heap.size) (below_alloc (below_step (below_alloc (Below.refl _ _) _) hb1) _) (Nat.le_refl _) (Nat.lt_of_lt_of_le (by simp) hb1.size) (blk_alloc (blk_below (blk_new w (blkN n0)) hb1) _) (blk_new w1 (blkN n0))); clear hb1)
      | (go_at_call 94; refine (impl_readAll.calls k _ _ _ _ _ _ _ (Tb.TC.below HT.out HS.out.bel) HQ.out).mono ?_; rintro e w2 ⟨v, rfl, hR, hb2⟩; obtain ⟨A, cA, rfl, hcc, hC⟩ := Kd.R_reads hR; obtain ⟨ad, rfl, hx0, hx1, hx2⟩ := three_cells hC; have hneq := three_far hR HS.out.d; clear hR hC hcc; have hS := HS.out.step hb2; obtain ⟨d0, d1, d2, d3, d4, d5, d6, d7, d8⟩ := cells9 hS.d; obtain ⟨k0, k1, k2, k3, k4, k5, k6, k7, k8⟩ := frozen9 hS.d; obtain ⟨c0, c1, c2, c3, c4, c5, c6, c7, c8⟩ := cells9 hS.r; obtain ⟨f0, f1, f2, f3, f4, f5, f6, f7, f8⟩ := frozen9 hS.r; have HS := Aside0.mk hS; clear hS hb2)
      | (go_at_call 46; refine (impl_ValidDeed.calls _ _ _ _ _ _ _ _ _ _ _ HV.out).mono ?_; rintro e w5 ⟨rfl, hb5⟩; have hS := (((HS.out.put (1, m1, m2, m3, 0, 0, 0, 0, 0)).put (3, 0, 0, 0, 0, 0, m1, m2, m3)).drew.drew).step hb5; obtain ⟨c0, c1, c2, c3, c4, c5, c6, c7, c8⟩ := cells9 hS.r; obtain ⟨f0, f1, f2, f3, f4, f5, f6, f7, f8⟩ := frozen9 hS.r; obtain ⟨d0, d1, d2, d3, d4, d5, d6, d7, d8⟩ := cells9 hS.d; have HS5 := Aside0.mk hS; clear hS hb5))
    go_region
    have e0 := set9_cell (1, m1, m2, m3, 0, 0, 0, 0, 0) hneq hx0
    have e1 := set9_cell (a := ⟨ad.block, ad.off + 1, none⟩) (1, m1, m2, m3, 0, 0, 0, 0, 0) hneq hx1
    have e2 := set9_cell (a := ⟨ad.block, ad.off + 2, none⟩) (1, m1, m2, m3, 0, 0, 0, 0, 0) hneq hx2
    obtain ⟨d0, d1, d2, d3, d4, d5, d6, d7, d8⟩ := cells9 (HS.out.put (1, m1, m2, m3, 0, 0, 0, 0, 0)).d
    obtain ⟨k0, k1, k2, k3, k4, k5, k6, k7, k8⟩ := frozen9 (HS.out.put (1, m1, m2, m3, 0, 0, 0, 0, 0)).d
    go_wp2_with (first
      | (go_at_call 89; refine (cut_at HC.out hl _ (Tb.TC.below HT.out (below_alloc (Below.refl _ _) _))).mono ?_; rintro e w1 ⟨rfl, hb1⟩; have HS := Aside0.mk (St.mk (g := w1.heap.size) (below_alloc (below_step (below_alloc (Below.refl _ _) _) hb1) _) (Nat.le_refl _) (Nat.lt_of_lt_of_le (by simp) hb1.size) (blk_alloc (blk_below (blk_new w (blkN n0)) hb1) _) (blk_new w1 (blkN n0))); clear hb1)
      | (go_at_call 94; refine (impl_readAll.calls k _ _ _ _ _ _ _ (Tb.TC.below HT.out HS.out.bel) HQ.out).mono ?_; rintro e w2 ⟨v, rfl, hR, hb2⟩; obtain ⟨A, cA, rfl, hcc, hC⟩ := Kd.R_reads hR; obtain ⟨ad, rfl, hx0, hx1, hx2⟩ := three_cells hC; have hneq := three_far hR HS.out.d; clear hR hC hcc; have hS := HS.out.step hb2; obtain ⟨d0, d1, d2, d3, d4, d5, d6, d7, d8⟩ := cells9 hS.d; obtain ⟨k0, k1, k2, k3, k4, k5, k6, k7, k8⟩ := frozen9 hS.d; obtain ⟨c0, c1, c2, c3, c4, c5, c6, c7, c8⟩ := cells9 hS.r; obtain ⟨f0, f1, f2, f3, f4, f5, f6, f7, f8⟩ := frozen9 hS.r; have HS := Aside0.mk hS; clear hS hb2)
      | (go_at_call 46; refine (impl_ValidDeed.calls _ _ _ _ _ _ _ _ _ _ _ HV.out).mono ?_; rintro e w5 ⟨rfl, hb5⟩; have hS := (((HS.out.put (1, m1, m2, m3, 0, 0, 0, 0, 0)).put (3, 0, 0, 0, 0, 0, m1, m2, m3)).drew.drew).step hb5; obtain ⟨c0, c1, c2, c3, c4, c5, c6, c7, c8⟩ := cells9 hS.r; obtain ⟨f0, f1, f2, f3, f4, f5, f6, f7, f8⟩ := frozen9 hS.r; obtain ⟨d0, d1, d2, d3, d4, d5, d6, d7, d8⟩ := cells9 hS.d; have HS5 := Aside0.mk hS; clear hS hb5))
    go_region
    go_wp2_with (first
      | (go_at_call 89; refine (cut_at HC.out hl _ (Tb.TC.below HT.out (below_alloc (Below.refl _ _) _))).mono ?_; rintro e w1 ⟨rfl, hb1⟩; have HS := Aside0.mk (St.mk (g := w1.heap.size) (below_alloc (below_step (below_alloc (Below.refl _ _) _) hb1) _) (Nat.le_refl _) (Nat.lt_of_lt_of_le (by simp) hb1.size) (blk_alloc (blk_below (blk_new w (blkN n0)) hb1) _) (blk_new w1 (blkN n0))); clear hb1)
      | (go_at_call 94; refine (impl_readAll.calls k _ _ _ _ _ _ _ (Tb.TC.below HT.out HS.out.bel) HQ.out).mono ?_; rintro e w2 ⟨v, rfl, hR, hb2⟩; obtain ⟨A, cA, rfl, hcc, hC⟩ := Kd.R_reads hR; obtain ⟨ad, rfl, hx0, hx1, hx2⟩ := three_cells hC; have hneq := three_far hR HS.out.d; clear hR hC hcc; have hS := HS.out.step hb2; obtain ⟨d0, d1, d2, d3, d4, d5, d6, d7, d8⟩ := cells9 hS.d; obtain ⟨k0, k1, k2, k3, k4, k5, k6, k7, k8⟩ := frozen9 hS.d; obtain ⟨c0, c1, c2, c3, c4, c5, c6, c7, c8⟩ := cells9 hS.r; obtain ⟨f0, f1, f2, f3, f4, f5, f6, f7, f8⟩ := frozen9 hS.r; have HS := Aside0.mk hS; clear hS hb2)
      | (go_at_call 46; refine (impl_ValidDeed.calls _ _ _ _ _ _ _ _ _ _ _ HV.out).mono ?_; rintro e w5 ⟨rfl, hb5⟩; have hS := (((HS.out.put (1, m1, m2, m3, 0, 0, 0, 0, 0)).put (3, 0, 0, 0, 0, 0, m1, m2, m3)).drew.drew).step hb5; obtain ⟨c0, c1, c2, c3, c4, c5, c6, c7, c8⟩ := cells9 hS.r; obtain ⟨f0, f1, f2, f3, f4, f5, f6, f7, f8⟩ := frozen9 hS.r; obtain ⟨d0, d1, d2, d3, d4, d5, d6, d7, d8⟩ := cells9 hS.d; have HS5 := Aside0.mk hS; clear hS hb5))
    refine bodyPost_ret (results_ct rfl _ _ w.heap.size 41 (cellsN n0) (0, 0) _ rfl (HS5.out.putR n0).r Tryd.underlying41 rfl (by kernel_rfl)) rfl ?_
    exact ⟨HE.out, (HS5.out.putR n0).bel⟩
  · have HX := Aside0.mk (show impl_deedText.f 4 3 0 0 0 0 0 m1 m2 m3 = some (txt (textN (3, 0, 0, 0, 0, 0, m1, m2, m3))) from implDeedT hk 4 (by omega))
    have HV := Aside0.mk ((impl_eq 3 0 0 0 0 0 m1 m2 m3).trans (congrArg some hk))
    by_cases ht : textN (3, 0, 0, 0, 0, 0, m1, m2, m3) = l
    · have HE := Aside0.mk (show endN ((3, 0, 0, 0, 0, 0, m1, m2, m3), true) = endN (okI l (3, 0, 0, 0, 0, 0, m1, m2, m3)) by simp [okI, hk, ht])
      have q9 : ((txt (textN (3, 0, 0, 0, 0, 0, m1, m2, m3))).toList == (txt l).toList) = true := by rw [ByteArray.toList_eq, ByteArray.toList_eq]; exact beq_iff_eq.2 ht
      have q9n : ((txt (textN (3, 0, 0, 0, 0, 0, m1, m2, m3))).toList != (txt l).toList) = false := by rw [bne, q9]; rfl
      clear hk ht
      go_enter Tryd.func61, Tryd.ntmps61
      go_wp2_with (first
        | (go_at_call 89; refine (cut_at HC.out hl _ (Tb.TC.below HT.out (below_alloc (Below.refl _ _) _))).mono ?_; rintro e w1 ⟨rfl, hb1⟩; have HS := Aside0.mk (St.mk (g := w1.heap.size) (below_alloc (below_step (below_alloc (Below.refl _ _) _) hb1) _) (Nat.le_refl _) (Nat.lt_of_lt_of_le (by simp) hb1.size) (blk_alloc (blk_below (blk_new w (blkN n0)) hb1) _) (blk_new w1 (blkN n0))); clear hb1)
        | (go_at_call 94; refine (impl_readAll.calls k _ _ _ _ _ _ _ (Tb.TC.below HT.out HS.out.bel) HQ.out).mono ?_; rintro e w2 ⟨v, rfl, hR, hb2⟩; obtain ⟨A, cA, rfl, hcc, hC⟩ := Kd.R_reads hR; obtain ⟨ad, rfl, hx0, hx1, hx2⟩ := three_cells hC; have hneq := three_far hR HS.out.d; clear hR hC hcc; have hS := HS.out.step hb2; obtain ⟨d0, d1, d2, d3, d4, d5, d6, d7, d8⟩ := cells9 hS.d; obtain ⟨k0, k1, k2, k3, k4, k5, k6, k7, k8⟩ := frozen9 hS.d; obtain ⟨c0, c1, c2, c3, c4, c5, c6, c7, c8⟩ := cells9 hS.r; obtain ⟨f0, f1, f2, f3, f4, f5, f6, f7, f8⟩ := frozen9 hS.r; have HS := Aside0.mk hS; clear hS hb2)
        | (go_at_call 46; refine (impl_ValidDeed.calls _ _ _ _ _ _ _ _ _ _ _ HV.out).mono ?_; rintro e w5 ⟨rfl, hb5⟩; have hS := (((HS.out.put (1, m1, m2, m3, 0, 0, 0, 0, 0)).put (3, 0, 0, 0, 0, 0, m1, m2, m3)).drew.drew).step hb5; obtain ⟨c0, c1, c2, c3, c4, c5, c6, c7, c8⟩ := cells9 hS.r; obtain ⟨f0, f1, f2, f3, f4, f5, f6, f7, f8⟩ := frozen9 hS.r; obtain ⟨d0, d1, d2, d3, d4, d5, d6, d7, d8⟩ := cells9 hS.d; have HS5 := Aside0.mk hS; clear hS hb5)
        | (go_at_call 47; refine (impl_deedText.calls 4 _ _ _ _ _ _ _ _ _ _ _ (Tb.TB.below HT.out.tb HS5.out.bel) HX.out).mono ?_; rintro e w6 ⟨rfl, hb6⟩; have hS := HS5.out.step hb6; obtain ⟨c0, c1, c2, c3, c4, c5, c6, c7, c8⟩ := cells9 hS.r; obtain ⟨f0, f1, f2, f3, f4, f5, f6, f7, f8⟩ := frozen9 hS.r; obtain ⟨d0, d1, d2, d3, d4, d5, d6, d7, d8⟩ := cells9 hS.d; have HS6 := Aside0.mk hS; clear hS hb6))
      go_region
      have e0 := set9_cell (1, m1, m2, m3, 0, 0, 0, 0, 0) hneq hx0
      have e1 := set9_cell (a := ⟨ad.block, ad.off + 1, none⟩) (1, m1, m2, m3, 0, 0, 0, 0, 0) hneq hx1
      have e2 := set9_cell (a := ⟨ad.block, ad.off + 2, none⟩) (1, m1, m2, m3, 0, 0, 0, 0, 0) hneq hx2
      obtain ⟨d0, d1, d2, d3, d4, d5, d6, d7, d8⟩ := cells9 (HS.out.put (1, m1, m2, m3, 0, 0, 0, 0, 0)).d
      obtain ⟨k0, k1, k2, k3, k4, k5, k6, k7, k8⟩ := frozen9 (HS.out.put (1, m1, m2, m3, 0, 0, 0, 0, 0)).d
      go_wp2_with (first
        | (go_at_call 89; refine (cut_at HC.out hl _ (Tb.TC.below HT.out (below_alloc (Below.refl _ _) _))).mono ?_; rintro e w1 ⟨rfl, hb1⟩; have HS := Aside0.mk (St.mk (g := w1.heap.size) (below_alloc (below_step (below_alloc (Below.refl _ _) _) hb1) _) (Nat.le_refl _) (Nat.lt_of_lt_of_le (by simp) hb1.size) (blk_alloc (blk_below (blk_new w (blkN n0)) hb1) _) (blk_new w1 (blkN n0))); clear hb1)
        | (go_at_call 94; refine (impl_readAll.calls k _ _ _ _ _ _ _ (Tb.TC.below HT.out HS.out.bel) HQ.out).mono ?_; rintro e w2 ⟨v, rfl, hR, hb2⟩; obtain ⟨A, cA, rfl, hcc, hC⟩ := Kd.R_reads hR; obtain ⟨ad, rfl, hx0, hx1, hx2⟩ := three_cells hC; have hneq := three_far hR HS.out.d; clear hR hC hcc; have hS := HS.out.step hb2; obtain ⟨d0, d1, d2, d3, d4, d5, d6, d7, d8⟩ := cells9 hS.d; obtain ⟨k0, k1, k2, k3, k4, k5, k6, k7, k8⟩ := frozen9 hS.d; obtain ⟨c0, c1, c2, c3, c4, c5, c6, c7, c8⟩ := cells9 hS.r; obtain ⟨f0, f1, f2, f3, f4, f5, f6, f7, f8⟩ := frozen9 hS.r; have HS := Aside0.mk hS; clear hS hb2)
        | (go_at_call 46; refine (impl_ValidDeed.calls _ _ _ _ _ _ _ _ _ _ _ HV.out).mono ?_; rintro e w5 ⟨rfl, hb5⟩; have hS := (((HS.out.put (1, m1, m2, m3, 0, 0, 0, 0, 0)).put (3, 0, 0, 0, 0, 0, m1, m2, m3)).drew.drew).step hb5; obtain ⟨c0, c1, c2, c3, c4, c5, c6, c7, c8⟩ := cells9 hS.r; obtain ⟨f0, f1, f2, f3, f4, f5, f6, f7, f8⟩ := frozen9 hS.r; obtain ⟨d0, d1, d2, d3, d4, d5, d6, d7, d8⟩ := cells9 hS.d; have HS5 := Aside0.mk hS; clear hS hb5)
        | (go_at_call 47; refine (impl_deedText.calls 4 _ _ _ _ _ _ _ _ _ _ _ (Tb.TB.below HT.out.tb HS5.out.bel) HX.out).mono ?_; rintro e w6 ⟨rfl, hb6⟩; have hS := HS5.out.step hb6; obtain ⟨c0, c1, c2, c3, c4, c5, c6, c7, c8⟩ := cells9 hS.r; obtain ⟨f0, f1, f2, f3, f4, f5, f6, f7, f8⟩ := frozen9 hS.r; obtain ⟨d0, d1, d2, d3, d4, d5, d6, d7, d8⟩ := cells9 hS.d; have HS6 := Aside0.mk hS; clear hS hb6))
      go_region
      go_wp2_with (first
        | (go_at_call 89; refine (cut_at HC.out hl _ (Tb.TC.below HT.out (below_alloc (Below.refl _ _) _))).mono ?_; rintro e w1 ⟨rfl, hb1⟩; have HS := Aside0.mk (St.mk (g := w1.heap.size) (below_alloc (below_step (below_alloc (Below.refl _ _) _) hb1) _) (Nat.le_refl _) (Nat.lt_of_lt_of_le (by simp) hb1.size) (blk_alloc (blk_below (blk_new w (blkN n0)) hb1) _) (blk_new w1 (blkN n0))); clear hb1)
        | (go_at_call 94; refine (impl_readAll.calls k _ _ _ _ _ _ _ (Tb.TC.below HT.out HS.out.bel) HQ.out).mono ?_; rintro e w2 ⟨v, rfl, hR, hb2⟩; obtain ⟨A, cA, rfl, hcc, hC⟩ := Kd.R_reads hR; obtain ⟨ad, rfl, hx0, hx1, hx2⟩ := three_cells hC; have hneq := three_far hR HS.out.d; clear hR hC hcc; have hS := HS.out.step hb2; obtain ⟨d0, d1, d2, d3, d4, d5, d6, d7, d8⟩ := cells9 hS.d; obtain ⟨k0, k1, k2, k3, k4, k5, k6, k7, k8⟩ := frozen9 hS.d; obtain ⟨c0, c1, c2, c3, c4, c5, c6, c7, c8⟩ := cells9 hS.r; obtain ⟨f0, f1, f2, f3, f4, f5, f6, f7, f8⟩ := frozen9 hS.r; have HS := Aside0.mk hS; clear hS hb2)
        | (go_at_call 46; refine (impl_ValidDeed.calls _ _ _ _ _ _ _ _ _ _ _ HV.out).mono ?_; rintro e w5 ⟨rfl, hb5⟩; have hS := (((HS.out.put (1, m1, m2, m3, 0, 0, 0, 0, 0)).put (3, 0, 0, 0, 0, 0, m1, m2, m3)).drew.drew).step hb5; obtain ⟨c0, c1, c2, c3, c4, c5, c6, c7, c8⟩ := cells9 hS.r; obtain ⟨f0, f1, f2, f3, f4, f5, f6, f7, f8⟩ := frozen9 hS.r; obtain ⟨d0, d1, d2, d3, d4, d5, d6, d7, d8⟩ := cells9 hS.d; have HS5 := Aside0.mk hS; clear hS hb5)
        | (go_at_call 47; refine (impl_deedText.calls 4 _ _ _ _ _ _ _ _ _ _ _ (Tb.TB.below HT.out.tb HS5.out.bel) HX.out).mono ?_; rintro e w6 ⟨rfl, hb6⟩; have hS := HS5.out.step hb6; obtain ⟨c0, c1, c2, c3, c4, c5, c6, c7, c8⟩ := cells9 hS.r; obtain ⟨f0, f1, f2, f3, f4, f5, f6, f7, f8⟩ := frozen9 hS.r; obtain ⟨d0, d1, d2, d3, d4, d5, d6, d7, d8⟩ := cells9 hS.d; have HS6 := Aside0.mk hS; clear hS hb6))
      refine bodyPost_ret (results_ct rfl _ _ w.heap.size 41 (cellsN (3, 0, 0, 0, 0, 0, m1, m2, m3)) (0, 0) _ rfl (HS6.out.putR (3, 0, 0, 0, 0, 0, m1, m2, m3)).r Tryd.underlying41 rfl (by kernel_rfl)) rfl ?_
      exact ⟨HE.out, (HS6.out.putR (3, 0, 0, 0, 0, 0, m1, m2, m3)).bel⟩
    · have HE := Aside0.mk (show endN (n0, false) = endN (okI l (3, 0, 0, 0, 0, 0, m1, m2, m3)) by simp [okI, hk, ht])
      have q9 : ((txt (textN (3, 0, 0, 0, 0, 0, m1, m2, m3))).toList == (txt l).toList) = false := by rw [ByteArray.toList_eq, ByteArray.toList_eq]; exact beq_eq_false_iff_ne.2 ht
      have q9n : ((txt (textN (3, 0, 0, 0, 0, 0, m1, m2, m3))).toList != (txt l).toList) = true := by rw [bne, q9]; rfl
      clear hk ht
      go_enter Tryd.func61, Tryd.ntmps61
      go_wp2_with (first
        | (go_at_call 89; refine (cut_at HC.out hl _ (Tb.TC.below HT.out (below_alloc (Below.refl _ _) _))).mono ?_; rintro e w1 ⟨rfl, hb1⟩; have HS := Aside0.mk (St.mk (g := w1.heap.size) (below_alloc (below_step (below_alloc (Below.refl _ _) _) hb1) _) (Nat.le_refl _) (Nat.lt_of_lt_of_le (by simp) hb1.size) (blk_alloc (blk_below (blk_new w (blkN n0)) hb1) _) (blk_new w1 (blkN n0))); clear hb1)
        | (go_at_call 94; refine (impl_readAll.calls k _ _ _ _ _ _ _ (Tb.TC.below HT.out HS.out.bel) HQ.out).mono ?_; rintro e w2 ⟨v, rfl, hR, hb2⟩; obtain ⟨A, cA, rfl, hcc, hC⟩ := Kd.R_reads hR; obtain ⟨ad, rfl, hx0, hx1, hx2⟩ := three_cells hC; have hneq := three_far hR HS.out.d; clear hR hC hcc; have hS := HS.out.step hb2; obtain ⟨d0, d1, d2, d3, d4, d5, d6, d7, d8⟩ := cells9 hS.d; obtain ⟨k0, k1, k2, k3, k4, k5, k6, k7, k8⟩ := frozen9 hS.d; obtain ⟨c0, c1, c2, c3, c4, c5, c6, c7, c8⟩ := cells9 hS.r; obtain ⟨f0, f1, f2, f3, f4, f5, f6, f7, f8⟩ := frozen9 hS.r; have HS := Aside0.mk hS; clear hS hb2)
        | (go_at_call 46; refine (impl_ValidDeed.calls _ _ _ _ _ _ _ _ _ _ _ HV.out).mono ?_; rintro e w5 ⟨rfl, hb5⟩; have hS := (((HS.out.put (1, m1, m2, m3, 0, 0, 0, 0, 0)).put (3, 0, 0, 0, 0, 0, m1, m2, m3)).drew.drew).step hb5; obtain ⟨c0, c1, c2, c3, c4, c5, c6, c7, c8⟩ := cells9 hS.r; obtain ⟨f0, f1, f2, f3, f4, f5, f6, f7, f8⟩ := frozen9 hS.r; obtain ⟨d0, d1, d2, d3, d4, d5, d6, d7, d8⟩ := cells9 hS.d; have HS5 := Aside0.mk hS; clear hS hb5)
        | (go_at_call 47; refine (impl_deedText.calls 4 _ _ _ _ _ _ _ _ _ _ _ (Tb.TB.below HT.out.tb HS5.out.bel) HX.out).mono ?_; rintro e w6 ⟨rfl, hb6⟩; have hS := HS5.out.step hb6; obtain ⟨c0, c1, c2, c3, c4, c5, c6, c7, c8⟩ := cells9 hS.r; obtain ⟨f0, f1, f2, f3, f4, f5, f6, f7, f8⟩ := frozen9 hS.r; obtain ⟨d0, d1, d2, d3, d4, d5, d6, d7, d8⟩ := cells9 hS.d; have HS6 := Aside0.mk hS; clear hS hb6))
      go_region
      have e0 := set9_cell (1, m1, m2, m3, 0, 0, 0, 0, 0) hneq hx0
      have e1 := set9_cell (a := ⟨ad.block, ad.off + 1, none⟩) (1, m1, m2, m3, 0, 0, 0, 0, 0) hneq hx1
      have e2 := set9_cell (a := ⟨ad.block, ad.off + 2, none⟩) (1, m1, m2, m3, 0, 0, 0, 0, 0) hneq hx2
      obtain ⟨d0, d1, d2, d3, d4, d5, d6, d7, d8⟩ := cells9 (HS.out.put (1, m1, m2, m3, 0, 0, 0, 0, 0)).d
      obtain ⟨k0, k1, k2, k3, k4, k5, k6, k7, k8⟩ := frozen9 (HS.out.put (1, m1, m2, m3, 0, 0, 0, 0, 0)).d
      go_wp2_with (first
        | (go_at_call 89; refine (cut_at HC.out hl _ (Tb.TC.below HT.out (below_alloc (Below.refl _ _) _))).mono ?_; rintro e w1 ⟨rfl, hb1⟩; have HS := Aside0.mk (St.mk (g := w1.heap.size) (below_alloc (below_step (below_alloc (Below.refl _ _) _) hb1) _) (Nat.le_refl _) (Nat.lt_of_lt_of_le (by simp) hb1.size) (blk_alloc (blk_below (blk_new w (blkN n0)) hb1) _) (blk_new w1 (blkN n0))); clear hb1)
        | (go_at_call 94; refine (impl_readAll.calls k _ _ _ _ _ _ _ (Tb.TC.below HT.out HS.out.bel) HQ.out).mono ?_; rintro e w2 ⟨v, rfl, hR, hb2⟩; obtain ⟨A, cA, rfl, hcc, hC⟩ := Kd.R_reads hR; obtain ⟨ad, rfl, hx0, hx1, hx2⟩ := three_cells hC; have hneq := three_far hR HS.out.d; clear hR hC hcc; have hS := HS.out.step hb2; obtain ⟨d0, d1, d2, d3, d4, d5, d6, d7, d8⟩ := cells9 hS.d; obtain ⟨k0, k1, k2, k3, k4, k5, k6, k7, k8⟩ := frozen9 hS.d; obtain ⟨c0, c1, c2, c3, c4, c5, c6, c7, c8⟩ := cells9 hS.r; obtain ⟨f0, f1, f2, f3, f4, f5, f6, f7, f8⟩ := frozen9 hS.r; have HS := Aside0.mk hS; clear hS hb2)
        | (go_at_call 46; refine (impl_ValidDeed.calls _ _ _ _ _ _ _ _ _ _ _ HV.out).mono ?_; rintro e w5 ⟨rfl, hb5⟩; have hS := (((HS.out.put (1, m1, m2, m3, 0, 0, 0, 0, 0)).put (3, 0, 0, 0, 0, 0, m1, m2, m3)).drew.drew).step hb5; obtain ⟨c0, c1, c2, c3, c4, c5, c6, c7, c8⟩ := cells9 hS.r; obtain ⟨f0, f1, f2, f3, f4, f5, f6, f7, f8⟩ := frozen9 hS.r; obtain ⟨d0, d1, d2, d3, d4, d5, d6, d7, d8⟩ := cells9 hS.d; have HS5 := Aside0.mk hS; clear hS hb5)
        | (go_at_call 47; refine (impl_deedText.calls 4 _ _ _ _ _ _ _ _ _ _ _ (Tb.TB.below HT.out.tb HS5.out.bel) HX.out).mono ?_; rintro e w6 ⟨rfl, hb6⟩; have hS := HS5.out.step hb6; obtain ⟨c0, c1, c2, c3, c4, c5, c6, c7, c8⟩ := cells9 hS.r; obtain ⟨f0, f1, f2, f3, f4, f5, f6, f7, f8⟩ := frozen9 hS.r; obtain ⟨d0, d1, d2, d3, d4, d5, d6, d7, d8⟩ := cells9 hS.d; have HS6 := Aside0.mk hS; clear hS hb6))
      go_region
      go_wp2_with (first
        | (go_at_call 89; refine (cut_at HC.out hl _ (Tb.TC.below HT.out (below_alloc (Below.refl _ _) _))).mono ?_; rintro e w1 ⟨rfl, hb1⟩; have HS := Aside0.mk (St.mk (g := w1.heap.size) (below_alloc (below_step (below_alloc (Below.refl _ _) _) hb1) _) (Nat.le_refl _) (Nat.lt_of_lt_of_le (by simp) hb1.size) (blk_alloc (blk_below (blk_new w (blkN n0)) hb1) _) (blk_new w1 (blkN n0))); clear hb1)
        | (go_at_call 94; refine (impl_readAll.calls k _ _ _ _ _ _ _ (Tb.TC.below HT.out HS.out.bel) HQ.out).mono ?_; rintro e w2 ⟨v, rfl, hR, hb2⟩; obtain ⟨A, cA, rfl, hcc, hC⟩ := Kd.R_reads hR; obtain ⟨ad, rfl, hx0, hx1, hx2⟩ := three_cells hC; have hneq := three_far hR HS.out.d; clear hR hC hcc; have hS := HS.out.step hb2; obtain ⟨d0, d1, d2, d3, d4, d5, d6, d7, d8⟩ := cells9 hS.d; obtain ⟨k0, k1, k2, k3, k4, k5, k6, k7, k8⟩ := frozen9 hS.d; obtain ⟨c0, c1, c2, c3, c4, c5, c6, c7, c8⟩ := cells9 hS.r; obtain ⟨f0, f1, f2, f3, f4, f5, f6, f7, f8⟩ := frozen9 hS.r; have HS := Aside0.mk hS; clear hS hb2)
        | (go_at_call 46; refine (impl_ValidDeed.calls _ _ _ _ _ _ _ _ _ _ _ HV.out).mono ?_; rintro e w5 ⟨rfl, hb5⟩; have hS := (((HS.out.put (1, m1, m2, m3, 0, 0, 0, 0, 0)).put (3, 0, 0, 0, 0, 0, m1, m2, m3)).drew.drew).step hb5; obtain ⟨c0, c1, c2, c3, c4, c5, c6, c7, c8⟩ := cells9 hS.r; obtain ⟨f0, f1, f2, f3, f4, f5, f6, f7, f8⟩ := frozen9 hS.r; obtain ⟨d0, d1, d2, d3, d4, d5, d6, d7, d8⟩ := cells9 hS.d; have HS5 := Aside0.mk hS; clear hS hb5)
        | (go_at_call 47; refine (impl_deedText.calls 4 _ _ _ _ _ _ _ _ _ _ _ (Tb.TB.below HT.out.tb HS5.out.bel) HX.out).mono ?_; rintro e w6 ⟨rfl, hb6⟩; have hS := HS5.out.step hb6; obtain ⟨c0, c1, c2, c3, c4, c5, c6, c7, c8⟩ := cells9 hS.r; obtain ⟨f0, f1, f2, f3, f4, f5, f6, f7, f8⟩ := frozen9 hS.r; obtain ⟨d0, d1, d2, d3, d4, d5, d6, d7, d8⟩ := cells9 hS.d; have HS6 := Aside0.mk hS; clear hS hb6))
      refine bodyPost_ret (results_ct rfl _ _ w.heap.size 41 (cellsN n0) (0, 0) _ rfl (HS6.out.putR n0).r Tryd.underlying41 rfl (by kernel_rfl)) rfl ?_
      exact ⟨HE.out, (HS6.out.putR n0).bel⟩
end Go.Proofs.YtahmgalkliicfaaDoor.Hd

/- l11Read and readDeed: what they hand back, at every text. -/
namespace Go.Proofs.YtahmgalkliicfaaDoor.Ht
open Go.RowKit Go.Proofs.YtahmgalkliicfaaDoorW.PrintWords Go.Proofs.YtahmgalkliicfaaDoorW.PrintLast Go.Proofs.YtahmgalkliicfaaDoorW.PrintMore Go.Proofs.YtahmgalkliicfaaDoor.Q Go.Proofs.YtahmgalkliicfaaDoor.Ha Go.Proofs.YtahmgalkliicfaaDoor.Sp Go.Proofs.YtahmgalkliicfaaDoor.PuD Go.Proofs.YtahmgalkliicfaaDoor.PuV Go.Proofs.YtahmgalkliicfaaDoor.PuW Go.Proofs.YtahmgalkliicfaaDoor.PuVD Go.Proofs.YtahmgalkliicfaaDoor.PuDT Go.Proofs.YtahmgalkliicfaaDoor.Ni Go.Proofs.YtahmgalkliicfaaDoor.Hr Go.Proofs.YtahmgalkliicfaaDoor.Hs Go.Proofs.YtahmgalkliicfaaDoor.Hd

abbrev wBuild : List UInt8 := [98, 117, 105, 108, 100]
abbrev wPush : List UInt8 := [112, 117, 115, 104]
abbrev wGrout : List UInt8 := [103, 114, 111, 117, 116]
abbrev rdV (l : List UInt8) : Int × Bool := readL l (-1000000000) 1000000000
/-- The deed that words name, valid or not. -/
def deedW : List (List UInt8) → Nine
  | [a, b] => if a = wBuild then (2, 0, 0, 0, (wordR b).1, (wordR b).2, 0, 0, 0) else n0
  | [a, b, c, d] => if ((rdV b).2 && (rdV c).2 && (rdV d).2) = true then (if a = wPush then (1, (rdV b).1, (rdV c).1, (rdV d).1, 0, 0, 0, 0, 0) else if a = wGrout then (3, 0, 0, 0, 0, 0, (rdV b).1, (rdV c).1, (rdV d).1) else n0) else n0
  | _ => n0
def readS (l : List UInt8) : Nine × Bool := okN (deedW (split1 32 l))

theorem split1_len (c : UInt8) (l : List UInt8) : ∀ w ∈ split1 c l, w.length ≤ l.length := by
  induction l with
  | nil => intro w hw; simp [split1] at hw; simp [hw]
  | cons b l ih =>
    intro w hw
    simp only [split1] at hw
    split at hw
    · rcases List.mem_cons.1 hw with rfl | h
      · simp
      · have := ih w h; simp; omega
    · split at hw
      · simp at hw; subst hw; simp
      · rename_i w0 ws he
        rcases List.mem_cons.1 hw with rfl | h
        · have := ih w0 (by rw [he]; simp); simp; omega
        · have := ih w (by rw [he]; simp [h]); simp; omega

theorem l11Read_any (l : List UInt8) (hl : l.length ≤ 4294967296) (w : World) :
    Calls Tryd.prog 60 #[.string (txt l)] w fun e w' => e = endN (readS l) ∧ Below w.heap.size w w' := by
  have hle : ∀ w ∈ split1 32 l, w.length ≤ 4294967296 := fun w hw => Nat.le_trans (split1_len 32 l w hw) hl
  unfold readS
  match hs : split1 32 l with
  | [] => exact read_other l hl (by rw [hs]; decide) (by rw [hs]; decide) w
  | [a] => exact read_other l hl (by rw [hs]; simp) (by rw [hs]; simp) w
  | [a, b, c] => exact read_other l hl (by rw [hs]; simp) (by rw [hs]; simp) w
  | a :: b :: c :: d :: e :: r => exact read_other l hl (by rw [hs]; simp) (by rw [hs]; simp) w
  | [a, b] =>
    rw [hs] at hle
    simp only [deedW]
    by_cases ha : a = wBuild
    · rw [if_pos ha]; exact read_two_yes l hl a b hs ha (hle b (by simp)) w
    · rw [if_neg ha]; exact read_two_no l hl a b hs ha w
  | [a, b, c, d] =>
    rw [hs] at hle
    have l1 := hle b (by simp); have l2 := hle c (by simp); have l3 := hle d (by simp)
    simp only [deedW]
    by_cases ho : ((rdV b).2 && (rdV c).2 && (rdV d).2) = true
    · have ht : (rdV b).2 = true ∧ (rdV c).2 = true ∧ (rdV d).2 = true := by simp only [Bool.and_eq_true] at ho; exact ⟨ho.1.1, ho.1.2, ho.2⟩
      rw [if_pos ho]
      by_cases h1 : a = wPush
      · rw [if_pos h1]; exact read_four_push l hl a b c d hs _ _ _ _ _ _ l1 l2 l3 rfl rfl rfl h1 ht w
      · rw [if_neg h1]
        by_cases h2 : a = wGrout
        · rw [if_pos h2]; exact read_four_grout l hl a b c d hs _ _ _ _ _ _ l1 l2 l3 rfl rfl rfl h2 ht w
        · rw [if_neg h2]; exact read_four_none l hl a b c d hs _ _ _ _ _ _ l1 l2 l3 rfl rfl rfl h1 h2 ht w
    · rw [if_neg ho]; exact read_four_bad l hl a b c d hs _ _ _ _ _ _ l1 l2 l3 rfl rfl rfl (by rcases Bool.eq_false_or_eq_true ((rdV b).2 && (rdV c).2 && (rdV d).2) with h | h; exact absurd h ho; exact h) w

/-- What the program hands back of the numbers behind a word. -/
def deedI (l p : List UInt8) (r : List Int × Bool) : Nine × Bool := match r with
  | ([m1, m2, m3], true) => okI l (if p = wGrout then (3, 0, 0, 0, 0, 0, m1, m2, m3) else (1, m1, m2, m3, 0, 0, 0, 0, 0))
  | _ => (n0, false)
def readI (l : List UInt8) : Option (Nine × Bool) :=
  if (cut1 32 l).1 = wBuild then (impl_readRing.f (l.length + 100) (txt (cut1 32 l).2.1)).bind fun r => some (okI l (2, 0, 0, 0, r.1, r.2.1, 0, 0, 0))
  else (impl_readAll.f (l.length + 100) (txt (cut1 32 l).2.1) (⟨#[32]⟩ : ByteArray) (-1000000000) 1000000000).bind fun r => some (deedI l (cut1 32 l).1 r)
theorem readDeed_any (l : List UInt8) (hl : l.length ≤ 1048576) (x : Nine × Bool) (h : readI l = some x) (w : World) (hT : Tb.TC w) :
    Calls Tryd.prog 61 #[.string (txt l)] w fun e w' => e = endN x ∧ Below w.heap.size w w' := by
  obtain ⟨p, q, t, hc⟩ : ∃ p q t, cut1 32 l = (p, q, t) := ⟨_, _, _, rfl⟩
  unfold readI at h
  rw [hc] at h
  by_cases hp : p = wBuild
  · rw [if_pos hp] at h
    cases hr : impl_readRing.f (l.length + 100) (txt q) with
    | none => rw [hr] at h; simp at h
    | some r =>
      obtain ⟨rk, rn, ok⟩ := r
      rw [hr] at h
      obtain rfl := Option.some.inj h
      exact read_build l p q t hl hc hp _ rk rn ok hr w hT
  · rw [if_neg hp] at h
    cases hr : impl_readAll.f (l.length + 100) (txt q) (⟨#[32]⟩ : ByteArray) (-1000000000) 1000000000 with
    | none => rw [hr] at h; simp at h
    | some r =>
      obtain ⟨ns, ok⟩ := r
      rw [hr] at h
      obtain rfl := Option.some.inj h
      have bad : ok = false ∨ ns.length ≠ 3 → deedI l p (ns, ok) = (n0, false) := by
        rintro (rfl | hn)
        · unfold deedI; split
          · rename_i h; cases h
          · rfl
        · unfold deedI; split
          · rename_i h; cases h; exact absurd rfl hn
          · rfl
      by_cases hb : ok = false ∨ ns.length ≠ 3
      · show Calls Tryd.prog 61 #[.string (txt l)] w fun e w' => e = endN (deedI l p (ns, ok)) ∧ Below w.heap.size w w'
        rw [bad hb]
        exact read_bad l p q t hl hc hp _ ns ok hr hb w hT
      · obtain ⟨rfl, h3⟩ : ok = true ∧ ns.length = 3 := by
          cases ok with
          | false => exact absurd (.inl rfl) hb
          | true => exact ⟨rfl, by rcases Nat.decEq ns.length 3 with h | h; exact absurd (.inr h) hb; exact h⟩
        obtain ⟨m1, m2, m3, rfl⟩ : ∃ m1 m2 m3, ns = [m1, m2, m3] := by
          match ns, h3 with
          | [a, b, c], _ => exact ⟨a, b, c, rfl⟩
        show Calls Tryd.prog 61 #[.string (txt l)] w fun e w' => e = endN (okI l (if p = wGrout then (3, 0, 0, 0, 0, 0, m1, m2, m3) else (1, m1, m2, m3, 0, 0, 0, 0, 0))) ∧ Below w.heap.size w w'
        by_cases hg : p = wGrout
        · rw [if_pos hg]; exact read_grout l p q t hl hc hg _ m1 m2 m3 hr w hT
        · rw [if_neg hg]; exact read_push l p q t hl hc ⟨hp, hg⟩ _ m1 m2 m3 hr w hT
/-- A deed and an answer, side by side. -/
def flat (x : Nine × Bool) : Int × Int × Int × Int × Int × Int × Int × Int × Int × Bool := (x.1.1, x.1.2.1, x.1.2.2.1, x.1.2.2.2.1, x.1.2.2.2.2.1, x.1.2.2.2.2.2.1, x.1.2.2.2.2.2.2.1, x.1.2.2.2.2.2.2.2.1, x.1.2.2.2.2.2.2.2.2, x.2)
end Go.Proofs.YtahmgalkliicfaaDoor.Ht

-- made by a patched copy of print.sh: this session's own
namespace Go.Proofs.YtahmgalkliicfaaDoor.Q
open Go.RowKit Go.Proofs.YtahmgalkliicfaaDoorW.PrintWords Go.Proofs.YtahmgalkliicfaaDoorW.PrintLast Go.Proofs.YtahmgalkliicfaaDoorW.PrintMore
attribute [local go_sem] max2_int min2_int max_two min_two max_three min_three max_four min_four   -- for this text's walks alone
set_option linter.unusedVariables false
set_option linter.unusedSimpArgs false

/-! ### spec_l11Read: function 60 -/
def spec_l11Read.f (a0 : ByteArray) : Option (Int × Int × Int × Int × Int × Int × Int × Int × Int × Bool) := if a0.size ≤ 4294967296 then some (Ht.flat (Ht.readS a0.data.toList)) else none
theorem spec_l11Read.calls (a0 : ByteArray) (r1 : Int) (r2 : Int) (r3 : Int) (r4 : Int) (r5 : Int) (r6 : Int) (r7 : Int) (r8 : Int) (r9 : Int) (r10 : Bool) (w : World) (h : spec_l11Read.f a0 = some (r1, r2, r3, r4, r5, r6, r7, r8, r9, r10)) :
    Calls Tryd.prog 60 #[.string a0] w fun e w' => e = .returned (.tuple #[.agg #[.int .i64 r1, .int .i64 r2, .int .i64 r3, .int .i64 r4, .int .i64 r5, .int .i64 r6, .int .i64 r7, .int .i64 r8, .int .i64 r9], .bool r10]) ∧ Below w.heap.size w w' := by
  unfold spec_l11Read.f at h
  split at h
  · rename_i hs
    have h2 := Option.some.inj h
    have hl : a0.data.toList.length ≤ 4294967296 := by rw [Array.length_toList]; exact hs
    have := Ht.l11Read_any a0.data.toList hl w
    rw [show PuD.txt a0.data.toList = a0 from by simp [PuD.txt]] at this
    revert this h2
    generalize Ht.readS a0.data.toList = x
    obtain ⟨⟨x1, x2, x3, x4, x5, x6, x7, x8, x9⟩, b⟩ := x
    intro h2 this
    simp only [Ht.flat, Prod.mk.injEq] at h2
    obtain ⟨rfl, rfl, rfl, rfl, rfl, rfl, rfl, rfl, rfl, rfl⟩ := h2
    exact this
  · cases h

end Go.Proofs.YtahmgalkliicfaaDoor.Q

-- made by a patched copy of print.sh: this session's own
namespace Go.Proofs.YtahmgalkliicfaaDoor.Q
open Go.RowKit Go.Proofs.YtahmgalkliicfaaDoorW.PrintWords Go.Proofs.YtahmgalkliicfaaDoorW.PrintLast Go.Proofs.YtahmgalkliicfaaDoorW.PrintMore
attribute [local go_sem] max2_int min2_int max_two min_two max_three min_three max_four min_four   -- for this text's walks alone
set_option linter.unusedVariables false
set_option linter.unusedSimpArgs false

/-! ### spec_ReadDeed: function 27 -/
def spec_ReadDeed.f (a0 : ByteArray) : Option (Int × Int × Int × Int × Int × Int × Int × Int × Int × Bool) := (spec_l11Read.f a0).bind fun bt499 => (some (bt499.1, bt499.2.1, bt499.2.2.1, bt499.2.2.2.1, bt499.2.2.2.2.1, bt499.2.2.2.2.2.1, bt499.2.2.2.2.2.2.1, bt499.2.2.2.2.2.2.2.1, bt499.2.2.2.2.2.2.2.2.1, bt499.2.2.2.2.2.2.2.2.2))
set_option maxHeartbeats 8000000 in
set_option maxRecDepth 100000 in
theorem spec_ReadDeed.calls (a0 : ByteArray) (r1 : Int) (r2 : Int) (r3 : Int) (r4 : Int) (r5 : Int) (r6 : Int) (r7 : Int) (r8 : Int) (r9 : Int) (r10 : Bool) (w : World) (h : spec_ReadDeed.f a0 = some (r1, r2, r3, r4, r5, r6, r7, r8, r9, r10)) :
    Calls Tryd.prog 27 #[.string a0] w fun e w' => e = .returned (.tuple #[.agg #[.int .i64 r1, .int .i64 r2, .int .i64 r3, .int .i64 r4, .int .i64 r5, .int .i64 r6, .int .i64 r7, .int .i64 r8, .int .i64 r9], .bool r10]) ∧ Below w.heap.size w w' := by
  have hu41 := Tryd.underlying41
  have HB := Aside0.mk (Below.refl w.heap.size w)
  have H : ((spec_l11Read.f a0).bind fun bt499 => (some (bt499.1, bt499.2.1, bt499.2.2.1, bt499.2.2.2.1, bt499.2.2.2.2.1, bt499.2.2.2.2.2.1, bt499.2.2.2.2.2.2.1, bt499.2.2.2.2.2.2.2.1, bt499.2.2.2.2.2.2.2.2.1, bt499.2.2.2.2.2.2.2.2.2))) = some (r1, r2, r3, r4, r5, r6, r7, r8, r9, r10) := h
  clear h
  replace H := Option.bind_eq_some_iff.mp H
  obtain ⟨⟨t499, t500, t501, t502, t503, t504, t505, t506, t507, t508⟩, A20, H⟩ := H
  replace H : (some (t499, t500, t501, t502, t503, t504, t505, t506, t507, t508)) = some (r1, r2, r3, r4, r5, r6, r7, r8, r9, r10) := H
  have A2 := Aside0.mk A20
  clear A20
  simp only [Option.some.injEq, Prod.mk.injEq] at H
  obtain ⟨rfl, rfl, rfl, rfl, rfl, rfl, rfl, rfl, rfl, rfl⟩ := H
  go_enter Tryd.func27, Tryd.ntmps27
  go_wp2_with (first | ((with_reducible refine gate_dst (N := 2) rfl ?_); refine box_event ?hg (N := 2) ?hd (cs := #[.int .i64 0, .int .i64 0, .int .i64 0, .int .i64 0, .int .i64 0, .int .i64 0, .int .i64 0, .int .i64 0, .int .i64 0]) (t := 41) ?hr ?_; (case hd => rfl); (case hg => rfl); (case hr => first | (go_simp; done) | (go_simp; rfl)); intro gb498 hg w3 hbox hb; have n0_ := Aside0.mk (below_step (by repeat (first | (with_reducible first | exact HB.out | apply below_alloc | apply pw_below_drewN | apply below_drew1) | exact HB.out)) hb); have n1_ := Aside0.mk (hbox); have n2_ := Aside0.mk ((by rw [hg]; exact (below_size (by repeat (first | (with_reducible first | exact HB.out | apply below_alloc | apply pw_below_drewN | apply below_drew1) | exact HB.out))) : w.heap.size ≤ gb498)); have n3_ := Aside0.mk ((by rw [hg]; exact (below_size (by repeat (first | (with_reducible first | exact HB.out | apply below_alloc | apply pw_below_drewN | apply below_drew1) | exact HB.out))) : w.heap.size ≤ gb498)); clear HB; have HB := n0_; have BK498 := n1_; have GW498 := n2_; have GE498 := n3_; clear n0_ n1_ n2_ n3_; clear hb hbox hg) | ((with_reducible refine gate_callee (f := 60) rfl ?_); refine goesL_ (some 5) rfl rfl Tryd.func60 (by kernel_rfl) rfl #[.string a0] rfl (by (try simp only [List.map_toArray, List.map_cons, List.map_nil]); first | done | rfl | (simp only [List.length_drop, List.length_take]; rfl)) ?_; (with_reducible refine (spec_l11Read.calls a0 t499 t500 t501 t502 t503 t504 t505 t506 t507 t508 _ A2.out).mono ?_); rintro e w4 ⟨rfl, hb⟩; refine ⟨_, rfl, ?_⟩; have n0_ := Aside0.mk (blk_below (g := gb498) (o := .cells #[.int .i64 0, .int .i64 0, .int .i64 0, .int .i64 0, .int .i64 0, .int .i64 0, .int .i64 0, .int .i64 0, .int .i64 0] 41 (0, 0)) (by (with_reducible repeat (first | refine blk_drewN ?_ _ | refine blk_drew ?_ | refine blk_alloc ?_ _)); exact BK498.out) hb); have n1_ := Aside0.mk (below_step (by repeat (first | (with_reducible first | exact HB.out | apply below_alloc | apply pw_below_drewN | apply below_drew1 | refine below_set ?_ GE498.out) | exact HB.out)) hb); clear BK498; clear HB; have BK498 := n0_; have HB := n1_; clear n0_ n1_; (try clear hb); (try clear hb2); (try clear hk); (try clear hi); have hcz5_0 : w4.cell? ⟨gb498, 0, none⟩ = some (.int .i64 0) := (blk_cell BK498.out 0).trans rfl; have hcz5_1 : w4.cell? ⟨gb498, 1, none⟩ = some (.int .i64 0) := (blk_cell BK498.out 1).trans rfl; have hcz5_2 : w4.cell? ⟨gb498, 2, none⟩ = some (.int .i64 0) := (blk_cell BK498.out 2).trans rfl; have hcz5_3 : w4.cell? ⟨gb498, 3, none⟩ = some (.int .i64 0) := (blk_cell BK498.out 3).trans rfl; have hcz5_4 : w4.cell? ⟨gb498, 4, none⟩ = some (.int .i64 0) := (blk_cell BK498.out 4).trans rfl; have hcz5_5 : w4.cell? ⟨gb498, 5, none⟩ = some (.int .i64 0) := (blk_cell BK498.out 5).trans rfl; have hcz5_6 : w4.cell? ⟨gb498, 6, none⟩ = some (.int .i64 0) := (blk_cell BK498.out 6).trans rfl; have hcz5_7 : w4.cell? ⟨gb498, 7, none⟩ = some (.int .i64 0) := (blk_cell BK498.out 7).trans rfl; have hcz5_8 : w4.cell? ⟨gb498, 8, none⟩ = some (.int .i64 0) := (blk_cell BK498.out 8).trans rfl; have hfz5_0 := blk_frozen BK498.out 0; have hfz5_1 := blk_frozen BK498.out 1; have hfz5_2 := blk_frozen BK498.out 2; have hfz5_3 := blk_frozen BK498.out 3; have hfz5_4 := blk_frozen BK498.out 4; have hfz5_5 := blk_frozen BK498.out 5; have hfz5_6 := blk_frozen BK498.out 6; have hfz5_7 := blk_frozen BK498.out 7; have hfz5_8 := blk_frozen BK498.out 8))
  refine bodyPost_ret (results_ct rfl _ _ gb498 41 #[.int .i64 t499, .int .i64 t500, .int .i64 t501, .int .i64 t502, .int .i64 t503, .int .i64 t504, .int .i64 t505, .int .i64 t506, .int .i64 t507] (0, 0) _ rfl (by (with_reducible repeat (first | refine blk_drewN ?_ _ | refine blk_drew ?_ | refine blk_alloc ?_ _)); refine blk_put (cs := #[.int .i64 t499, .int .i64 t500, .int .i64 t501, .int .i64 t502, .int .i64 t503, .int .i64 t504, .int .i64 t505, .int .i64 t506, .int .i64 0]) ?_ 8 _ rfl; (with_reducible repeat (first | refine blk_drewN ?_ _ | refine blk_drew ?_ | refine blk_alloc ?_ _)); refine blk_put (cs := #[.int .i64 t499, .int .i64 t500, .int .i64 t501, .int .i64 t502, .int .i64 t503, .int .i64 t504, .int .i64 t505, .int .i64 0, .int .i64 0]) ?_ 7 _ rfl; (with_reducible repeat (first | refine blk_drewN ?_ _ | refine blk_drew ?_ | refine blk_alloc ?_ _)); refine blk_put (cs := #[.int .i64 t499, .int .i64 t500, .int .i64 t501, .int .i64 t502, .int .i64 t503, .int .i64 t504, .int .i64 0, .int .i64 0, .int .i64 0]) ?_ 6 _ rfl; (with_reducible repeat (first | refine blk_drewN ?_ _ | refine blk_drew ?_ | refine blk_alloc ?_ _)); refine blk_put (cs := #[.int .i64 t499, .int .i64 t500, .int .i64 t501, .int .i64 t502, .int .i64 t503, .int .i64 0, .int .i64 0, .int .i64 0, .int .i64 0]) ?_ 5 _ rfl; (with_reducible repeat (first | refine blk_drewN ?_ _ | refine blk_drew ?_ | refine blk_alloc ?_ _)); refine blk_put (cs := #[.int .i64 t499, .int .i64 t500, .int .i64 t501, .int .i64 t502, .int .i64 0, .int .i64 0, .int .i64 0, .int .i64 0, .int .i64 0]) ?_ 4 _ rfl; (with_reducible repeat (first | refine blk_drewN ?_ _ | refine blk_drew ?_ | refine blk_alloc ?_ _)); refine blk_put (cs := #[.int .i64 t499, .int .i64 t500, .int .i64 t501, .int .i64 0, .int .i64 0, .int .i64 0, .int .i64 0, .int .i64 0, .int .i64 0]) ?_ 3 _ rfl; (with_reducible repeat (first | refine blk_drewN ?_ _ | refine blk_drew ?_ | refine blk_alloc ?_ _)); refine blk_put (cs := #[.int .i64 t499, .int .i64 t500, .int .i64 0, .int .i64 0, .int .i64 0, .int .i64 0, .int .i64 0, .int .i64 0, .int .i64 0]) ?_ 2 _ rfl; (with_reducible repeat (first | refine blk_drewN ?_ _ | refine blk_drew ?_ | refine blk_alloc ?_ _)); refine blk_put (cs := #[.int .i64 t499, .int .i64 0, .int .i64 0, .int .i64 0, .int .i64 0, .int .i64 0, .int .i64 0, .int .i64 0, .int .i64 0]) ?_ 1 _ rfl; (with_reducible repeat (first | refine blk_drewN ?_ _ | refine blk_drew ?_ | refine blk_alloc ?_ _)); refine blk_put (cs := #[.int .i64 0, .int .i64 0, .int .i64 0, .int .i64 0, .int .i64 0, .int .i64 0, .int .i64 0, .int .i64 0, .int .i64 0]) ?_ 0 _ rfl; (with_reducible repeat (first | refine blk_drewN ?_ _ | refine blk_drew ?_ | refine blk_alloc ?_ _)); exact BK498.out) Tryd.underlying41 rfl (by kernel_rfl)) rfl ?_
  exact ⟨by first | rfl | (simp [errW_none, errW_some] <;> rfl) | (simp [*, errW_none, errW_some] <;> rfl), by repeat (first | (with_reducible first | exact HB.out | apply below_alloc | apply pw_below_drewN | apply below_drew1 | refine below_set ?_ GE498.out) | exact HB.out)⟩

end Go.Proofs.YtahmgalkliicfaaDoor.Q

-- made by a patched copy of print.sh: this session's own
namespace Go.Proofs.YtahmgalkliicfaaDoor.Q
open Go.RowKit Go.Proofs.YtahmgalkliicfaaDoorW.PrintWords Go.Proofs.YtahmgalkliicfaaDoorW.PrintLast Go.Proofs.YtahmgalkliicfaaDoorW.PrintMore
attribute [local go_sem] max2_int min2_int max_two min_two max_three min_three max_four min_four   -- for this text's walks alone
set_option linter.unusedVariables false
set_option linter.unusedSimpArgs false

/-! ### impl_readDeed: function 61 -/
def impl_readDeed.f (a0 : ByteArray) : Option (Int × Int × Int × Int × Int × Int × Int × Int × Int × Bool) := if a0.size ≤ 1048576 then (Ht.readI a0.data.toList).map Ht.flat else none
theorem impl_readDeed.calls (a0 : ByteArray) (r1 : Int) (r2 : Int) (r3 : Int) (r4 : Int) (r5 : Int) (r6 : Int) (r7 : Int) (r8 : Int) (r9 : Int) (r10 : Bool) (w : World) (hT : Tb.TC w) (h : impl_readDeed.f a0 = some (r1, r2, r3, r4, r5, r6, r7, r8, r9, r10)) :
    Calls Tryd.prog 61 #[.string a0] w fun e w' => e = .returned (.tuple #[.agg #[.int .i64 r1, .int .i64 r2, .int .i64 r3, .int .i64 r4, .int .i64 r5, .int .i64 r6, .int .i64 r7, .int .i64 r8, .int .i64 r9], .bool r10]) ∧ Below w.heap.size w w' := by
  unfold impl_readDeed.f at h
  split at h
  · rename_i hs
    have hl : a0.data.toList.length ≤ 1048576 := by rw [Array.length_toList]; exact hs
    cases hr : Ht.readI a0.data.toList with
    | none => rw [hr] at h; cases h
    | some x =>
      rw [hr] at h
      have h2 := Option.some.inj h
      have := Ht.readDeed_any a0.data.toList hl x hr w hT
      rw [show PuD.txt a0.data.toList = a0 from by simp [PuD.txt]] at this
      obtain ⟨⟨x1, x2, x3, x4, x5, x6, x7, x8, x9⟩, b⟩ := x
      simp only [Ht.flat, Prod.mk.injEq] at h2
      obtain ⟨rfl, rfl, rfl, rfl, rfl, rfl, rfl, rfl, rfl, rfl⟩ := h2
      exact this
  · cases h

end Go.Proofs.YtahmgalkliicfaaDoor.Q

-- made by a patched copy of print.sh: this session's own
namespace Go.Proofs.YtahmgalkliicfaaDoor.Q
open Go.RowKit Go.Proofs.YtahmgalkliicfaaDoorW.PrintWords Go.Proofs.YtahmgalkliicfaaDoorW.PrintLast Go.Proofs.YtahmgalkliicfaaDoorW.PrintMore
attribute [local go_sem] max2_int min2_int max_two min_two max_three min_three max_four min_four   -- for this text's walks alone
set_option linter.unusedVariables false
set_option linter.unusedSimpArgs false

/-! ### impl_ReadDeed: function 28 -/
def impl_ReadDeed.f (a0 : ByteArray) : Option (Int × Int × Int × Int × Int × Int × Int × Int × Int × Bool) := (impl_readDeed.f a0).bind fun bt528 => (some (bt528.1, bt528.2.1, bt528.2.2.1, bt528.2.2.2.1, bt528.2.2.2.2.1, bt528.2.2.2.2.2.1, bt528.2.2.2.2.2.2.1, bt528.2.2.2.2.2.2.2.1, bt528.2.2.2.2.2.2.2.2.1, bt528.2.2.2.2.2.2.2.2.2))
set_option maxHeartbeats 8000000 in
set_option maxRecDepth 100000 in
theorem impl_ReadDeed.calls (a0 : ByteArray) (r1 : Int) (r2 : Int) (r3 : Int) (r4 : Int) (r5 : Int) (r6 : Int) (r7 : Int) (r8 : Int) (r9 : Int) (r10 : Bool) (w : World) (hT : Tb.TC w) (h : impl_ReadDeed.f a0 = some (r1, r2, r3, r4, r5, r6, r7, r8, r9, r10)) :
    Calls Tryd.prog 28 #[.string a0] w fun e w' => e = .returned (.tuple #[.agg #[.int .i64 r1, .int .i64 r2, .int .i64 r3, .int .i64 r4, .int .i64 r5, .int .i64 r6, .int .i64 r7, .int .i64 r8, .int .i64 r9], .bool r10]) ∧ Below w.heap.size w w' := by
  have HT := Aside0.mk hT
  clear hT
  have hu41 := Tryd.underlying41
  have HB := Aside0.mk (Below.refl w.heap.size w)
  have H : ((impl_readDeed.f a0).bind fun bt528 => (some (bt528.1, bt528.2.1, bt528.2.2.1, bt528.2.2.2.1, bt528.2.2.2.2.1, bt528.2.2.2.2.2.1, bt528.2.2.2.2.2.2.1, bt528.2.2.2.2.2.2.2.1, bt528.2.2.2.2.2.2.2.2.1, bt528.2.2.2.2.2.2.2.2.2))) = some (r1, r2, r3, r4, r5, r6, r7, r8, r9, r10) := h
  clear h
  replace H := Option.bind_eq_some_iff.mp H
  obtain ⟨⟨t528, t529, t530, t531, t532, t533, t534, t535, t536, t537⟩, A20, H⟩ := H
  replace H : (some (t528, t529, t530, t531, t532, t533, t534, t535, t536, t537)) = some (r1, r2, r3, r4, r5, r6, r7, r8, r9, r10) := H
  have A2 := Aside0.mk A20
  clear A20
  simp only [Option.some.injEq, Prod.mk.injEq] at H
  obtain ⟨rfl, rfl, rfl, rfl, rfl, rfl, rfl, rfl, rfl, rfl⟩ := H
  go_enter Tryd.func28, Tryd.ntmps28
  go_wp2_with (first | ((with_reducible refine gate_dst (N := 2) rfl ?_); refine box_event ?hg (N := 2) ?hd (cs := #[.int .i64 0, .int .i64 0, .int .i64 0, .int .i64 0, .int .i64 0, .int .i64 0, .int .i64 0, .int .i64 0, .int .i64 0]) (t := 41) ?hr ?_; (case hd => rfl); (case hg => rfl); (case hr => first | (go_simp; done) | (go_simp; rfl)); intro gb527 hg w3 hbox hb; have n0_ := Aside0.mk (below_step (by repeat (first | (with_reducible first | exact HB.out | apply below_alloc | apply pw_below_drewN | apply below_drew1) | exact HB.out)) hb); have n1_ := Aside0.mk (hbox); have n2_ := Aside0.mk ((by rw [hg]; exact (below_size (by repeat (first | (with_reducible first | exact HB.out | apply below_alloc | apply pw_below_drewN | apply below_drew1) | exact HB.out))) : w.heap.size ≤ gb527)); have n3_ := Aside0.mk ((by rw [hg]; exact (below_size (by repeat (first | (with_reducible first | exact HB.out | apply below_alloc | apply pw_below_drewN | apply below_drew1) | exact HB.out))) : w.heap.size ≤ gb527)); clear HB; have HB := n0_; have BK527 := n1_; have GW527 := n2_; have GE527 := n3_; clear n0_ n1_ n2_ n3_; clear hb hbox hg) | ((with_reducible refine gate_callee (f := 61) rfl ?_); refine goesL_ (some 5) rfl rfl Tryd.func61 (by kernel_rfl) rfl #[.string a0] rfl (by (try simp only [List.map_toArray, List.map_cons, List.map_nil]); first | done | rfl | (simp only [List.length_drop, List.length_take]; rfl)) ?_; (with_reducible refine (impl_readDeed.calls a0 t528 t529 t530 t531 t532 t533 t534 t535 t536 t537 _ ?side1 A2.out).mono ?_); (case side1 => first | exact HT.out | exact Tb.TC.below HT.out (by repeat (first | (with_reducible first | exact HB.out | apply below_alloc | apply pw_below_drewN | apply below_drew1 | refine below_set ?_ GE527.out) | exact HB.out))); rintro e w4 ⟨rfl, hb⟩; refine ⟨_, rfl, ?_⟩; have n0_ := Aside0.mk (blk_below (g := gb527) (o := .cells #[.int .i64 0, .int .i64 0, .int .i64 0, .int .i64 0, .int .i64 0, .int .i64 0, .int .i64 0, .int .i64 0, .int .i64 0] 41 (0, 0)) (by (with_reducible repeat (first | refine blk_drewN ?_ _ | refine blk_drew ?_ | refine blk_alloc ?_ _)); exact BK527.out) hb); have n1_ := Aside0.mk (below_step (by repeat (first | (with_reducible first | exact HB.out | apply below_alloc | apply pw_below_drewN | apply below_drew1 | refine below_set ?_ GE527.out) | exact HB.out)) hb); clear BK527; clear HB; have BK527 := n0_; have HB := n1_; clear n0_ n1_; (try clear hb); (try clear hb2); (try clear hk); (try clear hi); have hcz5_0 : w4.cell? ⟨gb527, 0, none⟩ = some (.int .i64 0) := (blk_cell BK527.out 0).trans rfl; have hcz5_1 : w4.cell? ⟨gb527, 1, none⟩ = some (.int .i64 0) := (blk_cell BK527.out 1).trans rfl; have hcz5_2 : w4.cell? ⟨gb527, 2, none⟩ = some (.int .i64 0) := (blk_cell BK527.out 2).trans rfl; have hcz5_3 : w4.cell? ⟨gb527, 3, none⟩ = some (.int .i64 0) := (blk_cell BK527.out 3).trans rfl; have hcz5_4 : w4.cell? ⟨gb527, 4, none⟩ = some (.int .i64 0) := (blk_cell BK527.out 4).trans rfl; have hcz5_5 : w4.cell? ⟨gb527, 5, none⟩ = some (.int .i64 0) := (blk_cell BK527.out 5).trans rfl; have hcz5_6 : w4.cell? ⟨gb527, 6, none⟩ = some (.int .i64 0) := (blk_cell BK527.out 6).trans rfl; have hcz5_7 : w4.cell? ⟨gb527, 7, none⟩ = some (.int .i64 0) := (blk_cell BK527.out 7).trans rfl; have hcz5_8 : w4.cell? ⟨gb527, 8, none⟩ = some (.int .i64 0) := (blk_cell BK527.out 8).trans rfl; have hfz5_0 := blk_frozen BK527.out 0; have hfz5_1 := blk_frozen BK527.out 1; have hfz5_2 := blk_frozen BK527.out 2; have hfz5_3 := blk_frozen BK527.out 3; have hfz5_4 := blk_frozen BK527.out 4; have hfz5_5 := blk_frozen BK527.out 5; have hfz5_6 := blk_frozen BK527.out 6; have hfz5_7 := blk_frozen BK527.out 7; have hfz5_8 := blk_frozen BK527.out 8))
  refine bodyPost_ret (results_ct rfl _ _ gb527 41 #[.int .i64 t528, .int .i64 t529, .int .i64 t530, .int .i64 t531, .int .i64 t532, .int .i64 t533, .int .i64 t534, .int .i64 t535, .int .i64 t536] (0, 0) _ rfl (by (with_reducible repeat (first | refine blk_drewN ?_ _ | refine blk_drew ?_ | refine blk_alloc ?_ _)); refine blk_put (cs := #[.int .i64 t528, .int .i64 t529, .int .i64 t530, .int .i64 t531, .int .i64 t532, .int .i64 t533, .int .i64 t534, .int .i64 t535, .int .i64 0]) ?_ 8 _ rfl; (with_reducible repeat (first | refine blk_drewN ?_ _ | refine blk_drew ?_ | refine blk_alloc ?_ _)); refine blk_put (cs := #[.int .i64 t528, .int .i64 t529, .int .i64 t530, .int .i64 t531, .int .i64 t532, .int .i64 t533, .int .i64 t534, .int .i64 0, .int .i64 0]) ?_ 7 _ rfl; (with_reducible repeat (first | refine blk_drewN ?_ _ | refine blk_drew ?_ | refine blk_alloc ?_ _)); refine blk_put (cs := #[.int .i64 t528, .int .i64 t529, .int .i64 t530, .int .i64 t531, .int .i64 t532, .int .i64 t533, .int .i64 0, .int .i64 0, .int .i64 0]) ?_ 6 _ rfl; (with_reducible repeat (first | refine blk_drewN ?_ _ | refine blk_drew ?_ | refine blk_alloc ?_ _)); refine blk_put (cs := #[.int .i64 t528, .int .i64 t529, .int .i64 t530, .int .i64 t531, .int .i64 t532, .int .i64 0, .int .i64 0, .int .i64 0, .int .i64 0]) ?_ 5 _ rfl; (with_reducible repeat (first | refine blk_drewN ?_ _ | refine blk_drew ?_ | refine blk_alloc ?_ _)); refine blk_put (cs := #[.int .i64 t528, .int .i64 t529, .int .i64 t530, .int .i64 t531, .int .i64 0, .int .i64 0, .int .i64 0, .int .i64 0, .int .i64 0]) ?_ 4 _ rfl; (with_reducible repeat (first | refine blk_drewN ?_ _ | refine blk_drew ?_ | refine blk_alloc ?_ _)); refine blk_put (cs := #[.int .i64 t528, .int .i64 t529, .int .i64 t530, .int .i64 0, .int .i64 0, .int .i64 0, .int .i64 0, .int .i64 0, .int .i64 0]) ?_ 3 _ rfl; (with_reducible repeat (first | refine blk_drewN ?_ _ | refine blk_drew ?_ | refine blk_alloc ?_ _)); refine blk_put (cs := #[.int .i64 t528, .int .i64 t529, .int .i64 0, .int .i64 0, .int .i64 0, .int .i64 0, .int .i64 0, .int .i64 0, .int .i64 0]) ?_ 2 _ rfl; (with_reducible repeat (first | refine blk_drewN ?_ _ | refine blk_drew ?_ | refine blk_alloc ?_ _)); refine blk_put (cs := #[.int .i64 t528, .int .i64 0, .int .i64 0, .int .i64 0, .int .i64 0, .int .i64 0, .int .i64 0, .int .i64 0, .int .i64 0]) ?_ 1 _ rfl; (with_reducible repeat (first | refine blk_drewN ?_ _ | refine blk_drew ?_ | refine blk_alloc ?_ _)); refine blk_put (cs := #[.int .i64 0, .int .i64 0, .int .i64 0, .int .i64 0, .int .i64 0, .int .i64 0, .int .i64 0, .int .i64 0, .int .i64 0]) ?_ 0 _ rfl; (with_reducible repeat (first | refine blk_drewN ?_ _ | refine blk_drew ?_ | refine blk_alloc ?_ _)); exact BK527.out) Tryd.underlying41 rfl (by kernel_rfl)) rfl ?_
  exact ⟨by first | rfl | (simp [errW_none, errW_some] <;> rfl) | (simp [*, errW_none, errW_some] <;> rfl), by repeat (first | (with_reducible first | exact HB.out | apply below_alloc | apply pw_below_drewN | apply below_drew1 | refine below_set ?_ GE527.out) | exact HB.out)⟩

end Go.Proofs.YtahmgalkliicfaaDoor.Q

-- made by a patched copy of print.sh: this session's own
namespace Go.Proofs.YtahmgalkliicfaaDoor.Q
open Go.RowKit Go.Proofs.YtahmgalkliicfaaDoorW.PrintWords Go.Proofs.YtahmgalkliicfaaDoorW.PrintLast Go.Proofs.YtahmgalkliicfaaDoorW.PrintMore
attribute [local go_sem] max2_int min2_int max_two min_two max_three min_three max_four min_four   -- for this text's walks alone
set_option linter.unusedVariables false
set_option linter.unusedSimpArgs false

/-! ### laws_eqRing: function 62 -/
def laws_eqRing.f (a0_0 : Int) (a0_1 : Int) (a1_0 : Int) (a1_1 : Int) : Option (Bool) := if a0_0 = a1_0 then (if a0_1 = a1_1 then (some true) else (some false)) else (some false)
set_option maxHeartbeats 8000000 in
set_option maxRecDepth 100000 in
theorem laws_eqRing.calls (a0_0 : Int) (a0_1 : Int) (a1_0 : Int) (a1_1 : Int) (r : Bool) (w : World) (h : laws_eqRing.f a0_0 a0_1 a1_0 a1_1 = some r) :
    Calls Tryd.prog 62 #[.agg #[.int .i64 a0_0, .int .i64 a0_1], .agg #[.int .i64 a1_0, .int .i64 a1_1]] w fun e w' => e = .returned (.bool r) ∧ Below w.heap.size w w' := by
  have hu39 := Tryd.underlying39
  have HB := Aside0.mk (Below.refl w.heap.size w)
  have H : (if a0_0 = a1_0 then (if a0_1 = a1_1 then (some true) else (some false)) else (some false)) = some r := h
  clear h
  by_cases c3 : a0_0 = a1_0
  · rw [if_pos c3] at H
    have c3b0 : (a0_0 == a1_0) = true := beq_iff_eq.mpr c3
    have c3b1 : (a0_0 != a1_0) = false := bne_eq_false_iff_eq.mpr c3
    clear c3
    by_cases c4 : a0_1 = a1_1
    · rw [if_pos c4] at H
      have c4b0 : (a0_1 == a1_1) = true := beq_iff_eq.mpr c4
      have c4b1 : (a0_1 != a1_1) = false := bne_eq_false_iff_eq.mpr c4
      clear c4
      obtain rfl := Option.some.inj H
      go_enter Tryd.func62, Tryd.ntmps62
      go_wp2_with (first | ((with_reducible refine gate_dst (N := 2) rfl ?_); refine box_event ?hg (N := 2) ?hd (cs := #[.int .i64 a0_0, .int .i64 a0_1]) (t := 39) ?hr ?_; (case hd => rfl); (case hg => rfl); (case hr => first | (go_simp; done) | (go_simp; rfl)); intro gb345 hg w5 hbox hb; have n0_ := Aside0.mk (below_step (by repeat (first | (with_reducible first | exact HB.out | apply below_alloc | apply pw_below_drewN | apply below_drew1) | exact HB.out)) hb); have n1_ := Aside0.mk (hbox); have n2_ := Aside0.mk ((by rw [hg]; exact (below_size (by repeat (first | (with_reducible first | exact HB.out | apply below_alloc | apply pw_below_drewN | apply below_drew1) | exact HB.out))) : w.heap.size ≤ gb345)); have n3_ := Aside0.mk ((by rw [hg]; exact (below_size (by repeat (first | (with_reducible first | exact HB.out | apply below_alloc | apply pw_below_drewN | apply below_drew1) | exact HB.out))) : w.heap.size ≤ gb345)); clear HB; have HB := n0_; have BK345 := n1_; have GW345 := n2_; have GE345 := n3_; clear n0_ n1_ n2_ n3_; clear hb hbox hg) | ((with_reducible refine gate_dst (N := 3) rfl ?_); refine box_event ?hg (N := 3) ?hd (cs := #[.int .i64 a1_0, .int .i64 a1_1]) (t := 39) ?hr ?_; (case hd => rfl); (case hg => rfl); (case hr => first | (go_simp; done) | (go_simp; rfl)); intro gb346 hg w6 hbox hb; have n0_ := Aside0.mk (blk_below (g := gb345) (o := .cells #[.int .i64 a0_0, .int .i64 a0_1] 39 (0, 0)) (by (with_reducible repeat (first | refine blk_drewN ?_ _ | refine blk_drew ?_ | refine blk_alloc ?_ _)); exact BK345.out) hb); have n1_ := Aside0.mk (below_step (by repeat (first | (with_reducible first | exact HB.out | apply below_alloc | apply pw_below_drewN | apply below_drew1 | refine below_set ?_ GE345.out) | exact HB.out)) hb); have n2_ := Aside0.mk (hbox); have n3_ := Aside0.mk ((by rw [hg]; exact (below_size (by repeat (first | (with_reducible first | exact HB.out | apply below_alloc | apply pw_below_drewN | apply below_drew1 | refine below_set ?_ GE345.out) | exact HB.out))) : w.heap.size ≤ gb346)); have n4_ := Aside0.mk ((by rw [hg]; exact (below_size (by repeat (first | (with_reducible first | exact HB.out | apply below_alloc | apply pw_below_drewN | apply below_drew1 | refine below_set ?_ GE345.out) | exact HB.out))) : w.heap.size ≤ gb346)); have n5_ := Aside0.mk ((by rw [hg]; exact Nat.ne_of_lt (blk_lt (g := gb345) (o := .cells #[.int .i64 a0_0, .int .i64 a0_1] 39 (0, 0)) (by (with_reducible repeat (first | refine blk_drewN ?_ _ | refine blk_drew ?_ | refine blk_alloc ?_ _)); exact BK345.out)) : gb345 ≠ gb346)); have n6_ := Aside0.mk ((by rw [hg]; exact Nat.ne_of_gt (blk_lt (g := gb345) (o := .cells #[.int .i64 a0_0, .int .i64 a0_1] 39 (0, 0)) (by (with_reducible repeat (first | refine blk_drewN ?_ _ | refine blk_drew ?_ | refine blk_alloc ?_ _)); exact BK345.out)) : gb346 ≠ gb345)); clear BK345; clear HB; have BK345 := n0_; have HB := n1_; have BK346 := n2_; have GW346 := n3_; have GE346 := n4_; have NB345_346 := n5_; have NB346_345 := n6_; clear n0_ n1_ n2_ n3_ n4_ n5_ n6_; clear hb hbox hg; have hnb7 := NB345_346.out; have hnc7 := NB346_345.out; have hcz8_0 : w6.cell? ⟨gb345, 0, none⟩ = some (.int .i64 a0_0) := (blk_cell BK345.out 0).trans rfl; have hcz8_1 : w6.cell? ⟨gb345, 1, none⟩ = some (.int .i64 a0_1) := (blk_cell BK345.out 1).trans rfl; have hfz8_0 := blk_frozen BK345.out 0; have hfz8_1 := blk_frozen BK345.out 1; have hcz9_0 : w6.cell? ⟨gb346, 0, none⟩ = some (.int .i64 a1_0) := (blk_cell BK346.out 0).trans rfl; have hcz9_1 : w6.cell? ⟨gb346, 1, none⟩ = some (.int .i64 a1_1) := (blk_cell BK346.out 1).trans rfl; have hfz9_0 := blk_frozen BK346.out 0; have hfz9_1 := blk_frozen BK346.out 1))
      go_ret
      exact ⟨by first | rfl | (simp [errW_none, errW_some] <;> rfl) | (simp [*, errW_none, errW_some] <;> rfl), by repeat (first | (with_reducible first | exact HB.out | apply below_alloc | apply pw_below_drewN | apply below_drew1 | refine below_set ?_ GE345.out | refine below_set ?_ GE346.out) | exact HB.out)⟩
    · rw [if_neg c4] at H
      have c4b0 : (a0_1 == a1_1) = false := beq_eq_false_iff_ne.mpr c4
      have c4b1 : (a0_1 != a1_1) = true := bne_iff_ne.mpr c4
      obtain rfl := Option.some.inj H
      go_enter Tryd.func62, Tryd.ntmps62
      go_wp2_with (first | ((with_reducible refine gate_dst (N := 2) rfl ?_); refine box_event ?hg (N := 2) ?hd (cs := #[.int .i64 a0_0, .int .i64 a0_1]) (t := 39) ?hr ?_; (case hd => rfl); (case hg => rfl); (case hr => first | (go_simp; done) | (go_simp; rfl)); intro gb345 hg w10 hbox hb; have n0_ := Aside0.mk (below_step (by repeat (first | (with_reducible first | exact HB.out | apply below_alloc | apply pw_below_drewN | apply below_drew1) | exact HB.out)) hb); have n1_ := Aside0.mk (hbox); have n2_ := Aside0.mk ((by rw [hg]; exact (below_size (by repeat (first | (with_reducible first | exact HB.out | apply below_alloc | apply pw_below_drewN | apply below_drew1) | exact HB.out))) : w.heap.size ≤ gb345)); have n3_ := Aside0.mk ((by rw [hg]; exact (below_size (by repeat (first | (with_reducible first | exact HB.out | apply below_alloc | apply pw_below_drewN | apply below_drew1) | exact HB.out))) : w.heap.size ≤ gb345)); clear HB; have HB := n0_; have BK345 := n1_; have GW345 := n2_; have GE345 := n3_; clear n0_ n1_ n2_ n3_; clear hb hbox hg) | ((with_reducible refine gate_dst (N := 3) rfl ?_); refine box_event ?hg (N := 3) ?hd (cs := #[.int .i64 a1_0, .int .i64 a1_1]) (t := 39) ?hr ?_; (case hd => rfl); (case hg => rfl); (case hr => first | (go_simp; done) | (go_simp; rfl)); intro gb346 hg w11 hbox hb; have n0_ := Aside0.mk (blk_below (g := gb345) (o := .cells #[.int .i64 a0_0, .int .i64 a0_1] 39 (0, 0)) (by (with_reducible repeat (first | refine blk_drewN ?_ _ | refine blk_drew ?_ | refine blk_alloc ?_ _)); exact BK345.out) hb); have n1_ := Aside0.mk (below_step (by repeat (first | (with_reducible first | exact HB.out | apply below_alloc | apply pw_below_drewN | apply below_drew1 | refine below_set ?_ GE345.out) | exact HB.out)) hb); have n2_ := Aside0.mk (hbox); have n3_ := Aside0.mk ((by rw [hg]; exact (below_size (by repeat (first | (with_reducible first | exact HB.out | apply below_alloc | apply pw_below_drewN | apply below_drew1 | refine below_set ?_ GE345.out) | exact HB.out))) : w.heap.size ≤ gb346)); have n4_ := Aside0.mk ((by rw [hg]; exact (below_size (by repeat (first | (with_reducible first | exact HB.out | apply below_alloc | apply pw_below_drewN | apply below_drew1 | refine below_set ?_ GE345.out) | exact HB.out))) : w.heap.size ≤ gb346)); have n5_ := Aside0.mk ((by rw [hg]; exact Nat.ne_of_lt (blk_lt (g := gb345) (o := .cells #[.int .i64 a0_0, .int .i64 a0_1] 39 (0, 0)) (by (with_reducible repeat (first | refine blk_drewN ?_ _ | refine blk_drew ?_ | refine blk_alloc ?_ _)); exact BK345.out)) : gb345 ≠ gb346)); have n6_ := Aside0.mk ((by rw [hg]; exact Nat.ne_of_gt (blk_lt (g := gb345) (o := .cells #[.int .i64 a0_0, .int .i64 a0_1] 39 (0, 0)) (by (with_reducible repeat (first | refine blk_drewN ?_ _ | refine blk_drew ?_ | refine blk_alloc ?_ _)); exact BK345.out)) : gb346 ≠ gb345)); clear BK345; clear HB; have BK345 := n0_; have HB := n1_; have BK346 := n2_; have GW346 := n3_; have GE346 := n4_; have NB345_346 := n5_; have NB346_345 := n6_; clear n0_ n1_ n2_ n3_ n4_ n5_ n6_; clear hb hbox hg; have hnb12 := NB345_346.out; have hnc12 := NB346_345.out; have hcz13_0 : w11.cell? ⟨gb345, 0, none⟩ = some (.int .i64 a0_0) := (blk_cell BK345.out 0).trans rfl; have hcz13_1 : w11.cell? ⟨gb345, 1, none⟩ = some (.int .i64 a0_1) := (blk_cell BK345.out 1).trans rfl; have hfz13_0 := blk_frozen BK345.out 0; have hfz13_1 := blk_frozen BK345.out 1; have hcz14_0 : w11.cell? ⟨gb346, 0, none⟩ = some (.int .i64 a1_0) := (blk_cell BK346.out 0).trans rfl; have hcz14_1 : w11.cell? ⟨gb346, 1, none⟩ = some (.int .i64 a1_1) := (blk_cell BK346.out 1).trans rfl; have hfz14_0 := blk_frozen BK346.out 0; have hfz14_1 := blk_frozen BK346.out 1))
      go_ret
      exact ⟨by first | rfl | (simp [errW_none, errW_some] <;> rfl) | (simp [*, errW_none, errW_some] <;> rfl), by repeat (first | (with_reducible first | exact HB.out | apply below_alloc | apply pw_below_drewN | apply below_drew1 | refine below_set ?_ GE345.out | refine below_set ?_ GE346.out) | exact HB.out)⟩
  · rw [if_neg c3] at H
    have c3b0 : (a0_0 == a1_0) = false := beq_eq_false_iff_ne.mpr c3
    have c3b1 : (a0_0 != a1_0) = true := bne_iff_ne.mpr c3
    obtain rfl := Option.some.inj H
    go_enter Tryd.func62, Tryd.ntmps62
    go_wp2_with (first | ((with_reducible refine gate_dst (N := 2) rfl ?_); refine box_event ?hg (N := 2) ?hd (cs := #[.int .i64 a0_0, .int .i64 a0_1]) (t := 39) ?hr ?_; (case hd => rfl); (case hg => rfl); (case hr => first | (go_simp; done) | (go_simp; rfl)); intro gb345 hg w15 hbox hb; have n0_ := Aside0.mk (below_step (by repeat (first | (with_reducible first | exact HB.out | apply below_alloc | apply pw_below_drewN | apply below_drew1) | exact HB.out)) hb); have n1_ := Aside0.mk (hbox); have n2_ := Aside0.mk ((by rw [hg]; exact (below_size (by repeat (first | (with_reducible first | exact HB.out | apply below_alloc | apply pw_below_drewN | apply below_drew1) | exact HB.out))) : w.heap.size ≤ gb345)); have n3_ := Aside0.mk ((by rw [hg]; exact (below_size (by repeat (first | (with_reducible first | exact HB.out | apply below_alloc | apply pw_below_drewN | apply below_drew1) | exact HB.out))) : w.heap.size ≤ gb345)); clear HB; have HB := n0_; have BK345 := n1_; have GW345 := n2_; have GE345 := n3_; clear n0_ n1_ n2_ n3_; clear hb hbox hg) | ((with_reducible refine gate_dst (N := 3) rfl ?_); refine box_event ?hg (N := 3) ?hd (cs := #[.int .i64 a1_0, .int .i64 a1_1]) (t := 39) ?hr ?_; (case hd => rfl); (case hg => rfl); (case hr => first | (go_simp; done) | (go_simp; rfl)); intro gb346 hg w16 hbox hb; have n0_ := Aside0.mk (blk_below (g := gb345) (o := .cells #[.int .i64 a0_0, .int .i64 a0_1] 39 (0, 0)) (by (with_reducible repeat (first | refine blk_drewN ?_ _ | refine blk_drew ?_ | refine blk_alloc ?_ _)); exact BK345.out) hb); have n1_ := Aside0.mk (below_step (by repeat (first | (with_reducible first | exact HB.out | apply below_alloc | apply pw_below_drewN | apply below_drew1 | refine below_set ?_ GE345.out) | exact HB.out)) hb); have n2_ := Aside0.mk (hbox); have n3_ := Aside0.mk ((by rw [hg]; exact (below_size (by repeat (first | (with_reducible first | exact HB.out | apply below_alloc | apply pw_below_drewN | apply below_drew1 | refine below_set ?_ GE345.out) | exact HB.out))) : w.heap.size ≤ gb346)); have n4_ := Aside0.mk ((by rw [hg]; exact (below_size (by repeat (first | (with_reducible first | exact HB.out | apply below_alloc | apply pw_below_drewN | apply below_drew1 | refine below_set ?_ GE345.out) | exact HB.out))) : w.heap.size ≤ gb346)); have n5_ := Aside0.mk ((by rw [hg]; exact Nat.ne_of_lt (blk_lt (g := gb345) (o := .cells #[.int .i64 a0_0, .int .i64 a0_1] 39 (0, 0)) (by (with_reducible repeat (first | refine blk_drewN ?_ _ | refine blk_drew ?_ | refine blk_alloc ?_ _)); exact BK345.out)) : gb345 ≠ gb346)); have n6_ := Aside0.mk ((by rw [hg]; exact Nat.ne_of_gt (blk_lt (g := gb345) (o := .cells #[.int .i64 a0_0, .int .i64 a0_1] 39 (0, 0)) (by (with_reducible repeat (first | refine blk_drewN ?_ _ | refine blk_drew ?_ | refine blk_alloc ?_ _)); exact BK345.out)) : gb346 ≠ gb345)); clear BK345; clear HB; have BK345 := n0_; have HB := n1_; have BK346 := n2_; have GW346 := n3_; have GE346 := n4_; have NB345_346 := n5_; have NB346_345 := n6_; clear n0_ n1_ n2_ n3_ n4_ n5_ n6_; clear hb hbox hg; have hnb17 := NB345_346.out; have hnc17 := NB346_345.out; have hcz18_0 : w16.cell? ⟨gb345, 0, none⟩ = some (.int .i64 a0_0) := (blk_cell BK345.out 0).trans rfl; have hcz18_1 : w16.cell? ⟨gb345, 1, none⟩ = some (.int .i64 a0_1) := (blk_cell BK345.out 1).trans rfl; have hfz18_0 := blk_frozen BK345.out 0; have hfz18_1 := blk_frozen BK345.out 1; have hcz19_0 : w16.cell? ⟨gb346, 0, none⟩ = some (.int .i64 a1_0) := (blk_cell BK346.out 0).trans rfl; have hcz19_1 : w16.cell? ⟨gb346, 1, none⟩ = some (.int .i64 a1_1) := (blk_cell BK346.out 1).trans rfl; have hfz19_0 := blk_frozen BK346.out 0; have hfz19_1 := blk_frozen BK346.out 1))
    go_ret
    exact ⟨by first | rfl | (simp [errW_none, errW_some] <;> rfl) | (simp [*, errW_none, errW_some] <;> rfl), by repeat (first | (with_reducible first | exact HB.out | apply below_alloc | apply pw_below_drewN | apply below_drew1 | refine below_set ?_ GE345.out | refine below_set ?_ GE346.out) | exact HB.out)⟩

end Go.Proofs.YtahmgalkliicfaaDoor.Q

-- made by a patched copy of print.sh: this session's own
namespace Go.Proofs.YtahmgalkliicfaaDoor.Q
open Go.RowKit Go.Proofs.YtahmgalkliicfaaDoorW.PrintWords Go.Proofs.YtahmgalkliicfaaDoorW.PrintLast Go.Proofs.YtahmgalkliicfaaDoorW.PrintMore
attribute [local go_sem] max2_int min2_int max_two min_two max_three min_three max_four min_four   -- for this text's walks alone
set_option linter.unusedVariables false
set_option linter.unusedSimpArgs false

/-! ### laws_eqDeed: function 29 -/
def laws_eqDeed.f (a0_0 : Int) (a0_1 : Int) (a0_2 : Int) (a0_3 : Int) (a0_4 : Int) (a0_5 : Int) (a0_6 : Int) (a0_7 : Int) (a0_8 : Int) (a1_0 : Int) (a1_1 : Int) (a1_2 : Int) (a1_3 : Int) (a1_4 : Int) (a1_5 : Int) (a1_6 : Int) (a1_7 : Int) (a1_8 : Int) : Option (Bool) := if a0_0 = a1_0 then (if a0_1 = a1_1 then (if a0_2 = a1_2 then (if a0_3 = a1_3 then ((laws_eqRing.f a0_4 a0_5 a1_4 a1_5).bind fun t349 => (if t349 = true then (if a0_6 = a1_6 then (if a0_7 = a1_7 then (if a0_8 = a1_8 then (some true) else (some false)) else (some false)) else (some false)) else (some false))) else (some false)) else (some false)) else (some false)) else (some false)
set_option maxHeartbeats 8000000 in
set_option maxRecDepth 100000 in
theorem laws_eqDeed.calls (a0_0 : Int) (a0_1 : Int) (a0_2 : Int) (a0_3 : Int) (a0_4 : Int) (a0_5 : Int) (a0_6 : Int) (a0_7 : Int) (a0_8 : Int) (a1_0 : Int) (a1_1 : Int) (a1_2 : Int) (a1_3 : Int) (a1_4 : Int) (a1_5 : Int) (a1_6 : Int) (a1_7 : Int) (a1_8 : Int) (r : Bool) (w : World) (h : laws_eqDeed.f a0_0 a0_1 a0_2 a0_3 a0_4 a0_5 a0_6 a0_7 a0_8 a1_0 a1_1 a1_2 a1_3 a1_4 a1_5 a1_6 a1_7 a1_8 = some r) :
    Calls Tryd.prog 29 #[.agg #[.int .i64 a0_0, .int .i64 a0_1, .int .i64 a0_2, .int .i64 a0_3, .int .i64 a0_4, .int .i64 a0_5, .int .i64 a0_6, .int .i64 a0_7, .int .i64 a0_8], .agg #[.int .i64 a1_0, .int .i64 a1_1, .int .i64 a1_2, .int .i64 a1_3, .int .i64 a1_4, .int .i64 a1_5, .int .i64 a1_6, .int .i64 a1_7, .int .i64 a1_8]] w fun e w' => e = .returned (.bool r) ∧ Below w.heap.size w w' := by
  have hu41 := Tryd.underlying41
  have hu39 := Tryd.underlying39
  have HB := Aside0.mk (Below.refl w.heap.size w)
  have H : (if a0_0 = a1_0 then (if a0_1 = a1_1 then (if a0_2 = a1_2 then (if a0_3 = a1_3 then ((laws_eqRing.f a0_4 a0_5 a1_4 a1_5).bind fun t349 => (if t349 = true then (if a0_6 = a1_6 then (if a0_7 = a1_7 then (if a0_8 = a1_8 then (some true) else (some false)) else (some false)) else (some false)) else (some false))) else (some false)) else (some false)) else (some false)) else (some false)) = some r := h
  clear h
  by_cases c3 : a0_0 = a1_0
  · rw [if_pos c3] at H
    have c3b0 : (a0_0 == a1_0) = true := beq_iff_eq.mpr c3
    have c3b1 : (a0_0 != a1_0) = false := bne_eq_false_iff_eq.mpr c3
    clear c3
    by_cases c4 : a0_1 = a1_1
    · rw [if_pos c4] at H
      have c4b0 : (a0_1 == a1_1) = true := beq_iff_eq.mpr c4
      have c4b1 : (a0_1 != a1_1) = false := bne_eq_false_iff_eq.mpr c4
      clear c4
      by_cases c5 : a0_2 = a1_2
      · rw [if_pos c5] at H
        have c5b0 : (a0_2 == a1_2) = true := beq_iff_eq.mpr c5
        have c5b1 : (a0_2 != a1_2) = false := bne_eq_false_iff_eq.mpr c5
        clear c5
        by_cases c6 : a0_3 = a1_3
        · rw [if_pos c6] at H
          have c6b0 : (a0_3 == a1_3) = true := beq_iff_eq.mpr c6
          have c6b1 : (a0_3 != a1_3) = false := bne_eq_false_iff_eq.mpr c6
          clear c6
          replace H := Option.bind_eq_some_iff.mp H
          obtain ⟨t349, A70, H⟩ := H
          replace H : (if t349 = true then (if a0_6 = a1_6 then (if a0_7 = a1_7 then (if a0_8 = a1_8 then (some true) else (some false)) else (some false)) else (some false)) else (some false)) = some r := H
          have A7 := Aside0.mk A70
          clear A70
          by_cases c8 : t349 = true
          · subst c8
            have H1 : (if a0_6 = a1_6 then (if a0_7 = a1_7 then (if a0_8 = a1_8 then (some true) else (some false)) else (some false)) else (some false)) = some r := by rw [if_pos rfl] at H; exact H
            clear H
            have H := H1
            clear H1
            by_cases c9 : a0_6 = a1_6
            · rw [if_pos c9] at H
              have c9b0 : (a0_6 == a1_6) = true := beq_iff_eq.mpr c9
              have c9b1 : (a0_6 != a1_6) = false := bne_eq_false_iff_eq.mpr c9
              clear c9
              by_cases c10 : a0_7 = a1_7
              · rw [if_pos c10] at H
                have c10b0 : (a0_7 == a1_7) = true := beq_iff_eq.mpr c10
                have c10b1 : (a0_7 != a1_7) = false := bne_eq_false_iff_eq.mpr c10
                clear c10
                by_cases c11 : a0_8 = a1_8
                · rw [if_pos c11] at H
                  have c11b0 : (a0_8 == a1_8) = true := beq_iff_eq.mpr c11
                  have c11b1 : (a0_8 != a1_8) = false := bne_eq_false_iff_eq.mpr c11
                  clear c11
                  obtain rfl := Option.some.inj H
                  go_enter Tryd.func29, Tryd.ntmps29
                  go_wp2_with (first | ((with_reducible refine gate_dst (N := 2) rfl ?_); refine box_event ?hg (N := 2) ?hd (cs := #[.int .i64 a0_0, .int .i64 a0_1, .int .i64 a0_2, .int .i64 a0_3, .int .i64 a0_4, .int .i64 a0_5, .int .i64 a0_6, .int .i64 a0_7, .int .i64 a0_8]) (t := 41) ?hr ?_; (case hd => rfl); (case hg => rfl); (case hr => first | (go_simp; done) | (go_simp; rfl)); intro gb347 hg w12 hbox hb; have n0_ := Aside0.mk (below_step (by repeat (first | (with_reducible first | exact HB.out | apply below_alloc | apply pw_below_drewN | apply below_drew1) | exact HB.out)) hb); have n1_ := Aside0.mk (hbox); have n2_ := Aside0.mk ((by rw [hg]; exact (below_size (by repeat (first | (with_reducible first | exact HB.out | apply below_alloc | apply pw_below_drewN | apply below_drew1) | exact HB.out))) : w.heap.size ≤ gb347)); have n3_ := Aside0.mk ((by rw [hg]; exact (below_size (by repeat (first | (with_reducible first | exact HB.out | apply below_alloc | apply pw_below_drewN | apply below_drew1) | exact HB.out))) : w.heap.size ≤ gb347)); clear HB; have HB := n0_; have BK347 := n1_; have GW347 := n2_; have GE347 := n3_; clear n0_ n1_ n2_ n3_; clear hb hbox hg) | ((with_reducible refine gate_dst (N := 3) rfl ?_); refine box_event ?hg (N := 3) ?hd (cs := #[.int .i64 a1_0, .int .i64 a1_1, .int .i64 a1_2, .int .i64 a1_3, .int .i64 a1_4, .int .i64 a1_5, .int .i64 a1_6, .int .i64 a1_7, .int .i64 a1_8]) (t := 41) ?hr ?_; (case hd => rfl); (case hg => rfl); (case hr => first | (go_simp; done) | (go_simp; rfl)); intro gb348 hg w13 hbox hb; have n0_ := Aside0.mk (blk_below (g := gb347) (o := .cells #[.int .i64 a0_0, .int .i64 a0_1, .int .i64 a0_2, .int .i64 a0_3, .int .i64 a0_4, .int .i64 a0_5, .int .i64 a0_6, .int .i64 a0_7, .int .i64 a0_8] 41 (0, 0)) (by (with_reducible repeat (first | refine blk_drewN ?_ _ | refine blk_drew ?_ | refine blk_alloc ?_ _)); exact BK347.out) hb); have n1_ := Aside0.mk (below_step (by repeat (first | (with_reducible first | exact HB.out | apply below_alloc | apply pw_below_drewN | apply below_drew1 | refine below_set ?_ GE347.out) | exact HB.out)) hb); have n2_ := Aside0.mk (hbox); have n3_ := Aside0.mk ((by rw [hg]; exact (below_size (by repeat (first | (with_reducible first | exact HB.out | apply below_alloc | apply pw_below_drewN | apply below_drew1 | refine below_set ?_ GE347.out) | exact HB.out))) : w.heap.size ≤ gb348)); have n4_ := Aside0.mk ((by rw [hg]; exact (below_size (by repeat (first | (with_reducible first | exact HB.out | apply below_alloc | apply pw_below_drewN | apply below_drew1 | refine below_set ?_ GE347.out) | exact HB.out))) : w.heap.size ≤ gb348)); have n5_ := Aside0.mk ((by rw [hg]; exact Nat.ne_of_lt (blk_lt (g := gb347) (o := .cells #[.int .i64 a0_0, .int .i64 a0_1, .int .i64 a0_2, .int .i64 a0_3, .int .i64 a0_4, .int .i64 a0_5, .int .i64 a0_6, .int .i64 a0_7, .int .i64 a0_8] 41 (0, 0)) (by (with_reducible repeat (first | refine blk_drewN ?_ _ | refine blk_drew ?_ | refine blk_alloc ?_ _)); exact BK347.out)) : gb347 ≠ gb348)); have n6_ := Aside0.mk ((by rw [hg]; exact Nat.ne_of_gt (blk_lt (g := gb347) (o := .cells #[.int .i64 a0_0, .int .i64 a0_1, .int .i64 a0_2, .int .i64 a0_3, .int .i64 a0_4, .int .i64 a0_5, .int .i64 a0_6, .int .i64 a0_7, .int .i64 a0_8] 41 (0, 0)) (by (with_reducible repeat (first | refine blk_drewN ?_ _ | refine blk_drew ?_ | refine blk_alloc ?_ _)); exact BK347.out)) : gb348 ≠ gb347)); clear BK347; clear HB; have BK347 := n0_; have HB := n1_; have BK348 := n2_; have GW348 := n3_; have GE348 := n4_; have NB347_348 := n5_; have NB348_347 := n6_; clear n0_ n1_ n2_ n3_ n4_ n5_ n6_; clear hb hbox hg; have hnb14 := NB347_348.out; have hnc14 := NB348_347.out; have hcz15_0 : w13.cell? ⟨gb347, 0, none⟩ = some (.int .i64 a0_0) := (blk_cell BK347.out 0).trans rfl; have hcz15_1 : w13.cell? ⟨gb347, 1, none⟩ = some (.int .i64 a0_1) := (blk_cell BK347.out 1).trans rfl; have hcz15_2 : w13.cell? ⟨gb347, 2, none⟩ = some (.int .i64 a0_2) := (blk_cell BK347.out 2).trans rfl; have hcz15_3 : w13.cell? ⟨gb347, 3, none⟩ = some (.int .i64 a0_3) := (blk_cell BK347.out 3).trans rfl; have hcz15_4 : w13.cell? ⟨gb347, 4, none⟩ = some (.int .i64 a0_4) := (blk_cell BK347.out 4).trans rfl; have hcz15_5 : w13.cell? ⟨gb347, 5, none⟩ = some (.int .i64 a0_5) := (blk_cell BK347.out 5).trans rfl; have hcz15_6 : w13.cell? ⟨gb347, 6, none⟩ = some (.int .i64 a0_6) := (blk_cell BK347.out 6).trans rfl; have hcz15_7 : w13.cell? ⟨gb347, 7, none⟩ = some (.int .i64 a0_7) := (blk_cell BK347.out 7).trans rfl; have hcz15_8 : w13.cell? ⟨gb347, 8, none⟩ = some (.int .i64 a0_8) := (blk_cell BK347.out 8).trans rfl; have hfz15_0 := blk_frozen BK347.out 0; have hfz15_1 := blk_frozen BK347.out 1; have hfz15_2 := blk_frozen BK347.out 2; have hfz15_3 := blk_frozen BK347.out 3; have hfz15_4 := blk_frozen BK347.out 4; have hfz15_5 := blk_frozen BK347.out 5; have hfz15_6 := blk_frozen BK347.out 6; have hfz15_7 := blk_frozen BK347.out 7; have hfz15_8 := blk_frozen BK347.out 8; have hcz16_0 : w13.cell? ⟨gb348, 0, none⟩ = some (.int .i64 a1_0) := (blk_cell BK348.out 0).trans rfl; have hcz16_1 : w13.cell? ⟨gb348, 1, none⟩ = some (.int .i64 a1_1) := (blk_cell BK348.out 1).trans rfl; have hcz16_2 : w13.cell? ⟨gb348, 2, none⟩ = some (.int .i64 a1_2) := (blk_cell BK348.out 2).trans rfl; have hcz16_3 : w13.cell? ⟨gb348, 3, none⟩ = some (.int .i64 a1_3) := (blk_cell BK348.out 3).trans rfl; have hcz16_4 : w13.cell? ⟨gb348, 4, none⟩ = some (.int .i64 a1_4) := (blk_cell BK348.out 4).trans rfl; have hcz16_5 : w13.cell? ⟨gb348, 5, none⟩ = some (.int .i64 a1_5) := (blk_cell BK348.out 5).trans rfl; have hcz16_6 : w13.cell? ⟨gb348, 6, none⟩ = some (.int .i64 a1_6) := (blk_cell BK348.out 6).trans rfl; have hcz16_7 : w13.cell? ⟨gb348, 7, none⟩ = some (.int .i64 a1_7) := (blk_cell BK348.out 7).trans rfl; have hcz16_8 : w13.cell? ⟨gb348, 8, none⟩ = some (.int .i64 a1_8) := (blk_cell BK348.out 8).trans rfl; have hfz16_0 := blk_frozen BK348.out 0; have hfz16_1 := blk_frozen BK348.out 1; have hfz16_2 := blk_frozen BK348.out 2; have hfz16_3 := blk_frozen BK348.out 3; have hfz16_4 := blk_frozen BK348.out 4; have hfz16_5 := blk_frozen BK348.out 5; have hfz16_6 := blk_frozen BK348.out 6; have hfz16_7 := blk_frozen BK348.out 7; have hfz16_8 := blk_frozen BK348.out 8) | ((with_reducible refine gate_callee (f := 62) rfl ?_); refine goesL_ (some 29) rfl rfl Tryd.func62 (by kernel_rfl) rfl #[.agg #[.int .i64 a0_4, .int .i64 a0_5], .agg #[.int .i64 a1_4, .int .i64 a1_5]] rfl (by (try simp only [List.map_toArray, List.map_cons, List.map_nil]); first | done | rfl | (simp only [List.length_drop, List.length_take]; rfl)) ?_; (with_reducible refine (laws_eqRing.calls a0_4 a0_5 a1_4 a1_5 true _ A7.out).mono ?_); rintro e w17 ⟨rfl, hb⟩; refine ⟨_, rfl, ?_⟩; have n0_ := Aside0.mk (blk_below (g := gb347) (o := .cells #[.int .i64 a0_0, .int .i64 a0_1, .int .i64 a0_2, .int .i64 a0_3, .int .i64 a0_4, .int .i64 a0_5, .int .i64 a0_6, .int .i64 a0_7, .int .i64 a0_8] 41 (0, 0)) (by (with_reducible repeat (first | refine blk_drewN ?_ _ | refine blk_drew ?_ | refine blk_alloc ?_ _)); exact BK347.out) hb); have n1_ := Aside0.mk (blk_below (g := gb348) (o := .cells #[.int .i64 a1_0, .int .i64 a1_1, .int .i64 a1_2, .int .i64 a1_3, .int .i64 a1_4, .int .i64 a1_5, .int .i64 a1_6, .int .i64 a1_7, .int .i64 a1_8] 41 (0, 0)) (by (with_reducible repeat (first | refine blk_drewN ?_ _ | refine blk_drew ?_ | refine blk_alloc ?_ _)); exact BK348.out) hb); have n2_ := Aside0.mk (below_step (by repeat (first | (with_reducible first | exact HB.out | apply below_alloc | apply pw_below_drewN | apply below_drew1 | refine below_set ?_ GE347.out | refine below_set ?_ GE348.out) | exact HB.out)) hb); clear BK347; clear BK348; clear HB; have BK347 := n0_; have BK348 := n1_; have HB := n2_; clear n0_ n1_ n2_; (try clear hb); (try clear hb2); (try clear hk); (try clear hi); have hcz18_0 : w17.cell? ⟨gb347, 0, none⟩ = some (.int .i64 a0_0) := (blk_cell BK347.out 0).trans rfl; have hcz18_1 : w17.cell? ⟨gb347, 1, none⟩ = some (.int .i64 a0_1) := (blk_cell BK347.out 1).trans rfl; have hcz18_2 : w17.cell? ⟨gb347, 2, none⟩ = some (.int .i64 a0_2) := (blk_cell BK347.out 2).trans rfl; have hcz18_3 : w17.cell? ⟨gb347, 3, none⟩ = some (.int .i64 a0_3) := (blk_cell BK347.out 3).trans rfl; have hcz18_4 : w17.cell? ⟨gb347, 4, none⟩ = some (.int .i64 a0_4) := (blk_cell BK347.out 4).trans rfl; have hcz18_5 : w17.cell? ⟨gb347, 5, none⟩ = some (.int .i64 a0_5) := (blk_cell BK347.out 5).trans rfl; have hcz18_6 : w17.cell? ⟨gb347, 6, none⟩ = some (.int .i64 a0_6) := (blk_cell BK347.out 6).trans rfl; have hcz18_7 : w17.cell? ⟨gb347, 7, none⟩ = some (.int .i64 a0_7) := (blk_cell BK347.out 7).trans rfl; have hcz18_8 : w17.cell? ⟨gb347, 8, none⟩ = some (.int .i64 a0_8) := (blk_cell BK347.out 8).trans rfl; have hfz18_0 := blk_frozen BK347.out 0; have hfz18_1 := blk_frozen BK347.out 1; have hfz18_2 := blk_frozen BK347.out 2; have hfz18_3 := blk_frozen BK347.out 3; have hfz18_4 := blk_frozen BK347.out 4; have hfz18_5 := blk_frozen BK347.out 5; have hfz18_6 := blk_frozen BK347.out 6; have hfz18_7 := blk_frozen BK347.out 7; have hfz18_8 := blk_frozen BK347.out 8; have hcz19_0 : w17.cell? ⟨gb348, 0, none⟩ = some (.int .i64 a1_0) := (blk_cell BK348.out 0).trans rfl; have hcz19_1 : w17.cell? ⟨gb348, 1, none⟩ = some (.int .i64 a1_1) := (blk_cell BK348.out 1).trans rfl; have hcz19_2 : w17.cell? ⟨gb348, 2, none⟩ = some (.int .i64 a1_2) := (blk_cell BK348.out 2).trans rfl; have hcz19_3 : w17.cell? ⟨gb348, 3, none⟩ = some (.int .i64 a1_3) := (blk_cell BK348.out 3).trans rfl; have hcz19_4 : w17.cell? ⟨gb348, 4, none⟩ = some (.int .i64 a1_4) := (blk_cell BK348.out 4).trans rfl; have hcz19_5 : w17.cell? ⟨gb348, 5, none⟩ = some (.int .i64 a1_5) := (blk_cell BK348.out 5).trans rfl; have hcz19_6 : w17.cell? ⟨gb348, 6, none⟩ = some (.int .i64 a1_6) := (blk_cell BK348.out 6).trans rfl; have hcz19_7 : w17.cell? ⟨gb348, 7, none⟩ = some (.int .i64 a1_7) := (blk_cell BK348.out 7).trans rfl; have hcz19_8 : w17.cell? ⟨gb348, 8, none⟩ = some (.int .i64 a1_8) := (blk_cell BK348.out 8).trans rfl; have hfz19_0 := blk_frozen BK348.out 0; have hfz19_1 := blk_frozen BK348.out 1; have hfz19_2 := blk_frozen BK348.out 2; have hfz19_3 := blk_frozen BK348.out 3; have hfz19_4 := blk_frozen BK348.out 4; have hfz19_5 := blk_frozen BK348.out 5; have hfz19_6 := blk_frozen BK348.out 6; have hfz19_7 := blk_frozen BK348.out 7; have hfz19_8 := blk_frozen BK348.out 8))
                  go_ret
                  exact ⟨by first | rfl | (simp [errW_none, errW_some] <;> rfl) | (simp [*, errW_none, errW_some] <;> rfl), by repeat (first | (with_reducible first | exact HB.out | apply below_alloc | apply pw_below_drewN | apply below_drew1 | refine below_set ?_ GE347.out | refine below_set ?_ GE348.out) | exact HB.out)⟩
                · rw [if_neg c11] at H
                  have c11b0 : (a0_8 == a1_8) = false := beq_eq_false_iff_ne.mpr c11
                  have c11b1 : (a0_8 != a1_8) = true := bne_iff_ne.mpr c11
                  obtain rfl := Option.some.inj H
                  go_enter Tryd.func29, Tryd.ntmps29
                  go_wp2_with (first | ((with_reducible refine gate_dst (N := 2) rfl ?_); refine box_event ?hg (N := 2) ?hd (cs := #[.int .i64 a0_0, .int .i64 a0_1, .int .i64 a0_2, .int .i64 a0_3, .int .i64 a0_4, .int .i64 a0_5, .int .i64 a0_6, .int .i64 a0_7, .int .i64 a0_8]) (t := 41) ?hr ?_; (case hd => rfl); (case hg => rfl); (case hr => first | (go_simp; done) | (go_simp; rfl)); intro gb347 hg w20 hbox hb; have n0_ := Aside0.mk (below_step (by repeat (first | (with_reducible first | exact HB.out | apply below_alloc | apply pw_below_drewN | apply below_drew1) | exact HB.out)) hb); have n1_ := Aside0.mk (hbox); have n2_ := Aside0.mk ((by rw [hg]; exact (below_size (by repeat (first | (with_reducible first | exact HB.out | apply below_alloc | apply pw_below_drewN | apply below_drew1) | exact HB.out))) : w.heap.size ≤ gb347)); have n3_ := Aside0.mk ((by rw [hg]; exact (below_size (by repeat (first | (with_reducible first | exact HB.out | apply below_alloc | apply pw_below_drewN | apply below_drew1) | exact HB.out))) : w.heap.size ≤ gb347)); clear HB; have HB := n0_; have BK347 := n1_; have GW347 := n2_; have GE347 := n3_; clear n0_ n1_ n2_ n3_; clear hb hbox hg) | ((with_reducible refine gate_dst (N := 3) rfl ?_); refine box_event ?hg (N := 3) ?hd (cs := #[.int .i64 a1_0, .int .i64 a1_1, .int .i64 a1_2, .int .i64 a1_3, .int .i64 a1_4, .int .i64 a1_5, .int .i64 a1_6, .int .i64 a1_7, .int .i64 a1_8]) (t := 41) ?hr ?_; (case hd => rfl); (case hg => rfl); (case hr => first | (go_simp; done) | (go_simp; rfl)); intro gb348 hg w21 hbox hb; have n0_ := Aside0.mk (blk_below (g := gb347) (o := .cells #[.int .i64 a0_0, .int .i64 a0_1, .int .i64 a0_2, .int .i64 a0_3, .int .i64 a0_4, .int .i64 a0_5, .int .i64 a0_6, .int .i64 a0_7, .int .i64 a0_8] 41 (0, 0)) (by (with_reducible repeat (first | refine blk_drewN ?_ _ | refine blk_drew ?_ | refine blk_alloc ?_ _)); exact BK347.out) hb); have n1_ := Aside0.mk (below_step (by repeat (first | (with_reducible first | exact HB.out | apply below_alloc | apply pw_below_drewN | apply below_drew1 | refine below_set ?_ GE347.out) | exact HB.out)) hb); have n2_ := Aside0.mk (hbox); have n3_ := Aside0.mk ((by rw [hg]; exact (below_size (by repeat (first | (with_reducible first | exact HB.out | apply below_alloc | apply pw_below_drewN | apply below_drew1 | refine below_set ?_ GE347.out) | exact HB.out))) : w.heap.size ≤ gb348)); have n4_ := Aside0.mk ((by rw [hg]; exact (below_size (by repeat (first | (with_reducible first | exact HB.out | apply below_alloc | apply pw_below_drewN | apply below_drew1 | refine below_set ?_ GE347.out) | exact HB.out))) : w.heap.size ≤ gb348)); have n5_ := Aside0.mk ((by rw [hg]; exact Nat.ne_of_lt (blk_lt (g := gb347) (o := .cells #[.int .i64 a0_0, .int .i64 a0_1, .int .i64 a0_2, .int .i64 a0_3, .int .i64 a0_4, .int .i64 a0_5, .int .i64 a0_6, .int .i64 a0_7, .int .i64 a0_8] 41 (0, 0)) (by (with_reducible repeat (first | refine blk_drewN ?_ _ | refine blk_drew ?_ | refine blk_alloc ?_ _)); exact BK347.out)) : gb347 ≠ gb348)); have n6_ := Aside0.mk ((by rw [hg]; exact Nat.ne_of_gt (blk_lt (g := gb347) (o := .cells #[.int .i64 a0_0, .int .i64 a0_1, .int .i64 a0_2, .int .i64 a0_3, .int .i64 a0_4, .int .i64 a0_5, .int .i64 a0_6, .int .i64 a0_7, .int .i64 a0_8] 41 (0, 0)) (by (with_reducible repeat (first | refine blk_drewN ?_ _ | refine blk_drew ?_ | refine blk_alloc ?_ _)); exact BK347.out)) : gb348 ≠ gb347)); clear BK347; clear HB; have BK347 := n0_; have HB := n1_; have BK348 := n2_; have GW348 := n3_; have GE348 := n4_; have NB347_348 := n5_; have NB348_347 := n6_; clear n0_ n1_ n2_ n3_ n4_ n5_ n6_; clear hb hbox hg; have hnb22 := NB347_348.out; have hnc22 := NB348_347.out; have hcz23_0 : w21.cell? ⟨gb347, 0, none⟩ = some (.int .i64 a0_0) := (blk_cell BK347.out 0).trans rfl; have hcz23_1 : w21.cell? ⟨gb347, 1, none⟩ = some (.int .i64 a0_1) := (blk_cell BK347.out 1).trans rfl; have hcz23_2 : w21.cell? ⟨gb347, 2, none⟩ = some (.int .i64 a0_2) := (blk_cell BK347.out 2).trans rfl; have hcz23_3 : w21.cell? ⟨gb347, 3, none⟩ = some (.int .i64 a0_3) := (blk_cell BK347.out 3).trans rfl; have hcz23_4 : w21.cell? ⟨gb347, 4, none⟩ = some (.int .i64 a0_4) := (blk_cell BK347.out 4).trans rfl; have hcz23_5 : w21.cell? ⟨gb347, 5, none⟩ = some (.int .i64 a0_5) := (blk_cell BK347.out 5).trans rfl; have hcz23_6 : w21.cell? ⟨gb347, 6, none⟩ = some (.int .i64 a0_6) := (blk_cell BK347.out 6).trans rfl; have hcz23_7 : w21.cell? ⟨gb347, 7, none⟩ = some (.int .i64 a0_7) := (blk_cell BK347.out 7).trans rfl; have hcz23_8 : w21.cell? ⟨gb347, 8, none⟩ = some (.int .i64 a0_8) := (blk_cell BK347.out 8).trans rfl; have hfz23_0 := blk_frozen BK347.out 0; have hfz23_1 := blk_frozen BK347.out 1; have hfz23_2 := blk_frozen BK347.out 2; have hfz23_3 := blk_frozen BK347.out 3; have hfz23_4 := blk_frozen BK347.out 4; have hfz23_5 := blk_frozen BK347.out 5; have hfz23_6 := blk_frozen BK347.out 6; have hfz23_7 := blk_frozen BK347.out 7; have hfz23_8 := blk_frozen BK347.out 8; have hcz24_0 : w21.cell? ⟨gb348, 0, none⟩ = some (.int .i64 a1_0) := (blk_cell BK348.out 0).trans rfl; have hcz24_1 : w21.cell? ⟨gb348, 1, none⟩ = some (.int .i64 a1_1) := (blk_cell BK348.out 1).trans rfl; have hcz24_2 : w21.cell? ⟨gb348, 2, none⟩ = some (.int .i64 a1_2) := (blk_cell BK348.out 2).trans rfl; have hcz24_3 : w21.cell? ⟨gb348, 3, none⟩ = some (.int .i64 a1_3) := (blk_cell BK348.out 3).trans rfl; have hcz24_4 : w21.cell? ⟨gb348, 4, none⟩ = some (.int .i64 a1_4) := (blk_cell BK348.out 4).trans rfl; have hcz24_5 : w21.cell? ⟨gb348, 5, none⟩ = some (.int .i64 a1_5) := (blk_cell BK348.out 5).trans rfl; have hcz24_6 : w21.cell? ⟨gb348, 6, none⟩ = some (.int .i64 a1_6) := (blk_cell BK348.out 6).trans rfl; have hcz24_7 : w21.cell? ⟨gb348, 7, none⟩ = some (.int .i64 a1_7) := (blk_cell BK348.out 7).trans rfl; have hcz24_8 : w21.cell? ⟨gb348, 8, none⟩ = some (.int .i64 a1_8) := (blk_cell BK348.out 8).trans rfl; have hfz24_0 := blk_frozen BK348.out 0; have hfz24_1 := blk_frozen BK348.out 1; have hfz24_2 := blk_frozen BK348.out 2; have hfz24_3 := blk_frozen BK348.out 3; have hfz24_4 := blk_frozen BK348.out 4; have hfz24_5 := blk_frozen BK348.out 5; have hfz24_6 := blk_frozen BK348.out 6; have hfz24_7 := blk_frozen BK348.out 7; have hfz24_8 := blk_frozen BK348.out 8) | ((with_reducible refine gate_callee (f := 62) rfl ?_); refine goesL_ (some 29) rfl rfl Tryd.func62 (by kernel_rfl) rfl #[.agg #[.int .i64 a0_4, .int .i64 a0_5], .agg #[.int .i64 a1_4, .int .i64 a1_5]] rfl (by (try simp only [List.map_toArray, List.map_cons, List.map_nil]); first | done | rfl | (simp only [List.length_drop, List.length_take]; rfl)) ?_; (with_reducible refine (laws_eqRing.calls a0_4 a0_5 a1_4 a1_5 true _ A7.out).mono ?_); rintro e w25 ⟨rfl, hb⟩; refine ⟨_, rfl, ?_⟩; have n0_ := Aside0.mk (blk_below (g := gb347) (o := .cells #[.int .i64 a0_0, .int .i64 a0_1, .int .i64 a0_2, .int .i64 a0_3, .int .i64 a0_4, .int .i64 a0_5, .int .i64 a0_6, .int .i64 a0_7, .int .i64 a0_8] 41 (0, 0)) (by (with_reducible repeat (first | refine blk_drewN ?_ _ | refine blk_drew ?_ | refine blk_alloc ?_ _)); exact BK347.out) hb); have n1_ := Aside0.mk (blk_below (g := gb348) (o := .cells #[.int .i64 a1_0, .int .i64 a1_1, .int .i64 a1_2, .int .i64 a1_3, .int .i64 a1_4, .int .i64 a1_5, .int .i64 a1_6, .int .i64 a1_7, .int .i64 a1_8] 41 (0, 0)) (by (with_reducible repeat (first | refine blk_drewN ?_ _ | refine blk_drew ?_ | refine blk_alloc ?_ _)); exact BK348.out) hb); have n2_ := Aside0.mk (below_step (by repeat (first | (with_reducible first | exact HB.out | apply below_alloc | apply pw_below_drewN | apply below_drew1 | refine below_set ?_ GE347.out | refine below_set ?_ GE348.out) | exact HB.out)) hb); clear BK347; clear BK348; clear HB; have BK347 := n0_; have BK348 := n1_; have HB := n2_; clear n0_ n1_ n2_; (try clear hb); (try clear hb2); (try clear hk); (try clear hi); have hcz26_0 : w25.cell? ⟨gb347, 0, none⟩ = some (.int .i64 a0_0) := (blk_cell BK347.out 0).trans rfl; have hcz26_1 : w25.cell? ⟨gb347, 1, none⟩ = some (.int .i64 a0_1) := (blk_cell BK347.out 1).trans rfl; have hcz26_2 : w25.cell? ⟨gb347, 2, none⟩ = some (.int .i64 a0_2) := (blk_cell BK347.out 2).trans rfl; have hcz26_3 : w25.cell? ⟨gb347, 3, none⟩ = some (.int .i64 a0_3) := (blk_cell BK347.out 3).trans rfl; have hcz26_4 : w25.cell? ⟨gb347, 4, none⟩ = some (.int .i64 a0_4) := (blk_cell BK347.out 4).trans rfl; have hcz26_5 : w25.cell? ⟨gb347, 5, none⟩ = some (.int .i64 a0_5) := (blk_cell BK347.out 5).trans rfl; have hcz26_6 : w25.cell? ⟨gb347, 6, none⟩ = some (.int .i64 a0_6) := (blk_cell BK347.out 6).trans rfl; have hcz26_7 : w25.cell? ⟨gb347, 7, none⟩ = some (.int .i64 a0_7) := (blk_cell BK347.out 7).trans rfl; have hcz26_8 : w25.cell? ⟨gb347, 8, none⟩ = some (.int .i64 a0_8) := (blk_cell BK347.out 8).trans rfl; have hfz26_0 := blk_frozen BK347.out 0; have hfz26_1 := blk_frozen BK347.out 1; have hfz26_2 := blk_frozen BK347.out 2; have hfz26_3 := blk_frozen BK347.out 3; have hfz26_4 := blk_frozen BK347.out 4; have hfz26_5 := blk_frozen BK347.out 5; have hfz26_6 := blk_frozen BK347.out 6; have hfz26_7 := blk_frozen BK347.out 7; have hfz26_8 := blk_frozen BK347.out 8; have hcz27_0 : w25.cell? ⟨gb348, 0, none⟩ = some (.int .i64 a1_0) := (blk_cell BK348.out 0).trans rfl; have hcz27_1 : w25.cell? ⟨gb348, 1, none⟩ = some (.int .i64 a1_1) := (blk_cell BK348.out 1).trans rfl; have hcz27_2 : w25.cell? ⟨gb348, 2, none⟩ = some (.int .i64 a1_2) := (blk_cell BK348.out 2).trans rfl; have hcz27_3 : w25.cell? ⟨gb348, 3, none⟩ = some (.int .i64 a1_3) := (blk_cell BK348.out 3).trans rfl; have hcz27_4 : w25.cell? ⟨gb348, 4, none⟩ = some (.int .i64 a1_4) := (blk_cell BK348.out 4).trans rfl; have hcz27_5 : w25.cell? ⟨gb348, 5, none⟩ = some (.int .i64 a1_5) := (blk_cell BK348.out 5).trans rfl; have hcz27_6 : w25.cell? ⟨gb348, 6, none⟩ = some (.int .i64 a1_6) := (blk_cell BK348.out 6).trans rfl; have hcz27_7 : w25.cell? ⟨gb348, 7, none⟩ = some (.int .i64 a1_7) := (blk_cell BK348.out 7).trans rfl; have hcz27_8 : w25.cell? ⟨gb348, 8, none⟩ = some (.int .i64 a1_8) := (blk_cell BK348.out 8).trans rfl; have hfz27_0 := blk_frozen BK348.out 0; have hfz27_1 := blk_frozen BK348.out 1; have hfz27_2 := blk_frozen BK348.out 2; have hfz27_3 := blk_frozen BK348.out 3; have hfz27_4 := blk_frozen BK348.out 4; have hfz27_5 := blk_frozen BK348.out 5; have hfz27_6 := blk_frozen BK348.out 6; have hfz27_7 := blk_frozen BK348.out 7; have hfz27_8 := blk_frozen BK348.out 8))
                  go_ret
                  exact ⟨by first | rfl | (simp [errW_none, errW_some] <;> rfl) | (simp [*, errW_none, errW_some] <;> rfl), by repeat (first | (with_reducible first | exact HB.out | apply below_alloc | apply pw_below_drewN | apply below_drew1 | refine below_set ?_ GE347.out | refine below_set ?_ GE348.out) | exact HB.out)⟩
              · rw [if_neg c10] at H
                have c10b0 : (a0_7 == a1_7) = false := beq_eq_false_iff_ne.mpr c10
                have c10b1 : (a0_7 != a1_7) = true := bne_iff_ne.mpr c10
                obtain rfl := Option.some.inj H
                go_enter Tryd.func29, Tryd.ntmps29
                go_wp2_with (first | ((with_reducible refine gate_dst (N := 2) rfl ?_); refine box_event ?hg (N := 2) ?hd (cs := #[.int .i64 a0_0, .int .i64 a0_1, .int .i64 a0_2, .int .i64 a0_3, .int .i64 a0_4, .int .i64 a0_5, .int .i64 a0_6, .int .i64 a0_7, .int .i64 a0_8]) (t := 41) ?hr ?_; (case hd => rfl); (case hg => rfl); (case hr => first | (go_simp; done) | (go_simp; rfl)); intro gb347 hg w28 hbox hb; have n0_ := Aside0.mk (below_step (by repeat (first | (with_reducible first | exact HB.out | apply below_alloc | apply pw_below_drewN | apply below_drew1) | exact HB.out)) hb); have n1_ := Aside0.mk (hbox); have n2_ := Aside0.mk ((by rw [hg]; exact (below_size (by repeat (first | (with_reducible first | exact HB.out | apply below_alloc | apply pw_below_drewN | apply below_drew1) | exact HB.out))) : w.heap.size ≤ gb347)); have n3_ := Aside0.mk ((by rw [hg]; exact (below_size (by repeat (first | (with_reducible first | exact HB.out | apply below_alloc | apply pw_below_drewN | apply below_drew1) | exact HB.out))) : w.heap.size ≤ gb347)); clear HB; have HB := n0_; have BK347 := n1_; have GW347 := n2_; have GE347 := n3_; clear n0_ n1_ n2_ n3_; clear hb hbox hg) | ((with_reducible refine gate_dst (N := 3) rfl ?_); refine box_event ?hg (N := 3) ?hd (cs := #[.int .i64 a1_0, .int .i64 a1_1, .int .i64 a1_2, .int .i64 a1_3, .int .i64 a1_4, .int .i64 a1_5, .int .i64 a1_6, .int .i64 a1_7, .int .i64 a1_8]) (t := 41) ?hr ?_; (case hd => rfl); (case hg => rfl); (case hr => first | (go_simp; done) | (go_simp; rfl)); intro gb348 hg w29 hbox hb; have n0_ := Aside0.mk (blk_below (g := gb347) (o := .cells #[.int .i64 a0_0, .int .i64 a0_1, .int .i64 a0_2, .int .i64 a0_3, .int .i64 a0_4, .int .i64 a0_5, .int .i64 a0_6, .int .i64 a0_7, .int .i64 a0_8] 41 (0, 0)) (by (with_reducible repeat (first | refine blk_drewN ?_ _ | refine blk_drew ?_ | refine blk_alloc ?_ _)); exact BK347.out) hb); have n1_ := Aside0.mk (below_step (by repeat (first | (with_reducible first | exact HB.out | apply below_alloc | apply pw_below_drewN | apply below_drew1 | refine below_set ?_ GE347.out) | exact HB.out)) hb); have n2_ := Aside0.mk (hbox); have n3_ := Aside0.mk ((by rw [hg]; exact (below_size (by repeat (first | (with_reducible first | exact HB.out | apply below_alloc | apply pw_below_drewN | apply below_drew1 | refine below_set ?_ GE347.out) | exact HB.out))) : w.heap.size ≤ gb348)); have n4_ := Aside0.mk ((by rw [hg]; exact (below_size (by repeat (first | (with_reducible first | exact HB.out | apply below_alloc | apply pw_below_drewN | apply below_drew1 | refine below_set ?_ GE347.out) | exact HB.out))) : w.heap.size ≤ gb348)); have n5_ := Aside0.mk ((by rw [hg]; exact Nat.ne_of_lt (blk_lt (g := gb347) (o := .cells #[.int .i64 a0_0, .int .i64 a0_1, .int .i64 a0_2, .int .i64 a0_3, .int .i64 a0_4, .int .i64 a0_5, .int .i64 a0_6, .int .i64 a0_7, .int .i64 a0_8] 41 (0, 0)) (by (with_reducible repeat (first | refine blk_drewN ?_ _ | refine blk_drew ?_ | refine blk_alloc ?_ _)); exact BK347.out)) : gb347 ≠ gb348)); have n6_ := Aside0.mk ((by rw [hg]; exact Nat.ne_of_gt (blk_lt (g := gb347) (o := .cells #[.int .i64 a0_0, .int .i64 a0_1, .int .i64 a0_2, .int .i64 a0_3, .int .i64 a0_4, .int .i64 a0_5, .int .i64 a0_6, .int .i64 a0_7, .int .i64 a0_8] 41 (0, 0)) (by (with_reducible repeat (first | refine blk_drewN ?_ _ | refine blk_drew ?_ | refine blk_alloc ?_ _)); exact BK347.out)) : gb348 ≠ gb347)); clear BK347; clear HB; have BK347 := n0_; have HB := n1_; have BK348 := n2_; have GW348 := n3_; have GE348 := n4_; have NB347_348 := n5_; have NB348_347 := n6_; clear n0_ n1_ n2_ n3_ n4_ n5_ n6_; clear hb hbox hg; have hnb30 := NB347_348.out; have hnc30 := NB348_347.out; have hcz31_0 : w29.cell? ⟨gb347, 0, none⟩ = some (.int .i64 a0_0) := (blk_cell BK347.out 0).trans rfl; have hcz31_1 : w29.cell? ⟨gb347, 1, none⟩ = some (.int .i64 a0_1) := (blk_cell BK347.out 1).trans rfl; have hcz31_2 : w29.cell? ⟨gb347, 2, none⟩ = some (.int .i64 a0_2) := (blk_cell BK347.out 2).trans rfl; have hcz31_3 : w29.cell? ⟨gb347, 3, none⟩ = some (.int .i64 a0_3) := (blk_cell BK347.out 3).trans rfl; have hcz31_4 : w29.cell? ⟨gb347, 4, none⟩ = some (.int .i64 a0_4) := (blk_cell BK347.out 4).trans rfl; have hcz31_5 : w29.cell? ⟨gb347, 5, none⟩ = some (.int .i64 a0_5) := (blk_cell BK347.out 5).trans rfl; have hcz31_6 : w29.cell? ⟨gb347, 6, none⟩ = some (.int .i64 a0_6) := (blk_cell BK347.out 6).trans rfl; have hcz31_7 : w29.cell? ⟨gb347, 7, none⟩ = some (.int .i64 a0_7) := (blk_cell BK347.out 7).trans rfl; have hcz31_8 : w29.cell? ⟨gb347, 8, none⟩ = some (.int .i64 a0_8) := (blk_cell BK347.out 8).trans rfl; have hfz31_0 := blk_frozen BK347.out 0; have hfz31_1 := blk_frozen BK347.out 1; have hfz31_2 := blk_frozen BK347.out 2; have hfz31_3 := blk_frozen BK347.out 3; have hfz31_4 := blk_frozen BK347.out 4; have hfz31_5 := blk_frozen BK347.out 5; have hfz31_6 := blk_frozen BK347.out 6; have hfz31_7 := blk_frozen BK347.out 7; have hfz31_8 := blk_frozen BK347.out 8; have hcz32_0 : w29.cell? ⟨gb348, 0, none⟩ = some (.int .i64 a1_0) := (blk_cell BK348.out 0).trans rfl; have hcz32_1 : w29.cell? ⟨gb348, 1, none⟩ = some (.int .i64 a1_1) := (blk_cell BK348.out 1).trans rfl; have hcz32_2 : w29.cell? ⟨gb348, 2, none⟩ = some (.int .i64 a1_2) := (blk_cell BK348.out 2).trans rfl; have hcz32_3 : w29.cell? ⟨gb348, 3, none⟩ = some (.int .i64 a1_3) := (blk_cell BK348.out 3).trans rfl; have hcz32_4 : w29.cell? ⟨gb348, 4, none⟩ = some (.int .i64 a1_4) := (blk_cell BK348.out 4).trans rfl; have hcz32_5 : w29.cell? ⟨gb348, 5, none⟩ = some (.int .i64 a1_5) := (blk_cell BK348.out 5).trans rfl; have hcz32_6 : w29.cell? ⟨gb348, 6, none⟩ = some (.int .i64 a1_6) := (blk_cell BK348.out 6).trans rfl; have hcz32_7 : w29.cell? ⟨gb348, 7, none⟩ = some (.int .i64 a1_7) := (blk_cell BK348.out 7).trans rfl; have hcz32_8 : w29.cell? ⟨gb348, 8, none⟩ = some (.int .i64 a1_8) := (blk_cell BK348.out 8).trans rfl; have hfz32_0 := blk_frozen BK348.out 0; have hfz32_1 := blk_frozen BK348.out 1; have hfz32_2 := blk_frozen BK348.out 2; have hfz32_3 := blk_frozen BK348.out 3; have hfz32_4 := blk_frozen BK348.out 4; have hfz32_5 := blk_frozen BK348.out 5; have hfz32_6 := blk_frozen BK348.out 6; have hfz32_7 := blk_frozen BK348.out 7; have hfz32_8 := blk_frozen BK348.out 8) | ((with_reducible refine gate_callee (f := 62) rfl ?_); refine goesL_ (some 29) rfl rfl Tryd.func62 (by kernel_rfl) rfl #[.agg #[.int .i64 a0_4, .int .i64 a0_5], .agg #[.int .i64 a1_4, .int .i64 a1_5]] rfl (by (try simp only [List.map_toArray, List.map_cons, List.map_nil]); first | done | rfl | (simp only [List.length_drop, List.length_take]; rfl)) ?_; (with_reducible refine (laws_eqRing.calls a0_4 a0_5 a1_4 a1_5 true _ A7.out).mono ?_); rintro e w33 ⟨rfl, hb⟩; refine ⟨_, rfl, ?_⟩; have n0_ := Aside0.mk (blk_below (g := gb347) (o := .cells #[.int .i64 a0_0, .int .i64 a0_1, .int .i64 a0_2, .int .i64 a0_3, .int .i64 a0_4, .int .i64 a0_5, .int .i64 a0_6, .int .i64 a0_7, .int .i64 a0_8] 41 (0, 0)) (by (with_reducible repeat (first | refine blk_drewN ?_ _ | refine blk_drew ?_ | refine blk_alloc ?_ _)); exact BK347.out) hb); have n1_ := Aside0.mk (blk_below (g := gb348) (o := .cells #[.int .i64 a1_0, .int .i64 a1_1, .int .i64 a1_2, .int .i64 a1_3, .int .i64 a1_4, .int .i64 a1_5, .int .i64 a1_6, .int .i64 a1_7, .int .i64 a1_8] 41 (0, 0)) (by (with_reducible repeat (first | refine blk_drewN ?_ _ | refine blk_drew ?_ | refine blk_alloc ?_ _)); exact BK348.out) hb); have n2_ := Aside0.mk (below_step (by repeat (first | (with_reducible first | exact HB.out | apply below_alloc | apply pw_below_drewN | apply below_drew1 | refine below_set ?_ GE347.out | refine below_set ?_ GE348.out) | exact HB.out)) hb); clear BK347; clear BK348; clear HB; have BK347 := n0_; have BK348 := n1_; have HB := n2_; clear n0_ n1_ n2_; (try clear hb); (try clear hb2); (try clear hk); (try clear hi); have hcz34_0 : w33.cell? ⟨gb347, 0, none⟩ = some (.int .i64 a0_0) := (blk_cell BK347.out 0).trans rfl; have hcz34_1 : w33.cell? ⟨gb347, 1, none⟩ = some (.int .i64 a0_1) := (blk_cell BK347.out 1).trans rfl; have hcz34_2 : w33.cell? ⟨gb347, 2, none⟩ = some (.int .i64 a0_2) := (blk_cell BK347.out 2).trans rfl; have hcz34_3 : w33.cell? ⟨gb347, 3, none⟩ = some (.int .i64 a0_3) := (blk_cell BK347.out 3).trans rfl; have hcz34_4 : w33.cell? ⟨gb347, 4, none⟩ = some (.int .i64 a0_4) := (blk_cell BK347.out 4).trans rfl; have hcz34_5 : w33.cell? ⟨gb347, 5, none⟩ = some (.int .i64 a0_5) := (blk_cell BK347.out 5).trans rfl; have hcz34_6 : w33.cell? ⟨gb347, 6, none⟩ = some (.int .i64 a0_6) := (blk_cell BK347.out 6).trans rfl; have hcz34_7 : w33.cell? ⟨gb347, 7, none⟩ = some (.int .i64 a0_7) := (blk_cell BK347.out 7).trans rfl; have hcz34_8 : w33.cell? ⟨gb347, 8, none⟩ = some (.int .i64 a0_8) := (blk_cell BK347.out 8).trans rfl; have hfz34_0 := blk_frozen BK347.out 0; have hfz34_1 := blk_frozen BK347.out 1; have hfz34_2 := blk_frozen BK347.out 2; have hfz34_3 := blk_frozen BK347.out 3; have hfz34_4 := blk_frozen BK347.out 4; have hfz34_5 := blk_frozen BK347.out 5; have hfz34_6 := blk_frozen BK347.out 6; have hfz34_7 := blk_frozen BK347.out 7; have hfz34_8 := blk_frozen BK347.out 8; have hcz35_0 : w33.cell? ⟨gb348, 0, none⟩ = some (.int .i64 a1_0) := (blk_cell BK348.out 0).trans rfl; have hcz35_1 : w33.cell? ⟨gb348, 1, none⟩ = some (.int .i64 a1_1) := (blk_cell BK348.out 1).trans rfl; have hcz35_2 : w33.cell? ⟨gb348, 2, none⟩ = some (.int .i64 a1_2) := (blk_cell BK348.out 2).trans rfl; have hcz35_3 : w33.cell? ⟨gb348, 3, none⟩ = some (.int .i64 a1_3) := (blk_cell BK348.out 3).trans rfl; have hcz35_4 : w33.cell? ⟨gb348, 4, none⟩ = some (.int .i64 a1_4) := (blk_cell BK348.out 4).trans rfl; have hcz35_5 : w33.cell? ⟨gb348, 5, none⟩ = some (.int .i64 a1_5) := (blk_cell BK348.out 5).trans rfl; have hcz35_6 : w33.cell? ⟨gb348, 6, none⟩ = some (.int .i64 a1_6) := (blk_cell BK348.out 6).trans rfl; have hcz35_7 : w33.cell? ⟨gb348, 7, none⟩ = some (.int .i64 a1_7) := (blk_cell BK348.out 7).trans rfl; have hcz35_8 : w33.cell? ⟨gb348, 8, none⟩ = some (.int .i64 a1_8) := (blk_cell BK348.out 8).trans rfl; have hfz35_0 := blk_frozen BK348.out 0; have hfz35_1 := blk_frozen BK348.out 1; have hfz35_2 := blk_frozen BK348.out 2; have hfz35_3 := blk_frozen BK348.out 3; have hfz35_4 := blk_frozen BK348.out 4; have hfz35_5 := blk_frozen BK348.out 5; have hfz35_6 := blk_frozen BK348.out 6; have hfz35_7 := blk_frozen BK348.out 7; have hfz35_8 := blk_frozen BK348.out 8))
                go_ret
                exact ⟨by first | rfl | (simp [errW_none, errW_some] <;> rfl) | (simp [*, errW_none, errW_some] <;> rfl), by repeat (first | (with_reducible first | exact HB.out | apply below_alloc | apply pw_below_drewN | apply below_drew1 | refine below_set ?_ GE347.out | refine below_set ?_ GE348.out) | exact HB.out)⟩
            · rw [if_neg c9] at H
              have c9b0 : (a0_6 == a1_6) = false := beq_eq_false_iff_ne.mpr c9
              have c9b1 : (a0_6 != a1_6) = true := bne_iff_ne.mpr c9
              obtain rfl := Option.some.inj H
              go_enter Tryd.func29, Tryd.ntmps29
              go_wp2_with (first | ((with_reducible refine gate_dst (N := 2) rfl ?_); refine box_event ?hg (N := 2) ?hd (cs := #[.int .i64 a0_0, .int .i64 a0_1, .int .i64 a0_2, .int .i64 a0_3, .int .i64 a0_4, .int .i64 a0_5, .int .i64 a0_6, .int .i64 a0_7, .int .i64 a0_8]) (t := 41) ?hr ?_; (case hd => rfl); (case hg => rfl); (case hr => first | (go_simp; done) | (go_simp; rfl)); intro gb347 hg w36 hbox hb; have n0_ := Aside0.mk (below_step (by repeat (first | (with_reducible first | exact HB.out | apply below_alloc | apply pw_below_drewN | apply below_drew1) | exact HB.out)) hb); have n1_ := Aside0.mk (hbox); have n2_ := Aside0.mk ((by rw [hg]; exact (below_size (by repeat (first | (with_reducible first | exact HB.out | apply below_alloc | apply pw_below_drewN | apply below_drew1) | exact HB.out))) : w.heap.size ≤ gb347)); have n3_ := Aside0.mk ((by rw [hg]; exact (below_size (by repeat (first | (with_reducible first | exact HB.out | apply below_alloc | apply pw_below_drewN | apply below_drew1) | exact HB.out))) : w.heap.size ≤ gb347)); clear HB; have HB := n0_; have BK347 := n1_; have GW347 := n2_; have GE347 := n3_; clear n0_ n1_ n2_ n3_; clear hb hbox hg) | ((with_reducible refine gate_dst (N := 3) rfl ?_); refine box_event ?hg (N := 3) ?hd (cs := #[.int .i64 a1_0, .int .i64 a1_1, .int .i64 a1_2, .int .i64 a1_3, .int .i64 a1_4, .int .i64 a1_5, .int .i64 a1_6, .int .i64 a1_7, .int .i64 a1_8]) (t := 41) ?hr ?_; (case hd => rfl); (case hg => rfl); (case hr => first | (go_simp; done) | (go_simp; rfl)); intro gb348 hg w37 hbox hb; have n0_ := Aside0.mk (blk_below (g := gb347) (o := .cells #[.int .i64 a0_0, .int .i64 a0_1, .int .i64 a0_2, .int .i64 a0_3, .int .i64 a0_4, .int .i64 a0_5, .int .i64 a0_6, .int .i64 a0_7, .int .i64 a0_8] 41 (0, 0)) (by (with_reducible repeat (first | refine blk_drewN ?_ _ | refine blk_drew ?_ | refine blk_alloc ?_ _)); exact BK347.out) hb); have n1_ := Aside0.mk (below_step (by repeat (first | (with_reducible first | exact HB.out | apply below_alloc | apply pw_below_drewN | apply below_drew1 | refine below_set ?_ GE347.out) | exact HB.out)) hb); have n2_ := Aside0.mk (hbox); have n3_ := Aside0.mk ((by rw [hg]; exact (below_size (by repeat (first | (with_reducible first | exact HB.out | apply below_alloc | apply pw_below_drewN | apply below_drew1 | refine below_set ?_ GE347.out) | exact HB.out))) : w.heap.size ≤ gb348)); have n4_ := Aside0.mk ((by rw [hg]; exact (below_size (by repeat (first | (with_reducible first | exact HB.out | apply below_alloc | apply pw_below_drewN | apply below_drew1 | refine below_set ?_ GE347.out) | exact HB.out))) : w.heap.size ≤ gb348)); have n5_ := Aside0.mk ((by rw [hg]; exact Nat.ne_of_lt (blk_lt (g := gb347) (o := .cells #[.int .i64 a0_0, .int .i64 a0_1, .int .i64 a0_2, .int .i64 a0_3, .int .i64 a0_4, .int .i64 a0_5, .int .i64 a0_6, .int .i64 a0_7, .int .i64 a0_8] 41 (0, 0)) (by (with_reducible repeat (first | refine blk_drewN ?_ _ | refine blk_drew ?_ | refine blk_alloc ?_ _)); exact BK347.out)) : gb347 ≠ gb348)); have n6_ := Aside0.mk ((by rw [hg]; exact Nat.ne_of_gt (blk_lt (g := gb347) (o := .cells #[.int .i64 a0_0, .int .i64 a0_1, .int .i64 a0_2, .int .i64 a0_3, .int .i64 a0_4, .int .i64 a0_5, .int .i64 a0_6, .int .i64 a0_7, .int .i64 a0_8] 41 (0, 0)) (by (with_reducible repeat (first | refine blk_drewN ?_ _ | refine blk_drew ?_ | refine blk_alloc ?_ _)); exact BK347.out)) : gb348 ≠ gb347)); clear BK347; clear HB; have BK347 := n0_; have HB := n1_; have BK348 := n2_; have GW348 := n3_; have GE348 := n4_; have NB347_348 := n5_; have NB348_347 := n6_; clear n0_ n1_ n2_ n3_ n4_ n5_ n6_; clear hb hbox hg; have hnb38 := NB347_348.out; have hnc38 := NB348_347.out; have hcz39_0 : w37.cell? ⟨gb347, 0, none⟩ = some (.int .i64 a0_0) := (blk_cell BK347.out 0).trans rfl; have hcz39_1 : w37.cell? ⟨gb347, 1, none⟩ = some (.int .i64 a0_1) := (blk_cell BK347.out 1).trans rfl; have hcz39_2 : w37.cell? ⟨gb347, 2, none⟩ = some (.int .i64 a0_2) := (blk_cell BK347.out 2).trans rfl; have hcz39_3 : w37.cell? ⟨gb347, 3, none⟩ = some (.int .i64 a0_3) := (blk_cell BK347.out 3).trans rfl; have hcz39_4 : w37.cell? ⟨gb347, 4, none⟩ = some (.int .i64 a0_4) := (blk_cell BK347.out 4).trans rfl; have hcz39_5 : w37.cell? ⟨gb347, 5, none⟩ = some (.int .i64 a0_5) := (blk_cell BK347.out 5).trans rfl; have hcz39_6 : w37.cell? ⟨gb347, 6, none⟩ = some (.int .i64 a0_6) := (blk_cell BK347.out 6).trans rfl; have hcz39_7 : w37.cell? ⟨gb347, 7, none⟩ = some (.int .i64 a0_7) := (blk_cell BK347.out 7).trans rfl; have hcz39_8 : w37.cell? ⟨gb347, 8, none⟩ = some (.int .i64 a0_8) := (blk_cell BK347.out 8).trans rfl; have hfz39_0 := blk_frozen BK347.out 0; have hfz39_1 := blk_frozen BK347.out 1; have hfz39_2 := blk_frozen BK347.out 2; have hfz39_3 := blk_frozen BK347.out 3; have hfz39_4 := blk_frozen BK347.out 4; have hfz39_5 := blk_frozen BK347.out 5; have hfz39_6 := blk_frozen BK347.out 6; have hfz39_7 := blk_frozen BK347.out 7; have hfz39_8 := blk_frozen BK347.out 8; have hcz40_0 : w37.cell? ⟨gb348, 0, none⟩ = some (.int .i64 a1_0) := (blk_cell BK348.out 0).trans rfl; have hcz40_1 : w37.cell? ⟨gb348, 1, none⟩ = some (.int .i64 a1_1) := (blk_cell BK348.out 1).trans rfl; have hcz40_2 : w37.cell? ⟨gb348, 2, none⟩ = some (.int .i64 a1_2) := (blk_cell BK348.out 2).trans rfl; have hcz40_3 : w37.cell? ⟨gb348, 3, none⟩ = some (.int .i64 a1_3) := (blk_cell BK348.out 3).trans rfl; have hcz40_4 : w37.cell? ⟨gb348, 4, none⟩ = some (.int .i64 a1_4) := (blk_cell BK348.out 4).trans rfl; have hcz40_5 : w37.cell? ⟨gb348, 5, none⟩ = some (.int .i64 a1_5) := (blk_cell BK348.out 5).trans rfl; have hcz40_6 : w37.cell? ⟨gb348, 6, none⟩ = some (.int .i64 a1_6) := (blk_cell BK348.out 6).trans rfl; have hcz40_7 : w37.cell? ⟨gb348, 7, none⟩ = some (.int .i64 a1_7) := (blk_cell BK348.out 7).trans rfl; have hcz40_8 : w37.cell? ⟨gb348, 8, none⟩ = some (.int .i64 a1_8) := (blk_cell BK348.out 8).trans rfl; have hfz40_0 := blk_frozen BK348.out 0; have hfz40_1 := blk_frozen BK348.out 1; have hfz40_2 := blk_frozen BK348.out 2; have hfz40_3 := blk_frozen BK348.out 3; have hfz40_4 := blk_frozen BK348.out 4; have hfz40_5 := blk_frozen BK348.out 5; have hfz40_6 := blk_frozen BK348.out 6; have hfz40_7 := blk_frozen BK348.out 7; have hfz40_8 := blk_frozen BK348.out 8) | ((with_reducible refine gate_callee (f := 62) rfl ?_); refine goesL_ (some 29) rfl rfl Tryd.func62 (by kernel_rfl) rfl #[.agg #[.int .i64 a0_4, .int .i64 a0_5], .agg #[.int .i64 a1_4, .int .i64 a1_5]] rfl (by (try simp only [List.map_toArray, List.map_cons, List.map_nil]); first | done | rfl | (simp only [List.length_drop, List.length_take]; rfl)) ?_; (with_reducible refine (laws_eqRing.calls a0_4 a0_5 a1_4 a1_5 true _ A7.out).mono ?_); rintro e w41 ⟨rfl, hb⟩; refine ⟨_, rfl, ?_⟩; have n0_ := Aside0.mk (blk_below (g := gb347) (o := .cells #[.int .i64 a0_0, .int .i64 a0_1, .int .i64 a0_2, .int .i64 a0_3, .int .i64 a0_4, .int .i64 a0_5, .int .i64 a0_6, .int .i64 a0_7, .int .i64 a0_8] 41 (0, 0)) (by (with_reducible repeat (first | refine blk_drewN ?_ _ | refine blk_drew ?_ | refine blk_alloc ?_ _)); exact BK347.out) hb); have n1_ := Aside0.mk (blk_below (g := gb348) (o := .cells #[.int .i64 a1_0, .int .i64 a1_1, .int .i64 a1_2, .int .i64 a1_3, .int .i64 a1_4, .int .i64 a1_5, .int .i64 a1_6, .int .i64 a1_7, .int .i64 a1_8] 41 (0, 0)) (by (with_reducible repeat (first | refine blk_drewN ?_ _ | refine blk_drew ?_ | refine blk_alloc ?_ _)); exact BK348.out) hb); have n2_ := Aside0.mk (below_step (by repeat (first | (with_reducible first | exact HB.out | apply below_alloc | apply pw_below_drewN | apply below_drew1 | refine below_set ?_ GE347.out | refine below_set ?_ GE348.out) | exact HB.out)) hb); clear BK347; clear BK348; clear HB; have BK347 := n0_; have BK348 := n1_; have HB := n2_; clear n0_ n1_ n2_; (try clear hb); (try clear hb2); (try clear hk); (try clear hi); have hcz42_0 : w41.cell? ⟨gb347, 0, none⟩ = some (.int .i64 a0_0) := (blk_cell BK347.out 0).trans rfl; have hcz42_1 : w41.cell? ⟨gb347, 1, none⟩ = some (.int .i64 a0_1) := (blk_cell BK347.out 1).trans rfl; have hcz42_2 : w41.cell? ⟨gb347, 2, none⟩ = some (.int .i64 a0_2) := (blk_cell BK347.out 2).trans rfl; have hcz42_3 : w41.cell? ⟨gb347, 3, none⟩ = some (.int .i64 a0_3) := (blk_cell BK347.out 3).trans rfl; have hcz42_4 : w41.cell? ⟨gb347, 4, none⟩ = some (.int .i64 a0_4) := (blk_cell BK347.out 4).trans rfl; have hcz42_5 : w41.cell? ⟨gb347, 5, none⟩ = some (.int .i64 a0_5) := (blk_cell BK347.out 5).trans rfl; have hcz42_6 : w41.cell? ⟨gb347, 6, none⟩ = some (.int .i64 a0_6) := (blk_cell BK347.out 6).trans rfl; have hcz42_7 : w41.cell? ⟨gb347, 7, none⟩ = some (.int .i64 a0_7) := (blk_cell BK347.out 7).trans rfl; have hcz42_8 : w41.cell? ⟨gb347, 8, none⟩ = some (.int .i64 a0_8) := (blk_cell BK347.out 8).trans rfl; have hfz42_0 := blk_frozen BK347.out 0; have hfz42_1 := blk_frozen BK347.out 1; have hfz42_2 := blk_frozen BK347.out 2; have hfz42_3 := blk_frozen BK347.out 3; have hfz42_4 := blk_frozen BK347.out 4; have hfz42_5 := blk_frozen BK347.out 5; have hfz42_6 := blk_frozen BK347.out 6; have hfz42_7 := blk_frozen BK347.out 7; have hfz42_8 := blk_frozen BK347.out 8; have hcz43_0 : w41.cell? ⟨gb348, 0, none⟩ = some (.int .i64 a1_0) := (blk_cell BK348.out 0).trans rfl; have hcz43_1 : w41.cell? ⟨gb348, 1, none⟩ = some (.int .i64 a1_1) := (blk_cell BK348.out 1).trans rfl; have hcz43_2 : w41.cell? ⟨gb348, 2, none⟩ = some (.int .i64 a1_2) := (blk_cell BK348.out 2).trans rfl; have hcz43_3 : w41.cell? ⟨gb348, 3, none⟩ = some (.int .i64 a1_3) := (blk_cell BK348.out 3).trans rfl; have hcz43_4 : w41.cell? ⟨gb348, 4, none⟩ = some (.int .i64 a1_4) := (blk_cell BK348.out 4).trans rfl; have hcz43_5 : w41.cell? ⟨gb348, 5, none⟩ = some (.int .i64 a1_5) := (blk_cell BK348.out 5).trans rfl; have hcz43_6 : w41.cell? ⟨gb348, 6, none⟩ = some (.int .i64 a1_6) := (blk_cell BK348.out 6).trans rfl; have hcz43_7 : w41.cell? ⟨gb348, 7, none⟩ = some (.int .i64 a1_7) := (blk_cell BK348.out 7).trans rfl; have hcz43_8 : w41.cell? ⟨gb348, 8, none⟩ = some (.int .i64 a1_8) := (blk_cell BK348.out 8).trans rfl; have hfz43_0 := blk_frozen BK348.out 0; have hfz43_1 := blk_frozen BK348.out 1; have hfz43_2 := blk_frozen BK348.out 2; have hfz43_3 := blk_frozen BK348.out 3; have hfz43_4 := blk_frozen BK348.out 4; have hfz43_5 := blk_frozen BK348.out 5; have hfz43_6 := blk_frozen BK348.out 6; have hfz43_7 := blk_frozen BK348.out 7; have hfz43_8 := blk_frozen BK348.out 8))
              go_ret
              exact ⟨by first | rfl | (simp [errW_none, errW_some] <;> rfl) | (simp [*, errW_none, errW_some] <;> rfl), by repeat (first | (with_reducible first | exact HB.out | apply below_alloc | apply pw_below_drewN | apply below_drew1 | refine below_set ?_ GE347.out | refine below_set ?_ GE348.out) | exact HB.out)⟩
          · replace c8 := Bool.eq_false_iff.mpr c8
            subst c8
            have H1 : (some false) = some r := by rw [if_neg (show ¬ (false = true) by decide)] at H; exact H
            clear H
            have H := H1
            clear H1
            obtain rfl := Option.some.inj H
            go_enter Tryd.func29, Tryd.ntmps29
            go_wp2_with (first | ((with_reducible refine gate_dst (N := 2) rfl ?_); refine box_event ?hg (N := 2) ?hd (cs := #[.int .i64 a0_0, .int .i64 a0_1, .int .i64 a0_2, .int .i64 a0_3, .int .i64 a0_4, .int .i64 a0_5, .int .i64 a0_6, .int .i64 a0_7, .int .i64 a0_8]) (t := 41) ?hr ?_; (case hd => rfl); (case hg => rfl); (case hr => first | (go_simp; done) | (go_simp; rfl)); intro gb347 hg w44 hbox hb; have n0_ := Aside0.mk (below_step (by repeat (first | (with_reducible first | exact HB.out | apply below_alloc | apply pw_below_drewN | apply below_drew1) | exact HB.out)) hb); have n1_ := Aside0.mk (hbox); have n2_ := Aside0.mk ((by rw [hg]; exact (below_size (by repeat (first | (with_reducible first | exact HB.out | apply below_alloc | apply pw_below_drewN | apply below_drew1) | exact HB.out))) : w.heap.size ≤ gb347)); have n3_ := Aside0.mk ((by rw [hg]; exact (below_size (by repeat (first | (with_reducible first | exact HB.out | apply below_alloc | apply pw_below_drewN | apply below_drew1) | exact HB.out))) : w.heap.size ≤ gb347)); clear HB; have HB := n0_; have BK347 := n1_; have GW347 := n2_; have GE347 := n3_; clear n0_ n1_ n2_ n3_; clear hb hbox hg) | ((with_reducible refine gate_dst (N := 3) rfl ?_); refine box_event ?hg (N := 3) ?hd (cs := #[.int .i64 a1_0, .int .i64 a1_1, .int .i64 a1_2, .int .i64 a1_3, .int .i64 a1_4, .int .i64 a1_5, .int .i64 a1_6, .int .i64 a1_7, .int .i64 a1_8]) (t := 41) ?hr ?_; (case hd => rfl); (case hg => rfl); (case hr => first | (go_simp; done) | (go_simp; rfl)); intro gb348 hg w45 hbox hb; have n0_ := Aside0.mk (blk_below (g := gb347) (o := .cells #[.int .i64 a0_0, .int .i64 a0_1, .int .i64 a0_2, .int .i64 a0_3, .int .i64 a0_4, .int .i64 a0_5, .int .i64 a0_6, .int .i64 a0_7, .int .i64 a0_8] 41 (0, 0)) (by (with_reducible repeat (first | refine blk_drewN ?_ _ | refine blk_drew ?_ | refine blk_alloc ?_ _)); exact BK347.out) hb); have n1_ := Aside0.mk (below_step (by repeat (first | (with_reducible first | exact HB.out | apply below_alloc | apply pw_below_drewN | apply below_drew1 | refine below_set ?_ GE347.out) | exact HB.out)) hb); have n2_ := Aside0.mk (hbox); have n3_ := Aside0.mk ((by rw [hg]; exact (below_size (by repeat (first | (with_reducible first | exact HB.out | apply below_alloc | apply pw_below_drewN | apply below_drew1 | refine below_set ?_ GE347.out) | exact HB.out))) : w.heap.size ≤ gb348)); have n4_ := Aside0.mk ((by rw [hg]; exact (below_size (by repeat (first | (with_reducible first | exact HB.out | apply below_alloc | apply pw_below_drewN | apply below_drew1 | refine below_set ?_ GE347.out) | exact HB.out))) : w.heap.size ≤ gb348)); have n5_ := Aside0.mk ((by rw [hg]; exact Nat.ne_of_lt (blk_lt (g := gb347) (o := .cells #[.int .i64 a0_0, .int .i64 a0_1, .int .i64 a0_2, .int .i64 a0_3, .int .i64 a0_4, .int .i64 a0_5, .int .i64 a0_6, .int .i64 a0_7, .int .i64 a0_8] 41 (0, 0)) (by (with_reducible repeat (first | refine blk_drewN ?_ _ | refine blk_drew ?_ | refine blk_alloc ?_ _)); exact BK347.out)) : gb347 ≠ gb348)); have n6_ := Aside0.mk ((by rw [hg]; exact Nat.ne_of_gt (blk_lt (g := gb347) (o := .cells #[.int .i64 a0_0, .int .i64 a0_1, .int .i64 a0_2, .int .i64 a0_3, .int .i64 a0_4, .int .i64 a0_5, .int .i64 a0_6, .int .i64 a0_7, .int .i64 a0_8] 41 (0, 0)) (by (with_reducible repeat (first | refine blk_drewN ?_ _ | refine blk_drew ?_ | refine blk_alloc ?_ _)); exact BK347.out)) : gb348 ≠ gb347)); clear BK347; clear HB; have BK347 := n0_; have HB := n1_; have BK348 := n2_; have GW348 := n3_; have GE348 := n4_; have NB347_348 := n5_; have NB348_347 := n6_; clear n0_ n1_ n2_ n3_ n4_ n5_ n6_; clear hb hbox hg; have hnb46 := NB347_348.out; have hnc46 := NB348_347.out; have hcz47_0 : w45.cell? ⟨gb347, 0, none⟩ = some (.int .i64 a0_0) := (blk_cell BK347.out 0).trans rfl; have hcz47_1 : w45.cell? ⟨gb347, 1, none⟩ = some (.int .i64 a0_1) := (blk_cell BK347.out 1).trans rfl; have hcz47_2 : w45.cell? ⟨gb347, 2, none⟩ = some (.int .i64 a0_2) := (blk_cell BK347.out 2).trans rfl; have hcz47_3 : w45.cell? ⟨gb347, 3, none⟩ = some (.int .i64 a0_3) := (blk_cell BK347.out 3).trans rfl; have hcz47_4 : w45.cell? ⟨gb347, 4, none⟩ = some (.int .i64 a0_4) := (blk_cell BK347.out 4).trans rfl; have hcz47_5 : w45.cell? ⟨gb347, 5, none⟩ = some (.int .i64 a0_5) := (blk_cell BK347.out 5).trans rfl; have hcz47_6 : w45.cell? ⟨gb347, 6, none⟩ = some (.int .i64 a0_6) := (blk_cell BK347.out 6).trans rfl; have hcz47_7 : w45.cell? ⟨gb347, 7, none⟩ = some (.int .i64 a0_7) := (blk_cell BK347.out 7).trans rfl; have hcz47_8 : w45.cell? ⟨gb347, 8, none⟩ = some (.int .i64 a0_8) := (blk_cell BK347.out 8).trans rfl; have hfz47_0 := blk_frozen BK347.out 0; have hfz47_1 := blk_frozen BK347.out 1; have hfz47_2 := blk_frozen BK347.out 2; have hfz47_3 := blk_frozen BK347.out 3; have hfz47_4 := blk_frozen BK347.out 4; have hfz47_5 := blk_frozen BK347.out 5; have hfz47_6 := blk_frozen BK347.out 6; have hfz47_7 := blk_frozen BK347.out 7; have hfz47_8 := blk_frozen BK347.out 8; have hcz48_0 : w45.cell? ⟨gb348, 0, none⟩ = some (.int .i64 a1_0) := (blk_cell BK348.out 0).trans rfl; have hcz48_1 : w45.cell? ⟨gb348, 1, none⟩ = some (.int .i64 a1_1) := (blk_cell BK348.out 1).trans rfl; have hcz48_2 : w45.cell? ⟨gb348, 2, none⟩ = some (.int .i64 a1_2) := (blk_cell BK348.out 2).trans rfl; have hcz48_3 : w45.cell? ⟨gb348, 3, none⟩ = some (.int .i64 a1_3) := (blk_cell BK348.out 3).trans rfl; have hcz48_4 : w45.cell? ⟨gb348, 4, none⟩ = some (.int .i64 a1_4) := (blk_cell BK348.out 4).trans rfl; have hcz48_5 : w45.cell? ⟨gb348, 5, none⟩ = some (.int .i64 a1_5) := (blk_cell BK348.out 5).trans rfl; have hcz48_6 : w45.cell? ⟨gb348, 6, none⟩ = some (.int .i64 a1_6) := (blk_cell BK348.out 6).trans rfl; have hcz48_7 : w45.cell? ⟨gb348, 7, none⟩ = some (.int .i64 a1_7) := (blk_cell BK348.out 7).trans rfl; have hcz48_8 : w45.cell? ⟨gb348, 8, none⟩ = some (.int .i64 a1_8) := (blk_cell BK348.out 8).trans rfl; have hfz48_0 := blk_frozen BK348.out 0; have hfz48_1 := blk_frozen BK348.out 1; have hfz48_2 := blk_frozen BK348.out 2; have hfz48_3 := blk_frozen BK348.out 3; have hfz48_4 := blk_frozen BK348.out 4; have hfz48_5 := blk_frozen BK348.out 5; have hfz48_6 := blk_frozen BK348.out 6; have hfz48_7 := blk_frozen BK348.out 7; have hfz48_8 := blk_frozen BK348.out 8) | ((with_reducible refine gate_callee (f := 62) rfl ?_); refine goesL_ (some 29) rfl rfl Tryd.func62 (by kernel_rfl) rfl #[.agg #[.int .i64 a0_4, .int .i64 a0_5], .agg #[.int .i64 a1_4, .int .i64 a1_5]] rfl (by (try simp only [List.map_toArray, List.map_cons, List.map_nil]); first | done | rfl | (simp only [List.length_drop, List.length_take]; rfl)) ?_; (with_reducible refine (laws_eqRing.calls a0_4 a0_5 a1_4 a1_5 false _ A7.out).mono ?_); rintro e w49 ⟨rfl, hb⟩; refine ⟨_, rfl, ?_⟩; have n0_ := Aside0.mk (blk_below (g := gb347) (o := .cells #[.int .i64 a0_0, .int .i64 a0_1, .int .i64 a0_2, .int .i64 a0_3, .int .i64 a0_4, .int .i64 a0_5, .int .i64 a0_6, .int .i64 a0_7, .int .i64 a0_8] 41 (0, 0)) (by (with_reducible repeat (first | refine blk_drewN ?_ _ | refine blk_drew ?_ | refine blk_alloc ?_ _)); exact BK347.out) hb); have n1_ := Aside0.mk (blk_below (g := gb348) (o := .cells #[.int .i64 a1_0, .int .i64 a1_1, .int .i64 a1_2, .int .i64 a1_3, .int .i64 a1_4, .int .i64 a1_5, .int .i64 a1_6, .int .i64 a1_7, .int .i64 a1_8] 41 (0, 0)) (by (with_reducible repeat (first | refine blk_drewN ?_ _ | refine blk_drew ?_ | refine blk_alloc ?_ _)); exact BK348.out) hb); have n2_ := Aside0.mk (below_step (by repeat (first | (with_reducible first | exact HB.out | apply below_alloc | apply pw_below_drewN | apply below_drew1 | refine below_set ?_ GE347.out | refine below_set ?_ GE348.out) | exact HB.out)) hb); clear BK347; clear BK348; clear HB; have BK347 := n0_; have BK348 := n1_; have HB := n2_; clear n0_ n1_ n2_; (try clear hb); (try clear hb2); (try clear hk); (try clear hi)))
            go_ret
            exact ⟨by first | rfl | (simp [errW_none, errW_some] <;> rfl) | (simp [*, errW_none, errW_some] <;> rfl), by repeat (first | (with_reducible first | exact HB.out | apply below_alloc | apply pw_below_drewN | apply below_drew1 | refine below_set ?_ GE347.out | refine below_set ?_ GE348.out) | exact HB.out)⟩
        · rw [if_neg c6] at H
          have c6b0 : (a0_3 == a1_3) = false := beq_eq_false_iff_ne.mpr c6
          have c6b1 : (a0_3 != a1_3) = true := bne_iff_ne.mpr c6
          obtain rfl := Option.some.inj H
          go_enter Tryd.func29, Tryd.ntmps29
          go_wp2_with (first | ((with_reducible refine gate_dst (N := 2) rfl ?_); refine box_event ?hg (N := 2) ?hd (cs := #[.int .i64 a0_0, .int .i64 a0_1, .int .i64 a0_2, .int .i64 a0_3, .int .i64 a0_4, .int .i64 a0_5, .int .i64 a0_6, .int .i64 a0_7, .int .i64 a0_8]) (t := 41) ?hr ?_; (case hd => rfl); (case hg => rfl); (case hr => first | (go_simp; done) | (go_simp; rfl)); intro gb347 hg w50 hbox hb; have n0_ := Aside0.mk (below_step (by repeat (first | (with_reducible first | exact HB.out | apply below_alloc | apply pw_below_drewN | apply below_drew1) | exact HB.out)) hb); have n1_ := Aside0.mk (hbox); have n2_ := Aside0.mk ((by rw [hg]; exact (below_size (by repeat (first | (with_reducible first | exact HB.out | apply below_alloc | apply pw_below_drewN | apply below_drew1) | exact HB.out))) : w.heap.size ≤ gb347)); have n3_ := Aside0.mk ((by rw [hg]; exact (below_size (by repeat (first | (with_reducible first | exact HB.out | apply below_alloc | apply pw_below_drewN | apply below_drew1) | exact HB.out))) : w.heap.size ≤ gb347)); clear HB; have HB := n0_; have BK347 := n1_; have GW347 := n2_; have GE347 := n3_; clear n0_ n1_ n2_ n3_; clear hb hbox hg) | ((with_reducible refine gate_dst (N := 3) rfl ?_); refine box_event ?hg (N := 3) ?hd (cs := #[.int .i64 a1_0, .int .i64 a1_1, .int .i64 a1_2, .int .i64 a1_3, .int .i64 a1_4, .int .i64 a1_5, .int .i64 a1_6, .int .i64 a1_7, .int .i64 a1_8]) (t := 41) ?hr ?_; (case hd => rfl); (case hg => rfl); (case hr => first | (go_simp; done) | (go_simp; rfl)); intro gb348 hg w51 hbox hb; have n0_ := Aside0.mk (blk_below (g := gb347) (o := .cells #[.int .i64 a0_0, .int .i64 a0_1, .int .i64 a0_2, .int .i64 a0_3, .int .i64 a0_4, .int .i64 a0_5, .int .i64 a0_6, .int .i64 a0_7, .int .i64 a0_8] 41 (0, 0)) (by (with_reducible repeat (first | refine blk_drewN ?_ _ | refine blk_drew ?_ | refine blk_alloc ?_ _)); exact BK347.out) hb); have n1_ := Aside0.mk (below_step (by repeat (first | (with_reducible first | exact HB.out | apply below_alloc | apply pw_below_drewN | apply below_drew1 | refine below_set ?_ GE347.out) | exact HB.out)) hb); have n2_ := Aside0.mk (hbox); have n3_ := Aside0.mk ((by rw [hg]; exact (below_size (by repeat (first | (with_reducible first | exact HB.out | apply below_alloc | apply pw_below_drewN | apply below_drew1 | refine below_set ?_ GE347.out) | exact HB.out))) : w.heap.size ≤ gb348)); have n4_ := Aside0.mk ((by rw [hg]; exact (below_size (by repeat (first | (with_reducible first | exact HB.out | apply below_alloc | apply pw_below_drewN | apply below_drew1 | refine below_set ?_ GE347.out) | exact HB.out))) : w.heap.size ≤ gb348)); have n5_ := Aside0.mk ((by rw [hg]; exact Nat.ne_of_lt (blk_lt (g := gb347) (o := .cells #[.int .i64 a0_0, .int .i64 a0_1, .int .i64 a0_2, .int .i64 a0_3, .int .i64 a0_4, .int .i64 a0_5, .int .i64 a0_6, .int .i64 a0_7, .int .i64 a0_8] 41 (0, 0)) (by (with_reducible repeat (first | refine blk_drewN ?_ _ | refine blk_drew ?_ | refine blk_alloc ?_ _)); exact BK347.out)) : gb347 ≠ gb348)); have n6_ := Aside0.mk ((by rw [hg]; exact Nat.ne_of_gt (blk_lt (g := gb347) (o := .cells #[.int .i64 a0_0, .int .i64 a0_1, .int .i64 a0_2, .int .i64 a0_3, .int .i64 a0_4, .int .i64 a0_5, .int .i64 a0_6, .int .i64 a0_7, .int .i64 a0_8] 41 (0, 0)) (by (with_reducible repeat (first | refine blk_drewN ?_ _ | refine blk_drew ?_ | refine blk_alloc ?_ _)); exact BK347.out)) : gb348 ≠ gb347)); clear BK347; clear HB; have BK347 := n0_; have HB := n1_; have BK348 := n2_; have GW348 := n3_; have GE348 := n4_; have NB347_348 := n5_; have NB348_347 := n6_; clear n0_ n1_ n2_ n3_ n4_ n5_ n6_; clear hb hbox hg; have hnb52 := NB347_348.out; have hnc52 := NB348_347.out; have hcz53_0 : w51.cell? ⟨gb347, 0, none⟩ = some (.int .i64 a0_0) := (blk_cell BK347.out 0).trans rfl; have hcz53_1 : w51.cell? ⟨gb347, 1, none⟩ = some (.int .i64 a0_1) := (blk_cell BK347.out 1).trans rfl; have hcz53_2 : w51.cell? ⟨gb347, 2, none⟩ = some (.int .i64 a0_2) := (blk_cell BK347.out 2).trans rfl; have hcz53_3 : w51.cell? ⟨gb347, 3, none⟩ = some (.int .i64 a0_3) := (blk_cell BK347.out 3).trans rfl; have hcz53_4 : w51.cell? ⟨gb347, 4, none⟩ = some (.int .i64 a0_4) := (blk_cell BK347.out 4).trans rfl; have hcz53_5 : w51.cell? ⟨gb347, 5, none⟩ = some (.int .i64 a0_5) := (blk_cell BK347.out 5).trans rfl; have hcz53_6 : w51.cell? ⟨gb347, 6, none⟩ = some (.int .i64 a0_6) := (blk_cell BK347.out 6).trans rfl; have hcz53_7 : w51.cell? ⟨gb347, 7, none⟩ = some (.int .i64 a0_7) := (blk_cell BK347.out 7).trans rfl; have hcz53_8 : w51.cell? ⟨gb347, 8, none⟩ = some (.int .i64 a0_8) := (blk_cell BK347.out 8).trans rfl; have hfz53_0 := blk_frozen BK347.out 0; have hfz53_1 := blk_frozen BK347.out 1; have hfz53_2 := blk_frozen BK347.out 2; have hfz53_3 := blk_frozen BK347.out 3; have hfz53_4 := blk_frozen BK347.out 4; have hfz53_5 := blk_frozen BK347.out 5; have hfz53_6 := blk_frozen BK347.out 6; have hfz53_7 := blk_frozen BK347.out 7; have hfz53_8 := blk_frozen BK347.out 8; have hcz54_0 : w51.cell? ⟨gb348, 0, none⟩ = some (.int .i64 a1_0) := (blk_cell BK348.out 0).trans rfl; have hcz54_1 : w51.cell? ⟨gb348, 1, none⟩ = some (.int .i64 a1_1) := (blk_cell BK348.out 1).trans rfl; have hcz54_2 : w51.cell? ⟨gb348, 2, none⟩ = some (.int .i64 a1_2) := (blk_cell BK348.out 2).trans rfl; have hcz54_3 : w51.cell? ⟨gb348, 3, none⟩ = some (.int .i64 a1_3) := (blk_cell BK348.out 3).trans rfl; have hcz54_4 : w51.cell? ⟨gb348, 4, none⟩ = some (.int .i64 a1_4) := (blk_cell BK348.out 4).trans rfl; have hcz54_5 : w51.cell? ⟨gb348, 5, none⟩ = some (.int .i64 a1_5) := (blk_cell BK348.out 5).trans rfl; have hcz54_6 : w51.cell? ⟨gb348, 6, none⟩ = some (.int .i64 a1_6) := (blk_cell BK348.out 6).trans rfl; have hcz54_7 : w51.cell? ⟨gb348, 7, none⟩ = some (.int .i64 a1_7) := (blk_cell BK348.out 7).trans rfl; have hcz54_8 : w51.cell? ⟨gb348, 8, none⟩ = some (.int .i64 a1_8) := (blk_cell BK348.out 8).trans rfl; have hfz54_0 := blk_frozen BK348.out 0; have hfz54_1 := blk_frozen BK348.out 1; have hfz54_2 := blk_frozen BK348.out 2; have hfz54_3 := blk_frozen BK348.out 3; have hfz54_4 := blk_frozen BK348.out 4; have hfz54_5 := blk_frozen BK348.out 5; have hfz54_6 := blk_frozen BK348.out 6; have hfz54_7 := blk_frozen BK348.out 7; have hfz54_8 := blk_frozen BK348.out 8))
          go_ret
          exact ⟨by first | rfl | (simp [errW_none, errW_some] <;> rfl) | (simp [*, errW_none, errW_some] <;> rfl), by repeat (first | (with_reducible first | exact HB.out | apply below_alloc | apply pw_below_drewN | apply below_drew1 | refine below_set ?_ GE347.out | refine below_set ?_ GE348.out) | exact HB.out)⟩
      · rw [if_neg c5] at H
        have c5b0 : (a0_2 == a1_2) = false := beq_eq_false_iff_ne.mpr c5
        have c5b1 : (a0_2 != a1_2) = true := bne_iff_ne.mpr c5
        obtain rfl := Option.some.inj H
        go_enter Tryd.func29, Tryd.ntmps29
        go_wp2_with (first | ((with_reducible refine gate_dst (N := 2) rfl ?_); refine box_event ?hg (N := 2) ?hd (cs := #[.int .i64 a0_0, .int .i64 a0_1, .int .i64 a0_2, .int .i64 a0_3, .int .i64 a0_4, .int .i64 a0_5, .int .i64 a0_6, .int .i64 a0_7, .int .i64 a0_8]) (t := 41) ?hr ?_; (case hd => rfl); (case hg => rfl); (case hr => first | (go_simp; done) | (go_simp; rfl)); intro gb347 hg w55 hbox hb; have n0_ := Aside0.mk (below_step (by repeat (first | (with_reducible first | exact HB.out | apply below_alloc | apply pw_below_drewN | apply below_drew1) | exact HB.out)) hb); have n1_ := Aside0.mk (hbox); have n2_ := Aside0.mk ((by rw [hg]; exact (below_size (by repeat (first | (with_reducible first | exact HB.out | apply below_alloc | apply pw_below_drewN | apply below_drew1) | exact HB.out))) : w.heap.size ≤ gb347)); have n3_ := Aside0.mk ((by rw [hg]; exact (below_size (by repeat (first | (with_reducible first | exact HB.out | apply below_alloc | apply pw_below_drewN | apply below_drew1) | exact HB.out))) : w.heap.size ≤ gb347)); clear HB; have HB := n0_; have BK347 := n1_; have GW347 := n2_; have GE347 := n3_; clear n0_ n1_ n2_ n3_; clear hb hbox hg) | ((with_reducible refine gate_dst (N := 3) rfl ?_); refine box_event ?hg (N := 3) ?hd (cs := #[.int .i64 a1_0, .int .i64 a1_1, .int .i64 a1_2, .int .i64 a1_3, .int .i64 a1_4, .int .i64 a1_5, .int .i64 a1_6, .int .i64 a1_7, .int .i64 a1_8]) (t := 41) ?hr ?_; (case hd => rfl); (case hg => rfl); (case hr => first | (go_simp; done) | (go_simp; rfl)); intro gb348 hg w56 hbox hb; have n0_ := Aside0.mk (blk_below (g := gb347) (o := .cells #[.int .i64 a0_0, .int .i64 a0_1, .int .i64 a0_2, .int .i64 a0_3, .int .i64 a0_4, .int .i64 a0_5, .int .i64 a0_6, .int .i64 a0_7, .int .i64 a0_8] 41 (0, 0)) (by (with_reducible repeat (first | refine blk_drewN ?_ _ | refine blk_drew ?_ | refine blk_alloc ?_ _)); exact BK347.out) hb); have n1_ := Aside0.mk (below_step (by repeat (first | (with_reducible first | exact HB.out | apply below_alloc | apply pw_below_drewN | apply below_drew1 | refine below_set ?_ GE347.out) | exact HB.out)) hb); have n2_ := Aside0.mk (hbox); have n3_ := Aside0.mk ((by rw [hg]; exact (below_size (by repeat (first | (with_reducible first | exact HB.out | apply below_alloc | apply pw_below_drewN | apply below_drew1 | refine below_set ?_ GE347.out) | exact HB.out))) : w.heap.size ≤ gb348)); have n4_ := Aside0.mk ((by rw [hg]; exact (below_size (by repeat (first | (with_reducible first | exact HB.out | apply below_alloc | apply pw_below_drewN | apply below_drew1 | refine below_set ?_ GE347.out) | exact HB.out))) : w.heap.size ≤ gb348)); have n5_ := Aside0.mk ((by rw [hg]; exact Nat.ne_of_lt (blk_lt (g := gb347) (o := .cells #[.int .i64 a0_0, .int .i64 a0_1, .int .i64 a0_2, .int .i64 a0_3, .int .i64 a0_4, .int .i64 a0_5, .int .i64 a0_6, .int .i64 a0_7, .int .i64 a0_8] 41 (0, 0)) (by (with_reducible repeat (first | refine blk_drewN ?_ _ | refine blk_drew ?_ | refine blk_alloc ?_ _)); exact BK347.out)) : gb347 ≠ gb348)); have n6_ := Aside0.mk ((by rw [hg]; exact Nat.ne_of_gt (blk_lt (g := gb347) (o := .cells #[.int .i64 a0_0, .int .i64 a0_1, .int .i64 a0_2, .int .i64 a0_3, .int .i64 a0_4, .int .i64 a0_5, .int .i64 a0_6, .int .i64 a0_7, .int .i64 a0_8] 41 (0, 0)) (by (with_reducible repeat (first | refine blk_drewN ?_ _ | refine blk_drew ?_ | refine blk_alloc ?_ _)); exact BK347.out)) : gb348 ≠ gb347)); clear BK347; clear HB; have BK347 := n0_; have HB := n1_; have BK348 := n2_; have GW348 := n3_; have GE348 := n4_; have NB347_348 := n5_; have NB348_347 := n6_; clear n0_ n1_ n2_ n3_ n4_ n5_ n6_; clear hb hbox hg; have hnb57 := NB347_348.out; have hnc57 := NB348_347.out; have hcz58_0 : w56.cell? ⟨gb347, 0, none⟩ = some (.int .i64 a0_0) := (blk_cell BK347.out 0).trans rfl; have hcz58_1 : w56.cell? ⟨gb347, 1, none⟩ = some (.int .i64 a0_1) := (blk_cell BK347.out 1).trans rfl; have hcz58_2 : w56.cell? ⟨gb347, 2, none⟩ = some (.int .i64 a0_2) := (blk_cell BK347.out 2).trans rfl; have hcz58_3 : w56.cell? ⟨gb347, 3, none⟩ = some (.int .i64 a0_3) := (blk_cell BK347.out 3).trans rfl; have hcz58_4 : w56.cell? ⟨gb347, 4, none⟩ = some (.int .i64 a0_4) := (blk_cell BK347.out 4).trans rfl; have hcz58_5 : w56.cell? ⟨gb347, 5, none⟩ = some (.int .i64 a0_5) := (blk_cell BK347.out 5).trans rfl; have hcz58_6 : w56.cell? ⟨gb347, 6, none⟩ = some (.int .i64 a0_6) := (blk_cell BK347.out 6).trans rfl; have hcz58_7 : w56.cell? ⟨gb347, 7, none⟩ = some (.int .i64 a0_7) := (blk_cell BK347.out 7).trans rfl; have hcz58_8 : w56.cell? ⟨gb347, 8, none⟩ = some (.int .i64 a0_8) := (blk_cell BK347.out 8).trans rfl; have hfz58_0 := blk_frozen BK347.out 0; have hfz58_1 := blk_frozen BK347.out 1; have hfz58_2 := blk_frozen BK347.out 2; have hfz58_3 := blk_frozen BK347.out 3; have hfz58_4 := blk_frozen BK347.out 4; have hfz58_5 := blk_frozen BK347.out 5; have hfz58_6 := blk_frozen BK347.out 6; have hfz58_7 := blk_frozen BK347.out 7; have hfz58_8 := blk_frozen BK347.out 8; have hcz59_0 : w56.cell? ⟨gb348, 0, none⟩ = some (.int .i64 a1_0) := (blk_cell BK348.out 0).trans rfl; have hcz59_1 : w56.cell? ⟨gb348, 1, none⟩ = some (.int .i64 a1_1) := (blk_cell BK348.out 1).trans rfl; have hcz59_2 : w56.cell? ⟨gb348, 2, none⟩ = some (.int .i64 a1_2) := (blk_cell BK348.out 2).trans rfl; have hcz59_3 : w56.cell? ⟨gb348, 3, none⟩ = some (.int .i64 a1_3) := (blk_cell BK348.out 3).trans rfl; have hcz59_4 : w56.cell? ⟨gb348, 4, none⟩ = some (.int .i64 a1_4) := (blk_cell BK348.out 4).trans rfl; have hcz59_5 : w56.cell? ⟨gb348, 5, none⟩ = some (.int .i64 a1_5) := (blk_cell BK348.out 5).trans rfl; have hcz59_6 : w56.cell? ⟨gb348, 6, none⟩ = some (.int .i64 a1_6) := (blk_cell BK348.out 6).trans rfl; have hcz59_7 : w56.cell? ⟨gb348, 7, none⟩ = some (.int .i64 a1_7) := (blk_cell BK348.out 7).trans rfl; have hcz59_8 : w56.cell? ⟨gb348, 8, none⟩ = some (.int .i64 a1_8) := (blk_cell BK348.out 8).trans rfl; have hfz59_0 := blk_frozen BK348.out 0; have hfz59_1 := blk_frozen BK348.out 1; have hfz59_2 := blk_frozen BK348.out 2; have hfz59_3 := blk_frozen BK348.out 3; have hfz59_4 := blk_frozen BK348.out 4; have hfz59_5 := blk_frozen BK348.out 5; have hfz59_6 := blk_frozen BK348.out 6; have hfz59_7 := blk_frozen BK348.out 7; have hfz59_8 := blk_frozen BK348.out 8))
        go_ret
        exact ⟨by first | rfl | (simp [errW_none, errW_some] <;> rfl) | (simp [*, errW_none, errW_some] <;> rfl), by repeat (first | (with_reducible first | exact HB.out | apply below_alloc | apply pw_below_drewN | apply below_drew1 | refine below_set ?_ GE347.out | refine below_set ?_ GE348.out) | exact HB.out)⟩
    · rw [if_neg c4] at H
      have c4b0 : (a0_1 == a1_1) = false := beq_eq_false_iff_ne.mpr c4
      have c4b1 : (a0_1 != a1_1) = true := bne_iff_ne.mpr c4
      obtain rfl := Option.some.inj H
      go_enter Tryd.func29, Tryd.ntmps29
      go_wp2_with (first | ((with_reducible refine gate_dst (N := 2) rfl ?_); refine box_event ?hg (N := 2) ?hd (cs := #[.int .i64 a0_0, .int .i64 a0_1, .int .i64 a0_2, .int .i64 a0_3, .int .i64 a0_4, .int .i64 a0_5, .int .i64 a0_6, .int .i64 a0_7, .int .i64 a0_8]) (t := 41) ?hr ?_; (case hd => rfl); (case hg => rfl); (case hr => first | (go_simp; done) | (go_simp; rfl)); intro gb347 hg w60 hbox hb; have n0_ := Aside0.mk (below_step (by repeat (first | (with_reducible first | exact HB.out | apply below_alloc | apply pw_below_drewN | apply below_drew1) | exact HB.out)) hb); have n1_ := Aside0.mk (hbox); have n2_ := Aside0.mk ((by rw [hg]; exact (below_size (by repeat (first | (with_reducible first | exact HB.out | apply below_alloc | apply pw_below_drewN | apply below_drew1) | exact HB.out))) : w.heap.size ≤ gb347)); have n3_ := Aside0.mk ((by rw [hg]; exact (below_size (by repeat (first | (with_reducible first | exact HB.out | apply below_alloc | apply pw_below_drewN | apply below_drew1) | exact HB.out))) : w.heap.size ≤ gb347)); clear HB; have HB := n0_; have BK347 := n1_; have GW347 := n2_; have GE347 := n3_; clear n0_ n1_ n2_ n3_; clear hb hbox hg) | ((with_reducible refine gate_dst (N := 3) rfl ?_); refine box_event ?hg (N := 3) ?hd (cs := #[.int .i64 a1_0, .int .i64 a1_1, .int .i64 a1_2, .int .i64 a1_3, .int .i64 a1_4, .int .i64 a1_5, .int .i64 a1_6, .int .i64 a1_7, .int .i64 a1_8]) (t := 41) ?hr ?_; (case hd => rfl); (case hg => rfl); (case hr => first | (go_simp; done) | (go_simp; rfl)); intro gb348 hg w61 hbox hb; have n0_ := Aside0.mk (blk_below (g := gb347) (o := .cells #[.int .i64 a0_0, .int .i64 a0_1, .int .i64 a0_2, .int .i64 a0_3, .int .i64 a0_4, .int .i64 a0_5, .int .i64 a0_6, .int .i64 a0_7, .int .i64 a0_8] 41 (0, 0)) (by (with_reducible repeat (first | refine blk_drewN ?_ _ | refine blk_drew ?_ | refine blk_alloc ?_ _)); exact BK347.out) hb); have n1_ := Aside0.mk (below_step (by repeat (first | (with_reducible first | exact HB.out | apply below_alloc | apply pw_below_drewN | apply below_drew1 | refine below_set ?_ GE347.out) | exact HB.out)) hb); have n2_ := Aside0.mk (hbox); have n3_ := Aside0.mk ((by rw [hg]; exact (below_size (by repeat (first | (with_reducible first | exact HB.out | apply below_alloc | apply pw_below_drewN | apply below_drew1 | refine below_set ?_ GE347.out) | exact HB.out))) : w.heap.size ≤ gb348)); have n4_ := Aside0.mk ((by rw [hg]; exact (below_size (by repeat (first | (with_reducible first | exact HB.out | apply below_alloc | apply pw_below_drewN | apply below_drew1 | refine below_set ?_ GE347.out) | exact HB.out))) : w.heap.size ≤ gb348)); have n5_ := Aside0.mk ((by rw [hg]; exact Nat.ne_of_lt (blk_lt (g := gb347) (o := .cells #[.int .i64 a0_0, .int .i64 a0_1, .int .i64 a0_2, .int .i64 a0_3, .int .i64 a0_4, .int .i64 a0_5, .int .i64 a0_6, .int .i64 a0_7, .int .i64 a0_8] 41 (0, 0)) (by (with_reducible repeat (first | refine blk_drewN ?_ _ | refine blk_drew ?_ | refine blk_alloc ?_ _)); exact BK347.out)) : gb347 ≠ gb348)); have n6_ := Aside0.mk ((by rw [hg]; exact Nat.ne_of_gt (blk_lt (g := gb347) (o := .cells #[.int .i64 a0_0, .int .i64 a0_1, .int .i64 a0_2, .int .i64 a0_3, .int .i64 a0_4, .int .i64 a0_5, .int .i64 a0_6, .int .i64 a0_7, .int .i64 a0_8] 41 (0, 0)) (by (with_reducible repeat (first | refine blk_drewN ?_ _ | refine blk_drew ?_ | refine blk_alloc ?_ _)); exact BK347.out)) : gb348 ≠ gb347)); clear BK347; clear HB; have BK347 := n0_; have HB := n1_; have BK348 := n2_; have GW348 := n3_; have GE348 := n4_; have NB347_348 := n5_; have NB348_347 := n6_; clear n0_ n1_ n2_ n3_ n4_ n5_ n6_; clear hb hbox hg; have hnb62 := NB347_348.out; have hnc62 := NB348_347.out; have hcz63_0 : w61.cell? ⟨gb347, 0, none⟩ = some (.int .i64 a0_0) := (blk_cell BK347.out 0).trans rfl; have hcz63_1 : w61.cell? ⟨gb347, 1, none⟩ = some (.int .i64 a0_1) := (blk_cell BK347.out 1).trans rfl; have hcz63_2 : w61.cell? ⟨gb347, 2, none⟩ = some (.int .i64 a0_2) := (blk_cell BK347.out 2).trans rfl; have hcz63_3 : w61.cell? ⟨gb347, 3, none⟩ = some (.int .i64 a0_3) := (blk_cell BK347.out 3).trans rfl; have hcz63_4 : w61.cell? ⟨gb347, 4, none⟩ = some (.int .i64 a0_4) := (blk_cell BK347.out 4).trans rfl; have hcz63_5 : w61.cell? ⟨gb347, 5, none⟩ = some (.int .i64 a0_5) := (blk_cell BK347.out 5).trans rfl; have hcz63_6 : w61.cell? ⟨gb347, 6, none⟩ = some (.int .i64 a0_6) := (blk_cell BK347.out 6).trans rfl; have hcz63_7 : w61.cell? ⟨gb347, 7, none⟩ = some (.int .i64 a0_7) := (blk_cell BK347.out 7).trans rfl; have hcz63_8 : w61.cell? ⟨gb347, 8, none⟩ = some (.int .i64 a0_8) := (blk_cell BK347.out 8).trans rfl; have hfz63_0 := blk_frozen BK347.out 0; have hfz63_1 := blk_frozen BK347.out 1; have hfz63_2 := blk_frozen BK347.out 2; have hfz63_3 := blk_frozen BK347.out 3; have hfz63_4 := blk_frozen BK347.out 4; have hfz63_5 := blk_frozen BK347.out 5; have hfz63_6 := blk_frozen BK347.out 6; have hfz63_7 := blk_frozen BK347.out 7; have hfz63_8 := blk_frozen BK347.out 8; have hcz64_0 : w61.cell? ⟨gb348, 0, none⟩ = some (.int .i64 a1_0) := (blk_cell BK348.out 0).trans rfl; have hcz64_1 : w61.cell? ⟨gb348, 1, none⟩ = some (.int .i64 a1_1) := (blk_cell BK348.out 1).trans rfl; have hcz64_2 : w61.cell? ⟨gb348, 2, none⟩ = some (.int .i64 a1_2) := (blk_cell BK348.out 2).trans rfl; have hcz64_3 : w61.cell? ⟨gb348, 3, none⟩ = some (.int .i64 a1_3) := (blk_cell BK348.out 3).trans rfl; have hcz64_4 : w61.cell? ⟨gb348, 4, none⟩ = some (.int .i64 a1_4) := (blk_cell BK348.out 4).trans rfl; have hcz64_5 : w61.cell? ⟨gb348, 5, none⟩ = some (.int .i64 a1_5) := (blk_cell BK348.out 5).trans rfl; have hcz64_6 : w61.cell? ⟨gb348, 6, none⟩ = some (.int .i64 a1_6) := (blk_cell BK348.out 6).trans rfl; have hcz64_7 : w61.cell? ⟨gb348, 7, none⟩ = some (.int .i64 a1_7) := (blk_cell BK348.out 7).trans rfl; have hcz64_8 : w61.cell? ⟨gb348, 8, none⟩ = some (.int .i64 a1_8) := (blk_cell BK348.out 8).trans rfl; have hfz64_0 := blk_frozen BK348.out 0; have hfz64_1 := blk_frozen BK348.out 1; have hfz64_2 := blk_frozen BK348.out 2; have hfz64_3 := blk_frozen BK348.out 3; have hfz64_4 := blk_frozen BK348.out 4; have hfz64_5 := blk_frozen BK348.out 5; have hfz64_6 := blk_frozen BK348.out 6; have hfz64_7 := blk_frozen BK348.out 7; have hfz64_8 := blk_frozen BK348.out 8))
      go_ret
      exact ⟨by first | rfl | (simp [errW_none, errW_some] <;> rfl) | (simp [*, errW_none, errW_some] <;> rfl), by repeat (first | (with_reducible first | exact HB.out | apply below_alloc | apply pw_below_drewN | apply below_drew1 | refine below_set ?_ GE347.out | refine below_set ?_ GE348.out) | exact HB.out)⟩
  · rw [if_neg c3] at H
    have c3b0 : (a0_0 == a1_0) = false := beq_eq_false_iff_ne.mpr c3
    have c3b1 : (a0_0 != a1_0) = true := bne_iff_ne.mpr c3
    obtain rfl := Option.some.inj H
    go_enter Tryd.func29, Tryd.ntmps29
    go_wp2_with (first | ((with_reducible refine gate_dst (N := 2) rfl ?_); refine box_event ?hg (N := 2) ?hd (cs := #[.int .i64 a0_0, .int .i64 a0_1, .int .i64 a0_2, .int .i64 a0_3, .int .i64 a0_4, .int .i64 a0_5, .int .i64 a0_6, .int .i64 a0_7, .int .i64 a0_8]) (t := 41) ?hr ?_; (case hd => rfl); (case hg => rfl); (case hr => first | (go_simp; done) | (go_simp; rfl)); intro gb347 hg w65 hbox hb; have n0_ := Aside0.mk (below_step (by repeat (first | (with_reducible first | exact HB.out | apply below_alloc | apply pw_below_drewN | apply below_drew1) | exact HB.out)) hb); have n1_ := Aside0.mk (hbox); have n2_ := Aside0.mk ((by rw [hg]; exact (below_size (by repeat (first | (with_reducible first | exact HB.out | apply below_alloc | apply pw_below_drewN | apply below_drew1) | exact HB.out))) : w.heap.size ≤ gb347)); have n3_ := Aside0.mk ((by rw [hg]; exact (below_size (by repeat (first | (with_reducible first | exact HB.out | apply below_alloc | apply pw_below_drewN | apply below_drew1) | exact HB.out))) : w.heap.size ≤ gb347)); clear HB; have HB := n0_; have BK347 := n1_; have GW347 := n2_; have GE347 := n3_; clear n0_ n1_ n2_ n3_; clear hb hbox hg) | ((with_reducible refine gate_dst (N := 3) rfl ?_); refine box_event ?hg (N := 3) ?hd (cs := #[.int .i64 a1_0, .int .i64 a1_1, .int .i64 a1_2, .int .i64 a1_3, .int .i64 a1_4, .int .i64 a1_5, .int .i64 a1_6, .int .i64 a1_7, .int .i64 a1_8]) (t := 41) ?hr ?_; (case hd => rfl); (case hg => rfl); (case hr => first | (go_simp; done) | (go_simp; rfl)); intro gb348 hg w66 hbox hb; have n0_ := Aside0.mk (blk_below (g := gb347) (o := .cells #[.int .i64 a0_0, .int .i64 a0_1, .int .i64 a0_2, .int .i64 a0_3, .int .i64 a0_4, .int .i64 a0_5, .int .i64 a0_6, .int .i64 a0_7, .int .i64 a0_8] 41 (0, 0)) (by (with_reducible repeat (first | refine blk_drewN ?_ _ | refine blk_drew ?_ | refine blk_alloc ?_ _)); exact BK347.out) hb); have n1_ := Aside0.mk (below_step (by repeat (first | (with_reducible first | exact HB.out | apply below_alloc | apply pw_below_drewN | apply below_drew1 | refine below_set ?_ GE347.out) | exact HB.out)) hb); have n2_ := Aside0.mk (hbox); have n3_ := Aside0.mk ((by rw [hg]; exact (below_size (by repeat (first | (with_reducible first | exact HB.out | apply below_alloc | apply pw_below_drewN | apply below_drew1 | refine below_set ?_ GE347.out) | exact HB.out))) : w.heap.size ≤ gb348)); have n4_ := Aside0.mk ((by rw [hg]; exact (below_size (by repeat (first | (with_reducible first | exact HB.out | apply below_alloc | apply pw_below_drewN | apply below_drew1 | refine below_set ?_ GE347.out) | exact HB.out))) : w.heap.size ≤ gb348)); have n5_ := Aside0.mk ((by rw [hg]; exact Nat.ne_of_lt (blk_lt (g := gb347) (o := .cells #[.int .i64 a0_0, .int .i64 a0_1, .int .i64 a0_2, .int .i64 a0_3, .int .i64 a0_4, .int .i64 a0_5, .int .i64 a0_6, .int .i64 a0_7, .int .i64 a0_8] 41 (0, 0)) (by (with_reducible repeat (first | refine blk_drewN ?_ _ | refine blk_drew ?_ | refine blk_alloc ?_ _)); exact BK347.out)) : gb347 ≠ gb348)); have n6_ := Aside0.mk ((by rw [hg]; exact Nat.ne_of_gt (blk_lt (g := gb347) (o := .cells #[.int .i64 a0_0, .int .i64 a0_1, .int .i64 a0_2, .int .i64 a0_3, .int .i64 a0_4, .int .i64 a0_5, .int .i64 a0_6, .int .i64 a0_7, .int .i64 a0_8] 41 (0, 0)) (by (with_reducible repeat (first | refine blk_drewN ?_ _ | refine blk_drew ?_ | refine blk_alloc ?_ _)); exact BK347.out)) : gb348 ≠ gb347)); clear BK347; clear HB; have BK347 := n0_; have HB := n1_; have BK348 := n2_; have GW348 := n3_; have GE348 := n4_; have NB347_348 := n5_; have NB348_347 := n6_; clear n0_ n1_ n2_ n3_ n4_ n5_ n6_; clear hb hbox hg; have hnb67 := NB347_348.out; have hnc67 := NB348_347.out; have hcz68_0 : w66.cell? ⟨gb347, 0, none⟩ = some (.int .i64 a0_0) := (blk_cell BK347.out 0).trans rfl; have hcz68_1 : w66.cell? ⟨gb347, 1, none⟩ = some (.int .i64 a0_1) := (blk_cell BK347.out 1).trans rfl; have hcz68_2 : w66.cell? ⟨gb347, 2, none⟩ = some (.int .i64 a0_2) := (blk_cell BK347.out 2).trans rfl; have hcz68_3 : w66.cell? ⟨gb347, 3, none⟩ = some (.int .i64 a0_3) := (blk_cell BK347.out 3).trans rfl; have hcz68_4 : w66.cell? ⟨gb347, 4, none⟩ = some (.int .i64 a0_4) := (blk_cell BK347.out 4).trans rfl; have hcz68_5 : w66.cell? ⟨gb347, 5, none⟩ = some (.int .i64 a0_5) := (blk_cell BK347.out 5).trans rfl; have hcz68_6 : w66.cell? ⟨gb347, 6, none⟩ = some (.int .i64 a0_6) := (blk_cell BK347.out 6).trans rfl; have hcz68_7 : w66.cell? ⟨gb347, 7, none⟩ = some (.int .i64 a0_7) := (blk_cell BK347.out 7).trans rfl; have hcz68_8 : w66.cell? ⟨gb347, 8, none⟩ = some (.int .i64 a0_8) := (blk_cell BK347.out 8).trans rfl; have hfz68_0 := blk_frozen BK347.out 0; have hfz68_1 := blk_frozen BK347.out 1; have hfz68_2 := blk_frozen BK347.out 2; have hfz68_3 := blk_frozen BK347.out 3; have hfz68_4 := blk_frozen BK347.out 4; have hfz68_5 := blk_frozen BK347.out 5; have hfz68_6 := blk_frozen BK347.out 6; have hfz68_7 := blk_frozen BK347.out 7; have hfz68_8 := blk_frozen BK347.out 8; have hcz69_0 : w66.cell? ⟨gb348, 0, none⟩ = some (.int .i64 a1_0) := (blk_cell BK348.out 0).trans rfl; have hcz69_1 : w66.cell? ⟨gb348, 1, none⟩ = some (.int .i64 a1_1) := (blk_cell BK348.out 1).trans rfl; have hcz69_2 : w66.cell? ⟨gb348, 2, none⟩ = some (.int .i64 a1_2) := (blk_cell BK348.out 2).trans rfl; have hcz69_3 : w66.cell? ⟨gb348, 3, none⟩ = some (.int .i64 a1_3) := (blk_cell BK348.out 3).trans rfl; have hcz69_4 : w66.cell? ⟨gb348, 4, none⟩ = some (.int .i64 a1_4) := (blk_cell BK348.out 4).trans rfl; have hcz69_5 : w66.cell? ⟨gb348, 5, none⟩ = some (.int .i64 a1_5) := (blk_cell BK348.out 5).trans rfl; have hcz69_6 : w66.cell? ⟨gb348, 6, none⟩ = some (.int .i64 a1_6) := (blk_cell BK348.out 6).trans rfl; have hcz69_7 : w66.cell? ⟨gb348, 7, none⟩ = some (.int .i64 a1_7) := (blk_cell BK348.out 7).trans rfl; have hcz69_8 : w66.cell? ⟨gb348, 8, none⟩ = some (.int .i64 a1_8) := (blk_cell BK348.out 8).trans rfl; have hfz69_0 := blk_frozen BK348.out 0; have hfz69_1 := blk_frozen BK348.out 1; have hfz69_2 := blk_frozen BK348.out 2; have hfz69_3 := blk_frozen BK348.out 3; have hfz69_4 := blk_frozen BK348.out 4; have hfz69_5 := blk_frozen BK348.out 5; have hfz69_6 := blk_frozen BK348.out 6; have hfz69_7 := blk_frozen BK348.out 7; have hfz69_8 := blk_frozen BK348.out 8))
    go_ret
    exact ⟨by first | rfl | (simp [errW_none, errW_some] <;> rfl) | (simp [*, errW_none, errW_some] <;> rfl), by repeat (first | (with_reducible first | exact HB.out | apply below_alloc | apply pw_below_drewN | apply below_drew1 | refine below_set ?_ GE347.out | refine below_set ?_ GE348.out) | exact HB.out)⟩

end Go.Proofs.YtahmgalkliicfaaDoor.Q

/- The two readers of a deed hand back the same. -/
namespace Go.Proofs.YtahmgalkliicfaaDoor.PuR
open Go.RowKit Go.Proofs.YtahmgalkliicfaaDoorW.PrintWords Go.Proofs.YtahmgalkliicfaaDoorW.PrintLast Go.Proofs.YtahmgalkliicfaaDoorW.PrintMore Go.Proofs.YtahmgalkliicfaaDoor.Q Go.Proofs.YtahmgalkliicfaaDoor.Ha Go.Proofs.YtahmgalkliicfaaDoor.Sp Go.Proofs.YtahmgalkliicfaaDoor.PuD Go.Proofs.YtahmgalkliicfaaDoor.PuV Go.Proofs.YtahmgalkliicfaaDoor.PuW Go.Proofs.YtahmgalkliicfaaDoor.PuVD Go.Proofs.YtahmgalkliicfaaDoor.PuDT Go.Proofs.YtahmgalkliicfaaDoor.Ni Go.Proofs.YtahmgalkliicfaaDoor.Hr Go.Proofs.YtahmgalkliicfaaDoor.Hs Go.Proofs.YtahmgalkliicfaaDoor.Hd Go.Proofs.YtahmgalkliicfaaDoor.Ht

theorem split1_ne (c : UInt8) (l : List UInt8) : split1 c l ≠ [] := by
  by_cases h : c ∈ l
  · obtain ⟨p, q, rfl, hp⟩ := first_at c l h
    rw [split1_some c p q hp]; simp
  · rw [split1_none c l h]; simp
theorem split1_one {c : UInt8} {l a : List UInt8} (h : split1 c l = [a]) : l = a ∧ c ∉ l := by
  by_cases hc : c ∈ l
  · obtain ⟨p, q, rfl, hp⟩ := first_at c l hc
    rw [split1_some c p q hp] at h
    exact absurd (List.cons.inj h).2 (split1_ne c q)
  · rw [split1_none c l hc] at h
    exact ⟨(List.cons.inj h).1, hc⟩
theorem split1_more {c : UInt8} {l a b : List UInt8} {r : List (List UInt8)} (h : split1 c l = a :: b :: r) : ∃ q, l = a ++ c :: q ∧ c ∉ a ∧ split1 c q = b :: r := by
  by_cases hc : c ∈ l
  · obtain ⟨p, q, rfl, hp⟩ := first_at c l hc
    rw [split1_some c p q hp] at h
    obtain ⟨rfl, h2⟩ := List.cons.inj h
    exact ⟨q, rfl, hp, h2⟩
  · rw [split1_none c l hc] at h
    cases (List.cons.inj h).2

theorem readIn_eq (l : List UInt8) (hl : l.length ≤ 281474976710656) (a b : Int) : impl_readIn.f (txt l) a b = some (readL l a b) := by
  unfold impl_readIn.f
  rw [if_pos (by simpa [txt, ByteArray.size] using hl)]; rfl
theorem split_eq (l : List UInt8) (hl : l.length ≤ 1048576) : strings_Split.f (txt l) (⟨#[32]⟩ : ByteArray) = some ((split1 32 l).map txt) := by
  show (if (txt l).size < 4294967281 then some ((split1 32 (txt l).data.toList).map tx) else none) = _
  rw [if_pos (by rw [txt_size]; omega)]; rfl

/-- The numbers of words, or none. -/
def nums : List (List UInt8) → Option (List Int)
  | [] => some []
  | w :: r => if (rdV w).2 = true then (nums r).map ((rdV w).1 :: ·) else none
theorem nums_len {ws : List (List UInt8)} {ns : List Int} (h : nums ws = some ns) : ns.length = ws.length := by
  induction ws generalizing ns with
  | nil => simp only [nums, Option.some.injEq] at h; subst h; rfl
  | cons w r ih =>
    simp only [nums] at h
    split at h
    · cases hn : nums r with
      | none => rw [hn] at h; cases h
      | some m => rw [hn] at h; simp only [Option.map_some, Option.some.injEq] at h; subst h; simp [ih hn]
    · cases h
theorem all_loop (ws : List (List UInt8)) (hw : ∀ w ∈ ws, w.length ≤ 281474976710656) (hn : ws.length < 17592186044416) : ∀ (d k i : Nat) (out : List Int), i + d = ws.length → d < k → out.length = i →
    impl_readAll.l0 k (-1000000000) 1000000000 out (ws.map txt) (ws.length : Int) (i : Int) = some (match nums (ws.drop i) with | some m => (out ++ m, true) | none => ([], false)) := by
  intro d
  induction d with
  | zero =>
    intro k i out hi hk ho
    obtain ⟨k, rfl⟩ : ∃ m, k = m + 1 := ⟨k - 1, by omega⟩
    simp only [impl_readAll.l0]
    rw [if_neg (by omega), List.drop_eq_nil_of_le (by omega)]
    simp [nums]
  | succ d ih =>
    intro k i out hi hk ho
    obtain ⟨k, rfl⟩ : ∃ m, k = m + 1 := ⟨k - 1, by omega⟩
    have hlt : i < ws.length := by omega
    have e1 : rdOf ByteArray.empty (ws.map txt) (i : Int) = txt ws[i] := by
      simp [rdOf, hlt]
    have e2 : wrap64 ((i : Int) + 1) = ((i + 1 : Nat) : Int) := by rw [PuV.wrap_id (by omega) (by omega)]; omega
    simp only [impl_readAll.l0, List.length_map]
    rw [if_pos (by omega), if_pos (by omega), if_pos (by omega), e1, readIn_eq _ (hw _ (List.getElem_mem hlt)), Option.bind_some, e2, List.drop_eq_getElem_cons hlt]
    simp only [nums]
    by_cases h : (rdV ws[i]).2 = true
    · rw [if_pos h, if_pos h, if_pos (by omega), ih k (i + 1) _ (by omega) (by omega) (by simp [ho])]
      cases nums (ws.drop (i + 1)) <;> simp
    · rw [if_neg h, if_neg h]
theorem all_eq (l : List UInt8) (hl : l.length ≤ 1048576) (k : Nat) (hk : l.length + 1 < k) : impl_readAll.f k (txt l) (⟨#[32]⟩ : ByteArray) (-1000000000) 1000000000 = some (match nums (split1 32 l) with | some m => (m, true) | none => ([], false)) := by
  have hr := split_eq l hl
  have hle : ∀ w ∈ split1 32 l, w.length ≤ l.length := split1_len 32 l
  have hc : (split1 32 l).length ≤ l.length + 1 := by
    clear hle hr hk hl
    induction l with
    | nil => simp [split1]
    | cons b l ih =>
      simp only [split1]
      split
      · simp; omega
      · split
        · simp
        · rename_i w0 ws he
          rw [he] at ih; simp at ih ⊢; omega
  simp only [impl_readAll.f, hr, Option.bind_some, List.length_map]
  have := all_loop (split1 32 l) (fun w hw => by have := hle w hw; omega) (by omega) (split1 32 l).length k 0 [] (by omega) (by omega) rfl
  simpa using this

theorem reads_itoa {w : List UInt8} (h : (rdV w).2 = true) : w = Lib.itoa (rdV w).1 := by
  rcases readL_cases w (-1000000000) 1000000000 with e | ⟨n, hn, e⟩
  · rw [show rdV w = readL w (-1000000000) 1000000000 from rfl, e] at h; cases h
  · rw [show rdV w = readL w (-1000000000) 1000000000 from rfl, e]; exact hn.1

theorem itoa_no32 (n : Int) : 32 ∉ Lib.itoa n := by
  have hd : ∀ u : Nat, 32 ∉ Lib.decDigits u := by
    intro u hm
    have := List.all_eq_true.1 (decDigits_val u).2.1 32 hm
    exact absurd this (by decide)
  unfold Lib.itoa
  split
  · intro h
    rcases List.mem_cons.1 h with h | h
    · cases h
    · exact hd _ h
  · exact hd _

/-- The ring that the program reads, whatever stands there. -/
def ringV : List UInt8 → Int × Int
  | [] => (0, 0)
  | c :: r => if c = 115 then (0, (rdV r).1) else if c = 116 then (1, (rdV r).1) else (0, 0)
theorem ringR_eq (l : List UInt8) (hl : l.length ≤ 1048576) (k : Nat) : ∃ ok, impl_readRing.f (k + 1) (txt l) = some ((ringV l).1, (ringV l).2, ok) := by
  cases l with
  | nil => exact ⟨false, by simp only [impl_readRing.f, ByteArray.toList_eq]; rfl⟩
  | cons c r =>
    have hx : (txt (c :: r)).extract 1 (r.length + 1) = txt r := by rw [extract_txt, ← List.length_cons (a := c), List.take_length]; rfl
    have hb := bt_txt (c :: r) 0 (by simp)
    rw [show ((0 : Nat) : Int) = 0 from rfl] at hb
    have e1 : ((c.toNat : Int) = 115) = (c = 115) := propext ⟨fun h => u8_eq _ 115 h, fun h => by rw [h]; rfl⟩
    have e2 : ((c.toNat : Int) = 116) = (c = 116) := propext ⟨fun h => u8_eq _ 116 h, fun h => by rw [h]; rfl⟩
    have hne : ((txt (c :: r)).toList = []) = False := by rw [ByteArray.toList_eq]; exact eq_false (by simp [txt])
    have hd : impl_ReadDecimal.f (txt r) = some (rdV r) := by
      simp only [impl_ReadDecimal.f, readIn_eq r (by simp at hl; omega), Option.bind_some]
    have j0 : impl_readRing.j0 (k + 1) (txt (c :: r)) false = (if c = 116 then (if (rdV r).2 = true then ((impl_ValidRing.f 1 (rdV r).1).bind fun t553 => (some (1, (rdV r).1, t553))) else (some (1, (rdV r).1, false))) else (if (rdV r).2 = true then ((impl_ValidRing.f 0 (rdV r).1).bind fun t554 => (some (0, (rdV r).1, t554))) else (some (0, (rdV r).1, false)))) := by
      simp only [impl_readRing.j0, txt_size, List.length_cons, hx, hd, hb, List.getElem_cons_zero, e2, Option.bind_some, Bool.false_eq_true, if_false]
      rw [if_pos (by omega), if_pos (by omega)]
    simp only [impl_readRing.f, hne, if_false, txt_size, List.length_cons, hb, List.getElem_cons_zero, e1]
    rw [if_pos (by omega)]
    by_cases h1 : c = 115
    · subst h1
      rw [if_pos rfl, j0, if_neg (by decide)]
      simp only [ringV, if_true, ring2_eq, Option.bind_some]
      split <;> exact ⟨_, rfl⟩
    · rw [if_neg h1]
      by_cases h2 : c = 116
      · subst h2
        rw [show ((((116 : UInt8).toNat : Int)) != 116) = false from rfl, j0, if_pos rfl]
        have e3 : ((116 : UInt8) = 115) = False := eq_false (by decide)
        simp only [ringV, e3, if_true, if_false, ring2_eq, Option.bind_some]
        split <;> exact ⟨_, rfl⟩
      · rw [show (((c.toNat : Int)) != 116) = true from by rw [bne_iff_ne]; intro h; exact h2 (e2.mp h)]
        simp only [ringV, h1, h2, if_false]
        exact ⟨false, by simp only [impl_readRing.j0, if_true]⟩

theorem n0_no : okN n0 = (n0, false) := rfl
theorem okI_yes {l : List UInt8} {x : Nine} (h : textN x = l) : okI l x = okN x := by
  unfold okI okN
  by_cases hd : deedN x = true
  · rw [if_pos ⟨hd, h⟩, if_pos hd]
  · rw [if_neg (fun y => hd y.1), if_neg hd]
theorem okI_no {l : List UInt8} {x : Nine} (h : textN x ≠ l) : okI l x = (n0, false) := by
  unfold okI; rw [if_neg (fun y => h y.2)]
theorem ring_text (a b : Int) : textN (2, 0, 0, 0, a, b, 0, 0, 0) = wBuild ++ 32 :: ringT a b := by
  show deedT 2 0 0 0 a b 0 0 0 = _
  unfold deedT; rw [if_neg (by decide), if_pos rfl]; rfl
theorem ring_eq (q : List UInt8) (h32 : 32 ∉ q) : okI (wBuild ++ 32 :: q) (2, 0, 0, 0, (ringV q).1, (ringV q).2, 0, 0, 0) = okN (2, 0, 0, 0, (wordR q).1, (wordR q).2, 0, 0, 0) := by
  have bad : okN (2, 0, 0, 0, -1, 0, 0, 0, 0) = (n0, false) := rfl
  have key : ∀ a b, ringT a b ≠ q → okI (wBuild ++ 32 :: q) (2, 0, 0, 0, a, b, 0, 0, 0) = (n0, false) := by
    intro a b h
    refine okI_no fun e => h ?_
    rw [ring_text] at e
    exact (List.cons.inj (List.append_cancel_left e)).2
  cases q with
  | nil =>
    simp only [wordR, ringV]
    rw [bad]
    refine key _ _ fun e => ?_
    have := congrArg List.length e
    simp [ringT] at this
  | cons c r =>
    rcases readL_cases r (-1000000000) 1000000000 with e | ⟨n, hn, e⟩
    · simp only [wordR, e, ringV, rdV, Bool.false_eq_true, if_false]
      rw [bad]
      have h0 : Lib.itoa 0 ≠ r := by
        rintro rfl
        rw [readL_yes (n := 0) ⟨rfl, by decide, by decide⟩ (by decide) (by decide)] at e
        cases e
      split
      · exact key _ _ fun e => h0 (List.cons.inj e).2
      · split
        · exact key _ _ fun e => h0 (List.cons.inj e).2
        · exact key _ _ fun e => h0 (List.cons.inj e).2
    · simp only [wordR, e, ringV, rdV, if_true]
      by_cases h1 : c = 115
      · rw [if_pos h1, if_pos h1]
        exact okI_yes (by rw [ring_text, h1, hn.1]; rfl)
      · rw [if_neg h1, if_neg h1]
        by_cases h2 : c = 116
        · rw [if_pos h2, if_pos h2]
          exact okI_yes (by rw [ring_text, h2, hn.1]; rfl)
        · rw [if_neg h2, if_neg h2, bad]
          exact key _ _ fun e => h1 (List.cons.inj e).1.symm
theorem three_text (a b c : Int) : textN (1, a, b, c, 0, 0, 0, 0, 0) = wPush ++ 32 :: threeT a b c := by
  show deedT 1 a b c 0 0 0 0 0 = _
  unfold deedT; rw [if_pos rfl]; rfl
theorem three_text' (a b c : Int) : textN (3, 0, 0, 0, 0, 0, a, b, c) = wGrout ++ 32 :: threeT a b c := by
  show deedT 3 0 0 0 0 0 a b c = _
  unfold deedT; rw [if_neg (by decide), if_neg (by decide)]; rfl
theorem wEmpty : (rdV []).2 = false := by
  rcases readL_cases [] (-1000000000) 1000000000 with e | ⟨n, hn, e⟩
  · rw [rdV, e]
  · exact absurd hn.1.symm (itoa_ne n)

theorem read_eq (l : List UInt8) (hl : l.length ≤ 1048576) : readI l = some (readS l) := by
  unfold readI readS
  rcases h : split1 32 l with _ | ⟨a, _ | ⟨b, r⟩⟩
  · exact absurd h (split1_ne _ _)
  · obtain ⟨rfl, hn⟩ := split1_one h
    rw [cut1_none 32 l hn]
    show _ = some (okN n0)
    rw [n0_no]
    by_cases hb : l = wBuild
    · rw [if_pos hb, show l.length + 100 = (l.length + 99) + 1 from rfl]
      obtain ⟨ok, e⟩ := ringR_eq [] (by simp) (l.length + 99)
      simp only [e, Option.bind_some, ringV]
      rw [okI_no]
      rw [ring_text, hb]
      intro e; have := congrArg List.length e; simp at this
    · rw [if_neg hb, all_eq [] (by simp) _ (by simp)]
      simp only [split1, nums, wEmpty, Bool.false_eq_true, if_false, Option.bind_some, deedI]
  · obtain ⟨q, rfl, ha, hq⟩ := split1_more h
    rw [cut1_some 32 a q ha]
    have hql : q.length ≤ 1048576 := by simp at hl; omega
    by_cases hb : a = wBuild
    · simp only [hb, if_true]
      obtain ⟨ok, e⟩ := ringR_eq q hql ((wBuild ++ 32 :: q).length + 99)
      rw [show (wBuild ++ 32 :: q).length + 100 = ((wBuild ++ 32 :: q).length + 99) + 1 from rfl]
      simp only [e, Option.bind_some]
      cases r with
      | nil =>
        obtain ⟨rfl, h32⟩ := split1_one hq
        simp only [deedW, if_true]
        rw [ring_eq q h32]
      | cons c r =>
        obtain ⟨q2, hq2, _, _⟩ := split1_more hq
        have hw : deedW (wBuild :: b :: c :: r) = n0 := by
          match r with
          | [] => rfl
          | [d] => simp [deedW]
          | _ :: _ :: _ => rfl
        rw [hw, n0_no, okI_no]
        intro e
        rw [ring_text] at e
        have e2 := (List.cons.inj (List.append_cancel_left e)).2
        have hm : 32 ∈ ringT (ringV q).1 (ringV q).2 := by rw [e2, hq2]; simp
        unfold ringT at hm
        rcases List.mem_append.1 hm with hm | hm
        · split at hm <;> simp at hm
        · exact itoa_no32 _ hm
    · simp only [hb, if_false]
      rw [all_eq q hql _ (by simp; omega), hq, Option.bind_some]
      cases hn : nums (b :: r) with
      | none =>
        have hw : deedW (a :: b :: r) = n0 := by
          match r with
          | [] => simp only [deedW]; rw [if_neg hb]
          | [c] => rfl
          | [c, d] =>
            simp only [deedW]
            by_cases ho : ((rdV b).2 && (rdV c).2 && (rdV d).2) = true
            · simp only [Bool.and_eq_true] at ho
              simp [nums, ho.1.1, ho.1.2, ho.2] at hn
            · rw [if_neg ho]
          | _ :: _ :: _ :: _ => rfl
        rw [hw, n0_no]; rfl
      | some ns =>
        have hlen := nums_len hn
        match r, hlen, hn, hq with
        | [], hlen, hn, hq =>
          simp only [deedW]; rw [if_neg hb, n0_no]
          match ns, hlen with
          | [x], _ => rfl
        | [c], hlen, hn, hq =>
          show _ = some (okN n0)
          rw [n0_no]
          match ns, hlen with
          | [x, y], _ => rfl
        | c :: d :: e :: r, hlen, hn, hq =>
          show _ = some (okN n0)
          rw [n0_no]
          match ns, hlen with
          | x :: y :: z :: u :: r, _ => rfl
        | [c, d], hlen, hn, hq =>
          obtain ⟨q2, rfl, _, hq2⟩ := split1_more hq
          obtain ⟨q3, rfl, _, hq3⟩ := split1_more hq2
          obtain ⟨rfl, _⟩ := split1_one hq3
          simp only [nums] at hn
          by_cases h1 : (rdV b).2 = true
          · by_cases h2 : (rdV c).2 = true
            · by_cases h3 : (rdV q3).2 = true
              · simp only [h1, h2, h3, if_true, Option.map_some, Option.some.injEq] at hn
                subst hn
                have ht : b ++ 32 :: (c ++ 32 :: q3) = threeT (rdV b).1 (rdV c).1 (rdV q3).1 := by
                  unfold threeT
                  rw [← reads_itoa h1, ← reads_itoa h2, ← reads_itoa h3]; simp
                simp only [deedW, h1, h2, h3, Bool.and_self, if_true, deedI]
                by_cases hp : a = wPush
                · rw [if_pos hp, if_neg (by rw [hp]; decide)]
                  rw [okI_yes (by rw [three_text, ht, hp])]
                · rw [if_neg hp]
                  by_cases hg : a = wGrout
                  · rw [if_pos hg, if_pos hg]
                    rw [okI_yes (by rw [three_text', ht, hg])]
                  · rw [if_neg hg, if_neg hg, n0_no, okI_no]
                    rw [three_text]
                    intro e
                    have := congrArg (fun z => (cut1 32 z).1) e
                    simp only [cut1_some 32 a _ ha, cut1_some 32 wPush _ (by decide)] at this
                    exact hp this.symm
              · simp [h1, h2, h3] at hn
            · simp [h1, h2] at hn
          · simp [h1] at hn
end Go.Proofs.YtahmgalkliicfaaDoor.PuR

/- The law on ReadDeed, plainly. -/
namespace Go.Proofs.YtahmgalkliicfaaDoor.PuRL
open Go.RowKit Go.Proofs.YtahmgalkliicfaaDoorW.PrintWords Go.Proofs.YtahmgalkliicfaaDoor.Q Go.Proofs.YtahmgalkliicfaaDoor.Ht
theorem eqDeed_refl (x0 x1 x2 x3 x4 x5 x6 x7 x8 : Int) : laws_eqDeed.f x0 x1 x2 x3 x4 x5 x6 x7 x8 x0 x1 x2 x3 x4 x5 x6 x7 x8 = some true := by
  simp [laws_eqDeed.f, laws_eqRing.f]
theorem spec_eq (a : ByteArray) (hs : a.size ≤ 1048576) : spec_ReadDeed.f a = some (flat (readS a.data.toList)) := by
  simp only [spec_ReadDeed.f, spec_l11Read.f]
  rw [if_pos (by omega)]; rfl
theorem impl_eq (a : ByteArray) (hs : a.size ≤ 1048576) : impl_ReadDeed.f a = some (flat (readS a.data.toList)) := by
  have hl : a.data.toList.length ≤ 1048576 := by rw [Array.length_toList]; exact hs
  simp only [impl_ReadDeed.f, impl_readDeed.f]
  rw [if_pos hs, PuR.read_eq _ hl]; rfl
end Go.Proofs.YtahmgalkliicfaaDoor.PuRL

