/- Parts of the proof that the law of this seat holds: St, Op, OpB, Wt, Ts. -/
import Derived.Test.YtibaiaenfeppcaaGreatDoorGSKpa
import Derived.Test.YtibaiaenfeppcaaGreatDoorGSKpb
import Derived.Test.YtibaiaenfeppcaaGreatDoorGSKpc
import Derived.Test.YtibaiaenfeppcaaGreatDoorGSKpd
import Derived.Test.YtibaiaenfeppcaaGreatDoorGSKw
import Derived.WalkKit
import Derived.ProofKit
import Derived.OpenShut
import Derived.ShutString
import Derived.ChangeOld
import Derived.Below
import Derived.SizedLaws
import Derived.Test.YtibaiaenfeppcaaGreatDoorProg
import Derived.Lay
import Derived.Deep.DeepHandedRow
import Derived.Test.YtibaiaenfeppcaaGreatDoorRows
import Derived.Lib.LaidTab
import Derived.Stop.LaidErr
set_option linter.unusedVariables false
set_option linter.unusedSimpArgs false
/- The law on stacks, walked (for the answer true). -/
namespace Go.Proofs.YtibaiaenfeppcaaGreatDoor.Q
open Go.RowKit Go.Proofs.YtibaiaenfeppcaaGreatDoorW.PrintWords Go.Proofs.YtibaiaenfeppcaaGreatDoorW.PrintLast Go.Proofs.YtibaiaenfeppcaaGreatDoorW.PrintMore
attribute [local go_sem] max2_int min2_int max_two min_two max_three min_three max_four min_four
set_option linter.unusedVariables false
set_option linter.unusedSimpArgs false

set_option maxHeartbeats 8000000 in
set_option maxRecDepth 100000 in
theorem laws_FnStacked.calls (k : Nat) (A0 : Option Addr) (c0 : Nat) (l0 : List Int) (A1 : Option Addr) (c1 : Nat) (l1 : List Int) (w : World) (hr0 : Kd.C (Kd.int .u8) w A0 l0.length l0) (hc0 : l0.length ≤ c0) (hr1 : Kd.C (Kd.int .u8) w A1 l1.length l1) (hc1 : l1.length ≤ c1) (hT : Tb.TC w) (h : laws_FnStacked.f k l0 l1 = some true) :
    Calls Tryz.prog 4 #[.slice A0 l0.length c0, .slice A1 l1.length c1] w fun e w' => e = .returned (.bool true) ∧ Below w.heap.size w w' := by
  have HT := Aside0.mk hT
  clear hT
  have hu24 := Tryz.underlying24
  have HR0 := Aside0.mk hr0
  have HC0 := Aside0.mk hc0
  clear hr0 hc0
  have HR1 := Aside0.mk hr1
  have HC1 := Aside0.mk hc1
  clear hr1 hc1
  have HB := Aside0.mk (Below.refl w.heap.size w)
  have H : ((laws_b10Long.f l0 l1).bind fun t522 => (if t522 = true then (some true) else ((spec_B10Yard.f k l0).bind fun bt523 => ((impl_YardText.f k bt523.1 bt523.2).bind fun bt528 => ((impl_ReadYard.f k bt528.1).bind fun bt530 => ((impl_TopsOf.f k bt523.1 bt523.2).bind fun bt536 => ((impl_BlockersOf.f k bt523.1 bt523.2).bind fun bt540 => (if bt528.2 = true then (if bt530.2.2 = true then (if bt536.2 = true then (if bt540.2 = true then ((laws_b10Yards.f k bt530.1 bt530.2.1 bt523.1 bt523.2).bind fun t544 => (if t544 = true then (if (bt536.1.length : Int) = (bt523.2.length : Int) then ((laws_b10Lots.f k bt523.1 bt523.2).bind fun t545 => (laws_FnStacked.j0 k l1 bt540.1 (decide ((bt540.1.length : Int) > t545)) bt523.1 bt523.2)) else (laws_FnStacked.j0 k l1 bt540.1 true bt523.1 bt523.2)) else (laws_FnStacked.j0 k l1 bt540.1 true bt523.1 bt523.2))) else (laws_FnStacked.j0 k l1 bt540.1 true bt523.1 bt523.2)) else (laws_FnStacked.j0 k l1 bt540.1 true bt523.1 bt523.2)) else (laws_FnStacked.j0 k l1 bt540.1 true bt523.1 bt523.2)) else (laws_FnStacked.j0 k l1 bt540.1 true bt523.1 bt523.2))))))))) = some true := h
  clear h
  replace H := Option.bind_eq_some_iff.mp H
  obtain ⟨t522, A30, H⟩ := H
  replace H : (if t522 = true then (some true) else ((spec_B10Yard.f k l0).bind fun bt523 => ((impl_YardText.f k bt523.1 bt523.2).bind fun bt528 => ((impl_ReadYard.f k bt528.1).bind fun bt530 => ((impl_TopsOf.f k bt523.1 bt523.2).bind fun bt536 => ((impl_BlockersOf.f k bt523.1 bt523.2).bind fun bt540 => (if bt528.2 = true then (if bt530.2.2 = true then (if bt536.2 = true then (if bt540.2 = true then ((laws_b10Yards.f k bt530.1 bt530.2.1 bt523.1 bt523.2).bind fun t544 => (if t544 = true then (if (bt536.1.length : Int) = (bt523.2.length : Int) then ((laws_b10Lots.f k bt523.1 bt523.2).bind fun t545 => (laws_FnStacked.j0 k l1 bt540.1 (decide ((bt540.1.length : Int) > t545)) bt523.1 bt523.2)) else (laws_FnStacked.j0 k l1 bt540.1 true bt523.1 bt523.2)) else (laws_FnStacked.j0 k l1 bt540.1 true bt523.1 bt523.2))) else (laws_FnStacked.j0 k l1 bt540.1 true bt523.1 bt523.2)) else (laws_FnStacked.j0 k l1 bt540.1 true bt523.1 bt523.2)) else (laws_FnStacked.j0 k l1 bt540.1 true bt523.1 bt523.2)) else (laws_FnStacked.j0 k l1 bt540.1 true bt523.1 bt523.2)))))))) = some true := H
  have A3 := Aside0.mk A30
  clear A30
  by_cases c4 : t522 = true
  · subst c4
    have H1 : (some true) = some true := rfl
    clear H
    have H := H1
    clear H1
    first | exact absurd (Option.some.inj H) (by decide) | clear H
    all_goals
      go_enter Tryz.func4, Tryz.ntmps4
      go_wp2_with (first | (go_at_call 10; (with_reducible refine (laws_b10Long.calls _ _ l0 _ _ l1 true _ ?side1 ?side2 ?side3 ?side4 A3.out).mono ?_); (case side1 => repeat (first | exact HR0.out | (with_reducible refine Kd.C_alloc ?_ _) | (with_reducible refine Kd.C_drewN ?_ _) | (with_reducible refine Kd.C_drew ?_))); (case side2 => exact HC0.out); (case side3 => repeat (first | exact HR1.out | (with_reducible refine Kd.C_alloc ?_ _) | (with_reducible refine Kd.C_drewN ?_ _) | (with_reducible refine Kd.C_drew ?_))); (case side4 => exact HC1.out); rintro e w' ⟨rfl, ⟨nd, rfl⟩⟩; (try first | exact ⟨rfl, _, World.drewN_drewN _ _ _⟩ | exact ⟨rfl, _, Eq.trans (World.drewN_drewN _ _ _) (congrArg (World.drewN _) (Nat.add_assoc _ _ _))⟩)))
      repeat (go_quiet (fail); try go_wp2)
      go_ret
      exact ⟨by first | rfl | (simp [errW_none, errW_some] <;> rfl) | (simp [*, errW_none, errW_some] <;> rfl), by repeat (first | (with_reducible first | exact HB.out | apply below_alloc | apply pw_below_drewN | apply below_drew1) | exact HB.out)⟩
  · replace c4 := Bool.eq_false_iff.mpr c4
    subst c4
    have H1 : ((spec_B10Yard.f k l0).bind fun bt523 => ((impl_YardText.f k bt523.1 bt523.2).bind fun bt528 => ((impl_ReadYard.f k bt528.1).bind fun bt530 => ((impl_TopsOf.f k bt523.1 bt523.2).bind fun bt536 => ((impl_BlockersOf.f k bt523.1 bt523.2).bind fun bt540 => (if bt528.2 = true then (if bt530.2.2 = true then (if bt536.2 = true then (if bt540.2 = true then ((laws_b10Yards.f k bt530.1 bt530.2.1 bt523.1 bt523.2).bind fun t544 => (if t544 = true then (if (bt536.1.length : Int) = (bt523.2.length : Int) then ((laws_b10Lots.f k bt523.1 bt523.2).bind fun t545 => (laws_FnStacked.j0 k l1 bt540.1 (decide ((bt540.1.length : Int) > t545)) bt523.1 bt523.2)) else (laws_FnStacked.j0 k l1 bt540.1 true bt523.1 bt523.2)) else (laws_FnStacked.j0 k l1 bt540.1 true bt523.1 bt523.2))) else (laws_FnStacked.j0 k l1 bt540.1 true bt523.1 bt523.2)) else (laws_FnStacked.j0 k l1 bt540.1 true bt523.1 bt523.2)) else (laws_FnStacked.j0 k l1 bt540.1 true bt523.1 bt523.2)) else (laws_FnStacked.j0 k l1 bt540.1 true bt523.1 bt523.2))))))) = some true := by rw [if_neg (show ¬ (false = true) by decide)] at H; exact H
    clear H
    have H := H1
    clear H1
    replace H := Option.bind_eq_some_iff.mp H
    obtain ⟨⟨t523, t524⟩, A50, H⟩ := H
    replace H : ((impl_YardText.f k t523 t524).bind fun bt528 => ((impl_ReadYard.f k bt528.1).bind fun bt530 => ((impl_TopsOf.f k t523 t524).bind fun bt536 => ((impl_BlockersOf.f k t523 t524).bind fun bt540 => (if bt528.2 = true then (if bt530.2.2 = true then (if bt536.2 = true then (if bt540.2 = true then ((laws_b10Yards.f k bt530.1 bt530.2.1 t523 t524).bind fun t544 => (if t544 = true then (if (bt536.1.length : Int) = (t524.length : Int) then ((laws_b10Lots.f k t523 t524).bind fun t545 => (laws_FnStacked.j0 k l1 bt540.1 (decide ((bt540.1.length : Int) > t545)) t523 t524)) else (laws_FnStacked.j0 k l1 bt540.1 true t523 t524)) else (laws_FnStacked.j0 k l1 bt540.1 true t523 t524))) else (laws_FnStacked.j0 k l1 bt540.1 true t523 t524)) else (laws_FnStacked.j0 k l1 bt540.1 true t523 t524)) else (laws_FnStacked.j0 k l1 bt540.1 true t523 t524)) else (laws_FnStacked.j0 k l1 bt540.1 true t523 t524)))))) = some true := H
    have A5 := Aside0.mk A50
    clear A50
    replace H := Option.bind_eq_some_iff.mp H
    obtain ⟨⟨t528, t529⟩, A60, H⟩ := H
    replace H : ((impl_ReadYard.f k t528).bind fun bt530 => ((impl_TopsOf.f k t523 t524).bind fun bt536 => ((impl_BlockersOf.f k t523 t524).bind fun bt540 => (if t529 = true then (if bt530.2.2 = true then (if bt536.2 = true then (if bt540.2 = true then ((laws_b10Yards.f k bt530.1 bt530.2.1 t523 t524).bind fun t544 => (if t544 = true then (if (bt536.1.length : Int) = (t524.length : Int) then ((laws_b10Lots.f k t523 t524).bind fun t545 => (laws_FnStacked.j0 k l1 bt540.1 (decide ((bt540.1.length : Int) > t545)) t523 t524)) else (laws_FnStacked.j0 k l1 bt540.1 true t523 t524)) else (laws_FnStacked.j0 k l1 bt540.1 true t523 t524))) else (laws_FnStacked.j0 k l1 bt540.1 true t523 t524)) else (laws_FnStacked.j0 k l1 bt540.1 true t523 t524)) else (laws_FnStacked.j0 k l1 bt540.1 true t523 t524)) else (laws_FnStacked.j0 k l1 bt540.1 true t523 t524))))) = some true := H
    have A6 := Aside0.mk A60
    clear A60
    replace H := Option.bind_eq_some_iff.mp H
    obtain ⟨⟨t530, t531, t534⟩, A70, H⟩ := H
    replace H : ((impl_TopsOf.f k t523 t524).bind fun bt536 => ((impl_BlockersOf.f k t523 t524).bind fun bt540 => (if t529 = true then (if t534 = true then (if bt536.2 = true then (if bt540.2 = true then ((laws_b10Yards.f k t530 t531 t523 t524).bind fun t544 => (if t544 = true then (if (bt536.1.length : Int) = (t524.length : Int) then ((laws_b10Lots.f k t523 t524).bind fun t545 => (laws_FnStacked.j0 k l1 bt540.1 (decide ((bt540.1.length : Int) > t545)) t523 t524)) else (laws_FnStacked.j0 k l1 bt540.1 true t523 t524)) else (laws_FnStacked.j0 k l1 bt540.1 true t523 t524))) else (laws_FnStacked.j0 k l1 bt540.1 true t523 t524)) else (laws_FnStacked.j0 k l1 bt540.1 true t523 t524)) else (laws_FnStacked.j0 k l1 bt540.1 true t523 t524)) else (laws_FnStacked.j0 k l1 bt540.1 true t523 t524)))) = some true := H
    have A7 := Aside0.mk A70
    clear A70
    replace H := Option.bind_eq_some_iff.mp H
    obtain ⟨⟨t536, t539⟩, A80, H⟩ := H
    replace H : ((impl_BlockersOf.f k t523 t524).bind fun bt540 => (if t529 = true then (if t534 = true then (if t539 = true then (if bt540.2 = true then ((laws_b10Yards.f k t530 t531 t523 t524).bind fun t544 => (if t544 = true then (if (t536.length : Int) = (t524.length : Int) then ((laws_b10Lots.f k t523 t524).bind fun t545 => (laws_FnStacked.j0 k l1 bt540.1 (decide ((bt540.1.length : Int) > t545)) t523 t524)) else (laws_FnStacked.j0 k l1 bt540.1 true t523 t524)) else (laws_FnStacked.j0 k l1 bt540.1 true t523 t524))) else (laws_FnStacked.j0 k l1 bt540.1 true t523 t524)) else (laws_FnStacked.j0 k l1 bt540.1 true t523 t524)) else (laws_FnStacked.j0 k l1 bt540.1 true t523 t524)) else (laws_FnStacked.j0 k l1 bt540.1 true t523 t524))) = some true := H
    have A8 := Aside0.mk A80
    clear A80
    replace H := Option.bind_eq_some_iff.mp H
    obtain ⟨⟨t540, t543⟩, A90, H⟩ := H
    replace H : (if t529 = true then (if t534 = true then (if t539 = true then (if t543 = true then ((laws_b10Yards.f k t530 t531 t523 t524).bind fun t544 => (if t544 = true then (if (t536.length : Int) = (t524.length : Int) then ((laws_b10Lots.f k t523 t524).bind fun t545 => (laws_FnStacked.j0 k l1 t540 (decide ((t540.length : Int) > t545)) t523 t524)) else (laws_FnStacked.j0 k l1 t540 true t523 t524)) else (laws_FnStacked.j0 k l1 t540 true t523 t524))) else (laws_FnStacked.j0 k l1 t540 true t523 t524)) else (laws_FnStacked.j0 k l1 t540 true t523 t524)) else (laws_FnStacked.j0 k l1 t540 true t523 t524)) else (laws_FnStacked.j0 k l1 t540 true t523 t524)) = some true := H
    have A9 := Aside0.mk A90
    clear A90
    have HC10 := Aside0.mk H
    clear H
    go_enter Tryz.func4, Tryz.ntmps4
    go_upto_region 8 with (first | (go_at_call 10; (with_reducible refine (laws_b10Long.calls _ _ l0 _ _ l1 false _ ?side1 ?side2 ?side3 ?side4 A3.out).mono ?_); (case side1 => repeat (first | exact HR0.out | (with_reducible refine Kd.C_alloc ?_ _) | (with_reducible refine Kd.C_drewN ?_ _) | (with_reducible refine Kd.C_drew ?_))); (case side2 => exact HC0.out); (case side3 => repeat (first | exact HR1.out | (with_reducible refine Kd.C_alloc ?_ _) | (with_reducible refine Kd.C_drewN ?_ _) | (with_reducible refine Kd.C_drew ?_))); (case side4 => exact HC1.out); rintro e w' ⟨rfl, ⟨nd, rfl⟩⟩; (try first | exact ⟨rfl, _, World.drewN_drewN _ _ _⟩ | exact ⟨rfl, _, Eq.trans (World.drewN_drewN _ _ _) (congrArg (World.drewN _) (Nat.add_assoc _ _ _))⟩)) | (go_at_call 11; (with_reducible refine (spec_B10Yard.calls k _ _ l0 t523 t524 _ ?side1 ?side2 A5.out).mono ?_); (case side1 => repeat (first | exact HR0.out | (with_reducible refine Kd.C_alloc ?_ _) | (with_reducible refine Kd.C_drewN ?_ _) | (with_reducible refine Kd.C_drew ?_))); (case side2 => exact HC0.out); rintro e w11 ⟨v525, rfl, ho0, hb⟩; have n0_ := Aside0.mk (Kd.S_lower ho0 (below_size (by repeat (first | (with_reducible first | exact HB.out | apply below_alloc | apply pw_below_drewN | apply below_drew1) | exact HB.out)))); have n1_ := Aside0.mk (below_step (by repeat (first | (with_reducible first | exact HB.out | apply below_alloc | apply pw_below_drewN | apply below_drew1) | exact HB.out)) hb); clear HB; have HO526 := n0_; have HB := n1_; clear n0_ n1_; (try clear hb); (try clear hb2); (try clear hk); (try clear hi); (try clear ho0)) | ((with_reducible refine gate_dst (N := 5) rfl ?_); (try (refine gate_guard (by rfl) ?_; dsimp only)); refine box_event ?hg (N := 5) ?hd (cs := #[.int .i64 0, .slice none 0 0]) (t := 24) ?hr ?_; (case hd => rfl); (case hg => rfl); (case hr => first | (go_simp; done) | (go_simp; rfl)); intro gb527 hg w12 hbox hb; have n0_ := Aside0.mk (Kd.S_below (by (with_reducible repeat (first | apply Kd.S_alloc | apply Kd.S_drewN | apply Kd.S_drew)); exact HO526.out) hb); have n1_ := Aside0.mk (below_step (by repeat (first | (with_reducible first | exact HB.out | apply below_alloc | apply pw_below_drewN | apply below_drew1) | exact HB.out)) hb); have n2_ := Aside0.mk (hbox); have n3_ := Aside0.mk ((by rw [hg]; exact (below_size (by repeat (first | (with_reducible first | exact HB.out | apply below_alloc | apply pw_below_drewN | apply below_drew1) | exact HB.out))) : w.heap.size ≤ gb527)); have n4_ := Aside0.mk ((by rw [hg]; exact (below_size (by repeat (first | (with_reducible first | exact HB.out | apply below_alloc | apply pw_below_drewN | apply below_drew1) | exact HB.out))) : w.heap.size ≤ gb527)); clear HO526; clear HB; have HO526 := n0_; have HB := n1_; have BK527 := n2_; have GW527 := n3_; have GE527 := n4_; clear n0_ n1_ n2_ n3_ n4_; clear hb hbox hg; have hcz13_0 : w12.cell? ⟨gb527, 0, none⟩ = some (.int .i64 0) := (blk_cell BK527.out 0).trans rfl; have hcz13_1 : w12.cell? ⟨gb527, 1, none⟩ = some (.slice none 0 0) := (blk_cell BK527.out 1).trans rfl; have hfz13_0 := blk_frozen BK527.out 0; have hfz13_1 := blk_frozen BK527.out 1; obtain ⟨Ao14, co14, eo14⟩ := Kd.S_slice HO526.out; subst eo14) | (go_at_call 12; (with_reducible refine (impl_YardText.calls k t523 _ _ t524 t528 t529 _ ?side1 ?side2 ?side3 A6.out).mono ?_); (case side1 => refine (Kd.S_reads' (e := 35) (base := w.heap.size) (ok := fun k_ => True) (n := t524.length) (c := co14) ?_).2.2; exact (by (with_reducible repeat (first | apply Kd.S_alloc | apply Kd.S_drewN | apply Kd.S_drew)); exact (Kd.S_mono (Kd.S_far (p := ⟨gb527, 1, none⟩) (Kd.S_far (p := ⟨gb527, 0, none⟩) (Kd.S_types HO526.out BK527.out (by decide)) (fun _ hk => hk.2) (.int .i64 t523)) (fun _ hk => hk.2) (.slice Ao14 t524.length co14)) (fun _ h_ => h_.1)))); (case side2 => exact (Kd.S_reads' HO526.out).2.1); (case side3 => first | exact Tb.TC.tb (HT.out) | exact Tb.TC.tb (Tb.TC.below HT.out (by repeat (first | (with_reducible first | exact HB.out | apply below_alloc | apply pw_below_drewN | apply below_drew1 | refine below_set ?_ GE527.out) | exact HB.out)))); rintro e w15 ⟨rfl, hb⟩; have n0_ := Aside0.mk (Kd.S_below (by (with_reducible repeat (first | apply Kd.S_alloc | apply Kd.S_drewN | apply Kd.S_drew)); exact (Kd.S_mono (Kd.S_far (p := ⟨gb527, 1, none⟩) (Kd.S_far (p := ⟨gb527, 0, none⟩) (Kd.S_types HO526.out BK527.out (by decide)) (fun _ hk => hk.2) (.int .i64 t523)) (fun _ hk => hk.2) (.slice Ao14 t524.length co14)) (fun _ h_ => h_.1))) hb); have n1_ := Aside0.mk (blk_below (g := gb527) (o := .cells #[.int .i64 t523, .slice Ao14 t524.length co14] 24 (0, 0)) (by (with_reducible repeat (first | refine blk_drewN ?_ _ | refine blk_drew ?_ | refine blk_alloc ?_ _)); refine blk_put (cs := #[.int .i64 t523, .slice none 0 0]) ?_ 1 _ rfl; (with_reducible repeat (first | refine blk_drewN ?_ _ | refine blk_drew ?_ | refine blk_alloc ?_ _)); refine blk_put (cs := #[.int .i64 0, .slice none 0 0]) ?_ 0 _ rfl; (with_reducible repeat (first | refine blk_drewN ?_ _ | refine blk_drew ?_ | refine blk_alloc ?_ _)); exact BK527.out) hb); have n2_ := Aside0.mk (below_step (by repeat (first | (with_reducible first | exact HB.out | apply below_alloc | apply pw_below_drewN | apply below_drew1 | refine below_set ?_ GE527.out) | exact HB.out)) hb); clear HO526; clear BK527; clear HB; have HO526 := n0_; have BK527 := n1_; have HB := n2_; clear n0_ n1_ n2_; (try clear hb); (try clear hb2); (try clear hk); (try clear hi)) | (go_at_call 6; (with_reducible refine (impl_ReadYard.calls k t528 t530 t531 t534 _ ?side1 A7.out).mono ?_); (case side1 => first | exact HT.out | exact Tb.TC.below HT.out (by repeat (first | (with_reducible first | exact HB.out | apply below_alloc | apply pw_below_drewN | apply below_drew1 | refine below_set ?_ GE527.out) | exact HB.out))); rintro e w16 ⟨v532, rfl, ho0, hb⟩; have n0_ := Aside0.mk (Kd.S_elder' (by (with_reducible repeat (first | apply Kd.S_alloc | apply Kd.S_drewN | apply Kd.S_drew)); exact HO526.out) (Kd.S_base ho0) hb); have n1_ := Aside0.mk (Kd.S_lower (Kd.S_new' ho0 (Kd.S_lt (by (with_reducible repeat (first | apply Kd.S_alloc | apply Kd.S_drewN | apply Kd.S_drew)); exact HO526.out))) (below_size (by repeat (first | (with_reducible first | exact HB.out | apply below_alloc | apply pw_below_drewN | apply below_drew1 | refine below_set ?_ GE527.out) | exact HB.out)))); have n2_ := Aside0.mk (blk_below (g := gb527) (o := .cells #[.int .i64 t523, .slice Ao14 t524.length co14] 24 (0, 0)) (by (with_reducible repeat (first | refine blk_drewN ?_ _ | refine blk_drew ?_ | refine blk_alloc ?_ _)); exact BK527.out) hb); have n3_ := Aside0.mk (below_step (by repeat (first | (with_reducible first | exact HB.out | apply below_alloc | apply pw_below_drewN | apply below_drew1 | refine below_set ?_ GE527.out) | exact HB.out)) hb); clear HO526; clear BK527; clear HB; have HO526 := n0_; have HO533 := n1_; have BK527 := n2_; have HB := n3_; clear n0_ n1_ n2_ n3_; (try clear hb); (try clear hb2); (try clear hk); (try clear hi); (try clear ho0)) | ((with_reducible refine gate_dst (N := 8) rfl ?_); (try (refine gate_guard (by rfl) ?_; dsimp only)); refine box_event ?hg (N := 8) ?hd (cs := #[.int .i64 0, .slice none 0 0]) (t := 24) ?hr ?_; (case hd => rfl); (case hg => rfl); (case hr => first | (go_simp; done) | (go_simp; rfl)); intro gb535 hg w17 hbox hb; have n0_ := Aside0.mk (Kd.S_below (by (with_reducible repeat (first | apply Kd.S_alloc | apply Kd.S_drewN | apply Kd.S_drew)); exact HO526.out) hb); have n1_ := Aside0.mk (Kd.S_below (by (with_reducible repeat (first | apply Kd.S_alloc | apply Kd.S_drewN | apply Kd.S_drew)); exact HO533.out) hb); have n2_ := Aside0.mk (blk_below (g := gb527) (o := .cells #[.int .i64 t523, .slice Ao14 t524.length co14] 24 (0, 0)) (by (with_reducible repeat (first | refine blk_drewN ?_ _ | refine blk_drew ?_ | refine blk_alloc ?_ _)); exact BK527.out) hb); have n3_ := Aside0.mk (below_step (by repeat (first | (with_reducible first | exact HB.out | apply below_alloc | apply pw_below_drewN | apply below_drew1 | refine below_set ?_ GE527.out) | exact HB.out)) hb); have n4_ := Aside0.mk (hbox); have n5_ := Aside0.mk ((by rw [hg]; exact (below_size (by repeat (first | (with_reducible first | exact HB.out | apply below_alloc | apply pw_below_drewN | apply below_drew1 | refine below_set ?_ GE527.out) | exact HB.out))) : w.heap.size ≤ gb535)); have n6_ := Aside0.mk ((by rw [hg]; exact (below_size (by repeat (first | (with_reducible first | exact HB.out | apply below_alloc | apply pw_below_drewN | apply below_drew1 | refine below_set ?_ GE527.out) | exact HB.out))) : w.heap.size ≤ gb535)); have n7_ := Aside0.mk ((by rw [hg]; exact Nat.ne_of_lt (blk_lt (g := gb527) (o := .cells #[.int .i64 t523, .slice Ao14 t524.length co14] 24 (0, 0)) (by (with_reducible repeat (first | refine blk_drewN ?_ _ | refine blk_drew ?_ | refine blk_alloc ?_ _)); exact BK527.out)) : gb527 ≠ gb535)); have n8_ := Aside0.mk ((by rw [hg]; exact Nat.ne_of_gt (blk_lt (g := gb527) (o := .cells #[.int .i64 t523, .slice Ao14 t524.length co14] 24 (0, 0)) (by (with_reducible repeat (first | refine blk_drewN ?_ _ | refine blk_drew ?_ | refine blk_alloc ?_ _)); exact BK527.out)) : gb535 ≠ gb527)); clear HO526; clear HO533; clear BK527; clear HB; have HO526 := n0_; have HO533 := n1_; have BK527 := n2_; have HB := n3_; have BK535 := n4_; have GW535 := n5_; have GE535 := n6_; have NB527_535 := n7_; have NB535_527 := n8_; clear n0_ n1_ n2_ n3_ n4_ n5_ n6_ n7_ n8_; clear hb hbox hg; have hnb18 := NB535_527.out; have hnc18 := NB527_535.out; have hcz19_0 : w17.cell? ⟨gb535, 0, none⟩ = some (.int .i64 0) := (blk_cell BK535.out 0).trans rfl; have hcz19_1 : w17.cell? ⟨gb535, 1, none⟩ = some (.slice none 0 0) := (blk_cell BK535.out 1).trans rfl; have hfz19_0 := blk_frozen BK535.out 0; have hfz19_1 := blk_frozen BK535.out 1; obtain ⟨Ao20, co20, eo20⟩ := Kd.S_slice HO533.out; subst eo20; have hcz21_0 : w17.cell? ⟨gb527, 0, none⟩ = some (.int .i64 t523) := (blk_cell BK527.out 0).trans rfl; have hcz21_1 : w17.cell? ⟨gb527, 1, none⟩ = some (.slice Ao14 t524.length co14) := (blk_cell BK527.out 1).trans rfl; have hfz21_0 := blk_frozen BK527.out 0; have hfz21_1 := blk_frozen BK527.out 1) | (go_at_call 13; (with_reducible refine (impl_TopsOf.calls k t523 _ _ t524 t536 t539 _ ?side1 ?side2 A8.out).mono ?_); (case side1 => refine (Kd.S_reads' (e := 35) (base := w.heap.size) (ok := fun k_ => (True ∧ some k_ ≠ (.slice Ao20 t531.length co20 : Value).ownBlock)) (n := t524.length) (c := co14) ?_).2.2; exact (by (with_reducible repeat (first | apply Kd.S_alloc | apply Kd.S_drewN | apply Kd.S_drew)); exact (Kd.S_mono (Kd.S_far (p := ⟨gb535, 1, none⟩) (Kd.S_far (p := ⟨gb535, 0, none⟩) (Kd.S_types HO526.out BK535.out (by decide)) (fun _ hk => hk.2) (.int .i64 t530)) (fun _ hk => hk.2) (.slice Ao20 t531.length co20)) (fun _ h_ => h_.1)))); (case side2 => exact (Kd.S_reads' HO526.out).2.1); rintro e w22 ⟨v537, rfl, ho0, hb⟩; have n0_ := Aside0.mk (Kd.S_elder' (by (with_reducible repeat (first | apply Kd.S_alloc | apply Kd.S_drewN | apply Kd.S_drew)); exact (Kd.S_mono (Kd.S_far (p := ⟨gb535, 1, none⟩) (Kd.S_far (p := ⟨gb535, 0, none⟩) (Kd.S_types HO526.out BK535.out (by decide)) (fun _ hk => hk.2) (.int .i64 t530)) (fun _ hk => hk.2) (.slice Ao20 t531.length co20)) (fun _ h_ => h_.1))) (Kd.R_base ho0) hb); have n1_ := Aside0.mk (Kd.S_elder' (by (with_reducible repeat (first | apply Kd.S_alloc | apply Kd.S_drewN | apply Kd.S_drew)); exact (Kd.S_mono (Kd.S_far (p := ⟨gb535, 1, none⟩) (Kd.S_far (p := ⟨gb535, 0, none⟩) (Kd.S_types HO533.out BK535.out (by decide)) (fun _ hk => hk.2) (.int .i64 t530)) (fun _ hk => hk.2) (.slice Ao20 t531.length co20)) (fun _ h_ => h_.1))) (Kd.R_base ho0) hb); have n2_ := Aside0.mk (Kd.R_lower ho0 (below_size (by repeat (first | (with_reducible first | exact HB.out | apply below_alloc | apply pw_below_drewN | apply below_drew1 | refine below_set ?_ GE527.out | refine below_set ?_ GE535.out) | exact HB.out)))); have n3_ := Aside0.mk (blk_below (g := gb527) (o := .cells #[.int .i64 t523, .slice Ao14 t524.length co14] 24 (0, 0)) (by (with_reducible repeat (first | refine blk_drewN ?_ _ | refine blk_drew ?_ | refine blk_alloc ?_ _)); refine blk_far ?_ NB527_535.out _; (with_reducible repeat (first | refine blk_drewN ?_ _ | refine blk_drew ?_ | refine blk_alloc ?_ _)); refine blk_far ?_ NB527_535.out _; (with_reducible repeat (first | refine blk_drewN ?_ _ | refine blk_drew ?_ | refine blk_alloc ?_ _)); exact BK527.out) hb); have n4_ := Aside0.mk (blk_below (g := gb535) (o := .cells #[.int .i64 t530, .slice Ao20 t531.length co20] 24 (0, 0)) (by (with_reducible repeat (first | refine blk_drewN ?_ _ | refine blk_drew ?_ | refine blk_alloc ?_ _)); refine blk_put (cs := #[.int .i64 t530, .slice none 0 0]) ?_ 1 _ rfl; (with_reducible repeat (first | refine blk_drewN ?_ _ | refine blk_drew ?_ | refine blk_alloc ?_ _)); refine blk_put (cs := #[.int .i64 0, .slice none 0 0]) ?_ 0 _ rfl; (with_reducible repeat (first | refine blk_drewN ?_ _ | refine blk_drew ?_ | refine blk_alloc ?_ _)); exact BK535.out) hb); have n5_ := Aside0.mk (below_step (by repeat (first | (with_reducible first | exact HB.out | apply below_alloc | apply pw_below_drewN | apply below_drew1 | refine below_set ?_ GE527.out | refine below_set ?_ GE535.out) | exact HB.out)) hb); clear HO526; clear HO533; clear BK527; clear BK535; clear HB; have HO526 := n0_; have HO533 := n1_; have HO538 := n2_; have BK527 := n3_; have BK535 := n4_; have HB := n5_; clear n0_ n1_ n2_ n3_ n4_ n5_; (try clear hb); (try clear hb2); (try clear hk); (try clear hi); (try clear ho0); have hcz23_0 : w22.cell? ⟨gb527, 0, none⟩ = some (.int .i64 t523) := (blk_cell BK527.out 0).trans rfl; have hcz23_1 : w22.cell? ⟨gb527, 1, none⟩ = some (.slice Ao14 t524.length co14) := (blk_cell BK527.out 1).trans rfl; have hfz23_0 := blk_frozen BK527.out 0; have hfz23_1 := blk_frozen BK527.out 1) | (go_at_call 14; (with_reducible refine (impl_BlockersOf.calls k t523 _ _ t524 t540 t543 _ ?side1 ?side2 A9.out).mono ?_); (case side1 => repeat (first | exact (Kd.S_reads' HO526.out).2.2 | (with_reducible refine Kd.C_alloc ?_ _) | (with_reducible refine Kd.C_drewN ?_ _) | (with_reducible refine Kd.C_drew ?_))); (case side2 => exact (Kd.S_reads' HO526.out).2.1); rintro e w24 ⟨v541, rfl, ho0, hb⟩; have n0_ := Aside0.mk (Kd.S_elder' (by (with_reducible repeat (first | apply Kd.S_alloc | apply Kd.S_drewN | apply Kd.S_drew)); exact HO526.out) (Kd.R_base ho0) hb); have n1_ := Aside0.mk (Kd.S_elder' (by (with_reducible repeat (first | apply Kd.S_alloc | apply Kd.S_drewN | apply Kd.S_drew)); exact HO533.out) (Kd.R_base ho0) hb); have n2_ := Aside0.mk (Kd.R_elder' (by (with_reducible repeat (first | apply Kd.R_alloc | apply Kd.R_drewN | apply Kd.R_drew)); exact HO538.out) (Kd.R_base ho0) hb); have n3_ := Aside0.mk (Kd.R_lower (Kd.R_new' ho0 (Kd.R_lt (by (with_reducible repeat (first | apply Kd.R_alloc | apply Kd.R_drewN | apply Kd.R_drew)); exact HO538.out))) (below_size (by repeat (first | (with_reducible first | exact HB.out | apply below_alloc | apply pw_below_drewN | apply below_drew1 | refine below_set ?_ GE527.out | refine below_set ?_ GE535.out) | exact HB.out)))); have n4_ := Aside0.mk (blk_below (g := gb527) (o := .cells #[.int .i64 t523, .slice Ao14 t524.length co14] 24 (0, 0)) (by (with_reducible repeat (first | refine blk_drewN ?_ _ | refine blk_drew ?_ | refine blk_alloc ?_ _)); exact BK527.out) hb); have n5_ := Aside0.mk (blk_below (g := gb535) (o := .cells #[.int .i64 t530, .slice Ao20 t531.length co20] 24 (0, 0)) (by (with_reducible repeat (first | refine blk_drewN ?_ _ | refine blk_drew ?_ | refine blk_alloc ?_ _)); exact BK535.out) hb); have n6_ := Aside0.mk (below_step (by repeat (first | (with_reducible first | exact HB.out | apply below_alloc | apply pw_below_drewN | apply below_drew1 | refine below_set ?_ GE527.out | refine below_set ?_ GE535.out) | exact HB.out)) hb); clear HO526; clear HO533; clear HO538; clear BK527; clear BK535; clear HB; have HO526 := n0_; have HO533 := n1_; have HO538 := n2_; have HO542 := n3_; have BK527 := n4_; have BK535 := n5_; have HB := n6_; clear n0_ n1_ n2_ n3_ n4_ n5_ n6_; (try clear hb); (try clear hb2); (try clear hk); (try clear hi); (try clear ho0)))
    repeat (go_quiet (fail); go_upto_region 8 with (fail))
    (try simp only [Act.put, List.setIfInBounds_toArray, List.set_cons_zero, List.set_cons_succ])
    go_cut [83] (fun v83 wc => ∃ (kq : Nat) (x83_9 : Bool), v83 = .bool x83_9 ∧ Aside0 (laws_FnStacked.j0 kq l1 t540 x83_9 t523 t524 = some true) ∧ Aside0 (kq ≤ k) ∧ Aside0 (Kd.R (Kd.int .i64) 2 wc w.heap.size (fun _ => True) v541 t540) ∧ Aside0 (Kd.S (Kd.slice 2 (Kd.int .i64)) 35 wc w.heap.size (fun k_ => some k_ ≠ (v541 : Value).ownBlock ∧ some k_ ≠ ((.slice Ao20 t531.length co20) : Value).ownBlock) (.slice Ao14 t524.length co14) t524) ∧ Aside0 (Kd.S (Kd.slice 2 (Kd.int .i64)) 35 wc w.heap.size (fun k_ => some k_ ≠ (v541 : Value).ownBlock ∧ some k_ ≠ ((.slice Ao14 t524.length co14) : Value).ownBlock) (.slice Ao20 t531.length co20) t531) ∧ Aside0 (wc.heap[gb527]? = some (.cells #[.int .i64 t523, (.slice Ao14 t524.length co14)] 24 (0, 0))) ∧ Aside0 (wc.heap[gb535]? = some (.cells #[.int .i64 t530, (.slice Ao20 t531.length co20)] 24 (0, 0))) ∧ Aside0 (Below w.heap.size w wc))
    case first =>
      have H := HC10.out
      clear HC10
      by_cases c25 : t529 = true
      · subst c25
        have H1 : (if t534 = true then (if t539 = true then (if t543 = true then ((laws_b10Yards.f k t530 t531 t523 t524).bind fun t544 => (if t544 = true then (if (t536.length : Int) = (t524.length : Int) then ((laws_b10Lots.f k t523 t524).bind fun t545 => (laws_FnStacked.j0 k l1 t540 (decide ((t540.length : Int) > t545)) t523 t524)) else (laws_FnStacked.j0 k l1 t540 true t523 t524)) else (laws_FnStacked.j0 k l1 t540 true t523 t524))) else (laws_FnStacked.j0 k l1 t540 true t523 t524)) else (laws_FnStacked.j0 k l1 t540 true t523 t524)) else (laws_FnStacked.j0 k l1 t540 true t523 t524)) = some true := by rw [if_pos rfl] at H; exact H
        clear H
        have H := H1
        clear H1
        by_cases c26 : t534 = true
        · subst c26
          have H1 : (if t539 = true then (if t543 = true then ((laws_b10Yards.f k t530 t531 t523 t524).bind fun t544 => (if t544 = true then (if (t536.length : Int) = (t524.length : Int) then ((laws_b10Lots.f k t523 t524).bind fun t545 => (laws_FnStacked.j0 k l1 t540 (decide ((t540.length : Int) > t545)) t523 t524)) else (laws_FnStacked.j0 k l1 t540 true t523 t524)) else (laws_FnStacked.j0 k l1 t540 true t523 t524))) else (laws_FnStacked.j0 k l1 t540 true t523 t524)) else (laws_FnStacked.j0 k l1 t540 true t523 t524)) = some true := by rw [if_pos rfl] at H; exact H
          clear H
          have H := H1
          clear H1
          by_cases c27 : t539 = true
          · subst c27
            have H1 : (if t543 = true then ((laws_b10Yards.f k t530 t531 t523 t524).bind fun t544 => (if t544 = true then (if (t536.length : Int) = (t524.length : Int) then ((laws_b10Lots.f k t523 t524).bind fun t545 => (laws_FnStacked.j0 k l1 t540 (decide ((t540.length : Int) > t545)) t523 t524)) else (laws_FnStacked.j0 k l1 t540 true t523 t524)) else (laws_FnStacked.j0 k l1 t540 true t523 t524))) else (laws_FnStacked.j0 k l1 t540 true t523 t524)) = some true := by rw [if_pos rfl] at H; exact H
            clear H
            have H := H1
            clear H1
            by_cases c28 : t543 = true
            · subst c28
              have H1 : ((laws_b10Yards.f k t530 t531 t523 t524).bind fun t544 => (if t544 = true then (if (t536.length : Int) = (t524.length : Int) then ((laws_b10Lots.f k t523 t524).bind fun t545 => (laws_FnStacked.j0 k l1 t540 (decide ((t540.length : Int) > t545)) t523 t524)) else (laws_FnStacked.j0 k l1 t540 true t523 t524)) else (laws_FnStacked.j0 k l1 t540 true t523 t524))) = some true := by rw [if_pos rfl] at H; exact H
              clear H
              have H := H1
              clear H1
              replace H := Option.bind_eq_some_iff.mp H
              obtain ⟨t544, A290, H⟩ := H
              replace H : (if t544 = true then (if (t536.length : Int) = (t524.length : Int) then ((laws_b10Lots.f k t523 t524).bind fun t545 => (laws_FnStacked.j0 k l1 t540 (decide ((t540.length : Int) > t545)) t523 t524)) else (laws_FnStacked.j0 k l1 t540 true t523 t524)) else (laws_FnStacked.j0 k l1 t540 true t523 t524)) = some true := H
              have A29 := Aside0.mk A290
              clear A290
              by_cases c30 : t544 = true
              · subst c30
                have H1 : (if (t536.length : Int) = (t524.length : Int) then ((laws_b10Lots.f k t523 t524).bind fun t545 => (laws_FnStacked.j0 k l1 t540 (decide ((t540.length : Int) > t545)) t523 t524)) else (laws_FnStacked.j0 k l1 t540 true t523 t524)) = some true := by rw [if_pos rfl] at H; exact H
                clear H
                have H := H1
                clear H1
                by_cases c31 : (t536.length : Int) = (t524.length : Int)
                · rw [if_pos c31] at H
                  have c31b0 : ((t536.length : Int) == (t524.length : Int)) = true := beq_iff_eq.mpr c31
                  have c31b1 : ((t536.length : Int) != (t524.length : Int)) = false := bne_eq_false_iff_eq.mpr c31
                  have c31b2 : (t536.length == t524.length) = true := by first | simpa using c31 | (simp at c31 ⊢; omega)
                  clear c31
                  (first | rw [c31b0] | (simp only [i64_w, i32_w]; rw [c31b0]) | skip)
                  replace H := Option.bind_eq_some_iff.mp H
                  obtain ⟨t545, A320, H⟩ := H
                  replace H : (laws_FnStacked.j0 k l1 t540 (decide ((t540.length : Int) > t545)) t523 t524) = some true := H
                  have A32 := Aside0.mk A320
                  clear A320
                  have H' := Aside0.mk H
                  clear H
                  have hnb33 := NB535_527.out
                  have hnc33 := NB527_535.out
                  have hcz34_0 : w24.cell? ⟨gb535, 0, none⟩ = some (.int .i64 t530) := (blk_cell BK535.out 0).trans rfl
                  have hcz34_1 : w24.cell? ⟨gb535, 1, none⟩ = some (.slice Ao20 t531.length co20) := (blk_cell BK535.out 1).trans rfl
                  have hfz34_0 := blk_frozen BK535.out 0
                  have hfz34_1 := blk_frozen BK535.out 1
                  have hcz35_0 : w24.cell? ⟨gb527, 0, none⟩ = some (.int .i64 t523) := (blk_cell BK527.out 0).trans rfl
                  have hcz35_1 : w24.cell? ⟨gb527, 1, none⟩ = some (.slice Ao14 t524.length co14) := (blk_cell BK527.out 1).trans rfl
                  have hfz35_0 := blk_frozen BK527.out 0
                  have hfz35_1 := blk_frozen BK527.out 1
                  go_wp2_with (first | (go_at_call 15; (with_reducible refine (laws_b10Yards.calls k t530 _ _ t531 t523 _ _ t524 true _ ?side1 ?side2 ?side3 ?side4 A29.out).mono ?_); (case side1 => repeat (first | exact (Kd.S_reads' HO533.out).2.2 | (with_reducible refine Kd.C_alloc ?_ _) | (with_reducible refine Kd.C_drewN ?_ _) | (with_reducible refine Kd.C_drew ?_))); (case side2 => exact (Kd.S_reads' HO533.out).2.1); (case side3 => repeat (first | exact (Kd.S_reads' HO526.out).2.2 | (with_reducible refine Kd.C_alloc ?_ _) | (with_reducible refine Kd.C_drewN ?_ _) | (with_reducible refine Kd.C_drew ?_))); (case side4 => exact (Kd.S_reads' HO526.out).2.1); rintro e w36 ⟨rfl, hb⟩; have n0_ := Aside0.mk (Kd.S_below (by (with_reducible repeat (first | apply Kd.S_alloc | apply Kd.S_drewN | apply Kd.S_drew)); exact HO526.out) hb); have n1_ := Aside0.mk (Kd.S_below (by (with_reducible repeat (first | apply Kd.S_alloc | apply Kd.S_drewN | apply Kd.S_drew)); exact HO533.out) hb); have n2_ := Aside0.mk (Kd.R_below (by (with_reducible repeat (first | apply Kd.R_alloc | apply Kd.R_drewN | apply Kd.R_drew)); exact HO538.out) hb); have n3_ := Aside0.mk (Kd.R_below (by (with_reducible repeat (first | apply Kd.R_alloc | apply Kd.R_drewN | apply Kd.R_drew)); exact HO542.out) hb); have n4_ := Aside0.mk (blk_below (g := gb527) (o := .cells #[.int .i64 t523, .slice Ao14 t524.length co14] 24 (0, 0)) (by (with_reducible repeat (first | refine blk_drewN ?_ _ | refine blk_drew ?_ | refine blk_alloc ?_ _)); exact BK527.out) hb); have n5_ := Aside0.mk (blk_below (g := gb535) (o := .cells #[.int .i64 t530, .slice Ao20 t531.length co20] 24 (0, 0)) (by (with_reducible repeat (first | refine blk_drewN ?_ _ | refine blk_drew ?_ | refine blk_alloc ?_ _)); exact BK535.out) hb); have n6_ := Aside0.mk (below_step (by repeat (first | (with_reducible first | exact HB.out | apply below_alloc | apply pw_below_drewN | apply below_drew1 | refine below_set ?_ GE527.out | refine below_set ?_ GE535.out) | exact HB.out)) hb); clear HO526; clear HO533; clear HO538; clear HO542; clear BK527; clear BK535; clear HB; have HO526 := n0_; have HO533 := n1_; have HO538 := n2_; have HO542 := n3_; have BK527 := n4_; have BK535 := n5_; have HB := n6_; clear n0_ n1_ n2_ n3_ n4_ n5_ n6_; (try clear hb); (try clear hb2); (try clear hk); (try clear hi); obtain ⟨Ao37, co37, eo37⟩ := Kd.R_slice HO538.out; subst eo37; have hcz38_0 : w36.cell? ⟨gb527, 0, none⟩ = some (.int .i64 t523) := (blk_cell BK527.out 0).trans rfl; have hcz38_1 : w36.cell? ⟨gb527, 1, none⟩ = some (.slice Ao14 t524.length co14) := (blk_cell BK527.out 1).trans rfl; have hfz38_0 := blk_frozen BK527.out 0; have hfz38_1 := blk_frozen BK527.out 1; obtain ⟨Ao39, co39, eo39⟩ := Kd.R_slice HO542.out; subst eo39) | (go_at_call 16; (with_reducible refine (laws_b10Lots.calls k t523 _ _ t524 t545 _ ?side1 ?side2 A32.out).mono ?_); (case side1 => repeat (first | exact (Kd.S_reads' HO526.out).2.2 | (with_reducible refine Kd.C_alloc ?_ _) | (with_reducible refine Kd.C_drewN ?_ _) | (with_reducible refine Kd.C_drew ?_))); (case side2 => exact (Kd.S_reads' HO526.out).2.1); rintro e w40 ⟨rfl, hb⟩; have n0_ := Aside0.mk (Kd.S_below (by (with_reducible repeat (first | apply Kd.S_alloc | apply Kd.S_drewN | apply Kd.S_drew)); exact HO526.out) hb); have n1_ := Aside0.mk (Kd.S_below (by (with_reducible repeat (first | apply Kd.S_alloc | apply Kd.S_drewN | apply Kd.S_drew)); exact HO533.out) hb); have n2_ := Aside0.mk (Kd.R_below (by (with_reducible repeat (first | apply Kd.R_alloc | apply Kd.R_drewN | apply Kd.R_drew)); exact HO538.out) hb); have n3_ := Aside0.mk (Kd.R_below (by (with_reducible repeat (first | apply Kd.R_alloc | apply Kd.R_drewN | apply Kd.R_drew)); exact HO542.out) hb); have n4_ := Aside0.mk (blk_below (g := gb527) (o := .cells #[.int .i64 t523, .slice Ao14 t524.length co14] 24 (0, 0)) (by (with_reducible repeat (first | refine blk_drewN ?_ _ | refine blk_drew ?_ | refine blk_alloc ?_ _)); exact BK527.out) hb); have n5_ := Aside0.mk (blk_below (g := gb535) (o := .cells #[.int .i64 t530, .slice Ao20 t531.length co20] 24 (0, 0)) (by (with_reducible repeat (first | refine blk_drewN ?_ _ | refine blk_drew ?_ | refine blk_alloc ?_ _)); exact BK535.out) hb); have n6_ := Aside0.mk (below_step (by repeat (first | (with_reducible first | exact HB.out | apply below_alloc | apply pw_below_drewN | apply below_drew1 | refine below_set ?_ GE527.out | refine below_set ?_ GE535.out) | exact HB.out)) hb); clear HO526; clear HO533; clear HO538; clear HO542; clear BK527; clear BK535; clear HB; have HO526 := n0_; have HO533 := n1_; have HO538 := n2_; have HO542 := n3_; have BK527 := n4_; have BK535 := n5_; have HB := n6_; clear n0_ n1_ n2_ n3_ n4_ n5_ n6_; (try clear hb); (try clear hb2); (try clear hk); (try clear hi)))
                  repeat (go_quiet (fail); try go_wp2)
                  go_meet
                  case rel => exact ⟨_, (decide ((t540.length : Int) > t545)), (by first | rfl | (simp; done) | (simp [*]; done)), H', ⟨by first | omega | exact Nat.le_refl _⟩, ⟨by (with_reducible repeat (first | apply Kd.R_alloc | apply Kd.R_drewN | apply Kd.R_drew)); exact Kd.R_mono HO542.out (fun _ hk => trivial)⟩, ⟨by (with_reducible repeat (first | apply Kd.S_alloc | apply Kd.S_drewN | apply Kd.S_drew)); exact Kd.S_mono HO526.out (fun _ hk => ⟨hk.2, hk.1.1.2⟩)⟩, ⟨by (with_reducible repeat (first | apply Kd.S_alloc | apply Kd.S_drewN | apply Kd.S_drew)); exact Kd.S_mono HO533.out (fun _ hk => ⟨hk.2, hk.1.1.2⟩)⟩, ⟨by (with_reducible repeat (first | refine blk_drewN ?_ _ | refine blk_drew ?_ | refine blk_alloc ?_ _)); exact BK527.out⟩, ⟨by (with_reducible repeat (first | refine blk_drewN ?_ _ | refine blk_drew ?_ | refine blk_alloc ?_ _)); exact BK535.out⟩, ⟨by repeat (first | (with_reducible first | exact HB.out | apply below_alloc | apply pw_below_drewN | apply below_drew1 | refine below_set ?_ GE527.out | refine below_set ?_ GE535.out) | exact HB.out)⟩⟩
                · rw [if_neg c31] at H
                  have c31b0 : ((t536.length : Int) == (t524.length : Int)) = false := beq_eq_false_iff_ne.mpr c31
                  have c31b1 : ((t536.length : Int) != (t524.length : Int)) = true := bne_iff_ne.mpr c31
                  have c31b2 : (t536.length == t524.length) = false := by first | simpa using c31 | (simp at c31 ⊢; omega)
                  (first | rw [c31b0] | (simp only [i64_w, i32_w]; rw [c31b0]) | skip)
                  have H' := Aside0.mk H
                  clear H
                  have hnb41 := NB535_527.out
                  have hnc41 := NB527_535.out
                  have hcz42_0 : w24.cell? ⟨gb535, 0, none⟩ = some (.int .i64 t530) := (blk_cell BK535.out 0).trans rfl
                  have hcz42_1 : w24.cell? ⟨gb535, 1, none⟩ = some (.slice Ao20 t531.length co20) := (blk_cell BK535.out 1).trans rfl
                  have hfz42_0 := blk_frozen BK535.out 0
                  have hfz42_1 := blk_frozen BK535.out 1
                  have hcz43_0 : w24.cell? ⟨gb527, 0, none⟩ = some (.int .i64 t523) := (blk_cell BK527.out 0).trans rfl
                  have hcz43_1 : w24.cell? ⟨gb527, 1, none⟩ = some (.slice Ao14 t524.length co14) := (blk_cell BK527.out 1).trans rfl
                  have hfz43_0 := blk_frozen BK527.out 0
                  have hfz43_1 := blk_frozen BK527.out 1
                  go_wp2_with (first | (go_at_call 15; (with_reducible refine (laws_b10Yards.calls k t530 _ _ t531 t523 _ _ t524 true _ ?side1 ?side2 ?side3 ?side4 A29.out).mono ?_); (case side1 => repeat (first | exact (Kd.S_reads' HO533.out).2.2 | (with_reducible refine Kd.C_alloc ?_ _) | (with_reducible refine Kd.C_drewN ?_ _) | (with_reducible refine Kd.C_drew ?_))); (case side2 => exact (Kd.S_reads' HO533.out).2.1); (case side3 => repeat (first | exact (Kd.S_reads' HO526.out).2.2 | (with_reducible refine Kd.C_alloc ?_ _) | (with_reducible refine Kd.C_drewN ?_ _) | (with_reducible refine Kd.C_drew ?_))); (case side4 => exact (Kd.S_reads' HO526.out).2.1); rintro e w44 ⟨rfl, hb⟩; have n0_ := Aside0.mk (Kd.S_below (by (with_reducible repeat (first | apply Kd.S_alloc | apply Kd.S_drewN | apply Kd.S_drew)); exact HO526.out) hb); have n1_ := Aside0.mk (Kd.S_below (by (with_reducible repeat (first | apply Kd.S_alloc | apply Kd.S_drewN | apply Kd.S_drew)); exact HO533.out) hb); have n2_ := Aside0.mk (Kd.R_below (by (with_reducible repeat (first | apply Kd.R_alloc | apply Kd.R_drewN | apply Kd.R_drew)); exact HO538.out) hb); have n3_ := Aside0.mk (Kd.R_below (by (with_reducible repeat (first | apply Kd.R_alloc | apply Kd.R_drewN | apply Kd.R_drew)); exact HO542.out) hb); have n4_ := Aside0.mk (blk_below (g := gb527) (o := .cells #[.int .i64 t523, .slice Ao14 t524.length co14] 24 (0, 0)) (by (with_reducible repeat (first | refine blk_drewN ?_ _ | refine blk_drew ?_ | refine blk_alloc ?_ _)); exact BK527.out) hb); have n5_ := Aside0.mk (blk_below (g := gb535) (o := .cells #[.int .i64 t530, .slice Ao20 t531.length co20] 24 (0, 0)) (by (with_reducible repeat (first | refine blk_drewN ?_ _ | refine blk_drew ?_ | refine blk_alloc ?_ _)); exact BK535.out) hb); have n6_ := Aside0.mk (below_step (by repeat (first | (with_reducible first | exact HB.out | apply below_alloc | apply pw_below_drewN | apply below_drew1 | refine below_set ?_ GE527.out | refine below_set ?_ GE535.out) | exact HB.out)) hb); clear HO526; clear HO533; clear HO538; clear HO542; clear BK527; clear BK535; clear HB; have HO526 := n0_; have HO533 := n1_; have HO538 := n2_; have HO542 := n3_; have BK527 := n4_; have BK535 := n5_; have HB := n6_; clear n0_ n1_ n2_ n3_ n4_ n5_ n6_; (try clear hb); (try clear hb2); (try clear hk); (try clear hi); obtain ⟨Ao45, co45, eo45⟩ := Kd.R_slice HO538.out; subst eo45; have hcz46_0 : w44.cell? ⟨gb527, 0, none⟩ = some (.int .i64 t523) := (blk_cell BK527.out 0).trans rfl; have hcz46_1 : w44.cell? ⟨gb527, 1, none⟩ = some (.slice Ao14 t524.length co14) := (blk_cell BK527.out 1).trans rfl; have hfz46_0 := blk_frozen BK527.out 0; have hfz46_1 := blk_frozen BK527.out 1))
                  repeat (go_quiet (fail); try go_wp2)
                  go_meet
                  case rel => exact ⟨_, (true), (by first | rfl | (simp; done) | (simp [*]; done)), H', ⟨by first | omega | exact Nat.le_refl _⟩, ⟨by (with_reducible repeat (first | apply Kd.R_alloc | apply Kd.R_drewN | apply Kd.R_drew)); exact Kd.R_mono HO542.out (fun _ hk => trivial)⟩, ⟨by (with_reducible repeat (first | apply Kd.S_alloc | apply Kd.S_drewN | apply Kd.S_drew)); exact Kd.S_mono HO526.out (fun _ hk => ⟨hk.2, hk.1.1.2⟩)⟩, ⟨by (with_reducible repeat (first | apply Kd.S_alloc | apply Kd.S_drewN | apply Kd.S_drew)); exact Kd.S_mono HO533.out (fun _ hk => ⟨hk.2, hk.1.1.2⟩)⟩, ⟨by (with_reducible repeat (first | refine blk_drewN ?_ _ | refine blk_drew ?_ | refine blk_alloc ?_ _)); exact BK527.out⟩, ⟨by (with_reducible repeat (first | refine blk_drewN ?_ _ | refine blk_drew ?_ | refine blk_alloc ?_ _)); exact BK535.out⟩, ⟨by repeat (first | (with_reducible first | exact HB.out | apply below_alloc | apply pw_below_drewN | apply below_drew1 | refine below_set ?_ GE527.out | refine below_set ?_ GE535.out) | exact HB.out)⟩⟩
              · replace c30 := Bool.eq_false_iff.mpr c30
                subst c30
                have H1 : (laws_FnStacked.j0 k l1 t540 true t523 t524) = some true := by rw [if_neg (show ¬ (false = true) by decide)] at H; exact H
                clear H
                have H := H1
                clear H1
                have H' := Aside0.mk H
                clear H
                have hnb47 := NB535_527.out
                have hnc47 := NB527_535.out
                have hcz48_0 : w24.cell? ⟨gb535, 0, none⟩ = some (.int .i64 t530) := (blk_cell BK535.out 0).trans rfl
                have hcz48_1 : w24.cell? ⟨gb535, 1, none⟩ = some (.slice Ao20 t531.length co20) := (blk_cell BK535.out 1).trans rfl
                have hfz48_0 := blk_frozen BK535.out 0
                have hfz48_1 := blk_frozen BK535.out 1
                have hcz49_0 : w24.cell? ⟨gb527, 0, none⟩ = some (.int .i64 t523) := (blk_cell BK527.out 0).trans rfl
                have hcz49_1 : w24.cell? ⟨gb527, 1, none⟩ = some (.slice Ao14 t524.length co14) := (blk_cell BK527.out 1).trans rfl
                have hfz49_0 := blk_frozen BK527.out 0
                have hfz49_1 := blk_frozen BK527.out 1
                go_wp2_with (first | (go_at_call 15; (with_reducible refine (laws_b10Yards.calls k t530 _ _ t531 t523 _ _ t524 false _ ?side1 ?side2 ?side3 ?side4 A29.out).mono ?_); (case side1 => repeat (first | exact (Kd.S_reads' HO533.out).2.2 | (with_reducible refine Kd.C_alloc ?_ _) | (with_reducible refine Kd.C_drewN ?_ _) | (with_reducible refine Kd.C_drew ?_))); (case side2 => exact (Kd.S_reads' HO533.out).2.1); (case side3 => repeat (first | exact (Kd.S_reads' HO526.out).2.2 | (with_reducible refine Kd.C_alloc ?_ _) | (with_reducible refine Kd.C_drewN ?_ _) | (with_reducible refine Kd.C_drew ?_))); (case side4 => exact (Kd.S_reads' HO526.out).2.1); rintro e w50 ⟨rfl, hb⟩; have n0_ := Aside0.mk (Kd.S_below (by (with_reducible repeat (first | apply Kd.S_alloc | apply Kd.S_drewN | apply Kd.S_drew)); exact HO526.out) hb); have n1_ := Aside0.mk (Kd.S_below (by (with_reducible repeat (first | apply Kd.S_alloc | apply Kd.S_drewN | apply Kd.S_drew)); exact HO533.out) hb); have n2_ := Aside0.mk (Kd.R_below (by (with_reducible repeat (first | apply Kd.R_alloc | apply Kd.R_drewN | apply Kd.R_drew)); exact HO538.out) hb); have n3_ := Aside0.mk (Kd.R_below (by (with_reducible repeat (first | apply Kd.R_alloc | apply Kd.R_drewN | apply Kd.R_drew)); exact HO542.out) hb); have n4_ := Aside0.mk (blk_below (g := gb527) (o := .cells #[.int .i64 t523, .slice Ao14 t524.length co14] 24 (0, 0)) (by (with_reducible repeat (first | refine blk_drewN ?_ _ | refine blk_drew ?_ | refine blk_alloc ?_ _)); exact BK527.out) hb); have n5_ := Aside0.mk (blk_below (g := gb535) (o := .cells #[.int .i64 t530, .slice Ao20 t531.length co20] 24 (0, 0)) (by (with_reducible repeat (first | refine blk_drewN ?_ _ | refine blk_drew ?_ | refine blk_alloc ?_ _)); exact BK535.out) hb); have n6_ := Aside0.mk (below_step (by repeat (first | (with_reducible first | exact HB.out | apply below_alloc | apply pw_below_drewN | apply below_drew1 | refine below_set ?_ GE527.out | refine below_set ?_ GE535.out) | exact HB.out)) hb); clear HO526; clear HO533; clear HO538; clear HO542; clear BK527; clear BK535; clear HB; have HO526 := n0_; have HO533 := n1_; have HO538 := n2_; have HO542 := n3_; have BK527 := n4_; have BK535 := n5_; have HB := n6_; clear n0_ n1_ n2_ n3_ n4_ n5_ n6_; (try clear hb); (try clear hb2); (try clear hk); (try clear hi)))
                repeat (go_quiet (fail); try go_wp2)
                go_meet
                case rel => exact ⟨_, (true), (by first | rfl | (simp; done) | (simp [*]; done)), H', ⟨by first | omega | exact Nat.le_refl _⟩, ⟨by (with_reducible repeat (first | apply Kd.R_alloc | apply Kd.R_drewN | apply Kd.R_drew)); exact Kd.R_mono HO542.out (fun _ hk => trivial)⟩, ⟨by (with_reducible repeat (first | apply Kd.S_alloc | apply Kd.S_drewN | apply Kd.S_drew)); exact Kd.S_mono HO526.out (fun _ hk => ⟨hk.2, hk.1.1.2⟩)⟩, ⟨by (with_reducible repeat (first | apply Kd.S_alloc | apply Kd.S_drewN | apply Kd.S_drew)); exact Kd.S_mono HO533.out (fun _ hk => ⟨hk.2, hk.1.1.2⟩)⟩, ⟨by (with_reducible repeat (first | refine blk_drewN ?_ _ | refine blk_drew ?_ | refine blk_alloc ?_ _)); exact BK527.out⟩, ⟨by (with_reducible repeat (first | refine blk_drewN ?_ _ | refine blk_drew ?_ | refine blk_alloc ?_ _)); exact BK535.out⟩, ⟨by repeat (first | (with_reducible first | exact HB.out | apply below_alloc | apply pw_below_drewN | apply below_drew1 | refine below_set ?_ GE527.out | refine below_set ?_ GE535.out) | exact HB.out)⟩⟩
            · replace c28 := Bool.eq_false_iff.mpr c28
              subst c28
              have H1 : (laws_FnStacked.j0 k l1 t540 true t523 t524) = some true := by rw [if_neg (show ¬ (false = true) by decide)] at H; exact H
              clear H
              have H := H1
              clear H1
              have H' := Aside0.mk H
              clear H
              go_wp2
              repeat (go_quiet (fail); try go_wp2)
              go_meet
              case rel => exact ⟨_, (true), (by first | rfl | (simp; done) | (simp [*]; done)), H', ⟨by first | omega | exact Nat.le_refl _⟩, ⟨by (with_reducible repeat (first | apply Kd.R_alloc | apply Kd.R_drewN | apply Kd.R_drew)); exact Kd.R_mono HO542.out (fun _ hk => trivial)⟩, ⟨by (with_reducible repeat (first | apply Kd.S_alloc | apply Kd.S_drewN | apply Kd.S_drew)); exact Kd.S_mono HO526.out (fun _ hk => ⟨hk.2, hk.1.1.2⟩)⟩, ⟨by (with_reducible repeat (first | apply Kd.S_alloc | apply Kd.S_drewN | apply Kd.S_drew)); exact Kd.S_mono HO533.out (fun _ hk => ⟨hk.2, hk.1.1.2⟩)⟩, ⟨by (with_reducible repeat (first | refine blk_drewN ?_ _ | refine blk_drew ?_ | refine blk_alloc ?_ _)); exact BK527.out⟩, ⟨by (with_reducible repeat (first | refine blk_drewN ?_ _ | refine blk_drew ?_ | refine blk_alloc ?_ _)); exact BK535.out⟩, ⟨by repeat (first | (with_reducible first | exact HB.out | apply below_alloc | apply pw_below_drewN | apply below_drew1 | refine below_set ?_ GE527.out | refine below_set ?_ GE535.out) | exact HB.out)⟩⟩
          · replace c27 := Bool.eq_false_iff.mpr c27
            subst c27
            have H1 : (laws_FnStacked.j0 k l1 t540 true t523 t524) = some true := by rw [if_neg (show ¬ (false = true) by decide)] at H; exact H
            clear H
            have H := H1
            clear H1
            have H' := Aside0.mk H
            clear H
            go_wp2
            repeat (go_quiet (fail); try go_wp2)
            go_meet
            case rel => exact ⟨_, (true), (by first | rfl | (simp; done) | (simp [*]; done)), H', ⟨by first | omega | exact Nat.le_refl _⟩, ⟨by (with_reducible repeat (first | apply Kd.R_alloc | apply Kd.R_drewN | apply Kd.R_drew)); exact Kd.R_mono HO542.out (fun _ hk => trivial)⟩, ⟨by (with_reducible repeat (first | apply Kd.S_alloc | apply Kd.S_drewN | apply Kd.S_drew)); exact Kd.S_mono HO526.out (fun _ hk => ⟨hk.2, hk.1.1.2⟩)⟩, ⟨by (with_reducible repeat (first | apply Kd.S_alloc | apply Kd.S_drewN | apply Kd.S_drew)); exact Kd.S_mono HO533.out (fun _ hk => ⟨hk.2, hk.1.1.2⟩)⟩, ⟨by (with_reducible repeat (first | refine blk_drewN ?_ _ | refine blk_drew ?_ | refine blk_alloc ?_ _)); exact BK527.out⟩, ⟨by (with_reducible repeat (first | refine blk_drewN ?_ _ | refine blk_drew ?_ | refine blk_alloc ?_ _)); exact BK535.out⟩, ⟨by repeat (first | (with_reducible first | exact HB.out | apply below_alloc | apply pw_below_drewN | apply below_drew1 | refine below_set ?_ GE527.out | refine below_set ?_ GE535.out) | exact HB.out)⟩⟩
        · replace c26 := Bool.eq_false_iff.mpr c26
          subst c26
          have H1 : (laws_FnStacked.j0 k l1 t540 true t523 t524) = some true := by rw [if_neg (show ¬ (false = true) by decide)] at H; exact H
          clear H
          have H := H1
          clear H1
          have H' := Aside0.mk H
          clear H
          go_wp2
          repeat (go_quiet (fail); try go_wp2)
          go_meet
          case rel => exact ⟨_, (true), (by first | rfl | (simp; done) | (simp [*]; done)), H', ⟨by first | omega | exact Nat.le_refl _⟩, ⟨by (with_reducible repeat (first | apply Kd.R_alloc | apply Kd.R_drewN | apply Kd.R_drew)); exact Kd.R_mono HO542.out (fun _ hk => trivial)⟩, ⟨by (with_reducible repeat (first | apply Kd.S_alloc | apply Kd.S_drewN | apply Kd.S_drew)); exact Kd.S_mono HO526.out (fun _ hk => ⟨hk.2, hk.1.1.2⟩)⟩, ⟨by (with_reducible repeat (first | apply Kd.S_alloc | apply Kd.S_drewN | apply Kd.S_drew)); exact Kd.S_mono HO533.out (fun _ hk => ⟨hk.2, hk.1.1.2⟩)⟩, ⟨by (with_reducible repeat (first | refine blk_drewN ?_ _ | refine blk_drew ?_ | refine blk_alloc ?_ _)); exact BK527.out⟩, ⟨by (with_reducible repeat (first | refine blk_drewN ?_ _ | refine blk_drew ?_ | refine blk_alloc ?_ _)); exact BK535.out⟩, ⟨by repeat (first | (with_reducible first | exact HB.out | apply below_alloc | apply pw_below_drewN | apply below_drew1 | refine below_set ?_ GE527.out | refine below_set ?_ GE535.out) | exact HB.out)⟩⟩
      · replace c25 := Bool.eq_false_iff.mpr c25
        subst c25
        have H1 : (laws_FnStacked.j0 k l1 t540 true t523 t524) = some true := by rw [if_neg (show ¬ (false = true) by decide)] at H; exact H
        clear H
        have H := H1
        clear H1
        have H' := Aside0.mk H
        clear H
        go_wp2
        repeat (go_quiet (fail); try go_wp2)
        go_meet
        case rel => exact ⟨_, (true), (by first | rfl | (simp; done) | (simp [*]; done)), H', ⟨by first | omega | exact Nat.le_refl _⟩, ⟨by (with_reducible repeat (first | apply Kd.R_alloc | apply Kd.R_drewN | apply Kd.R_drew)); exact Kd.R_mono HO542.out (fun _ hk => trivial)⟩, ⟨by (with_reducible repeat (first | apply Kd.S_alloc | apply Kd.S_drewN | apply Kd.S_drew)); exact Kd.S_mono HO526.out (fun _ hk => ⟨hk.2, hk.1.1.2⟩)⟩, ⟨by (with_reducible repeat (first | apply Kd.S_alloc | apply Kd.S_drewN | apply Kd.S_drew)); exact Kd.S_mono HO533.out (fun _ hk => ⟨hk.2, hk.1.1.2⟩)⟩, ⟨by (with_reducible repeat (first | refine blk_drewN ?_ _ | refine blk_drew ?_ | refine blk_alloc ?_ _)); exact BK527.out⟩, ⟨by (with_reducible repeat (first | refine blk_drewN ?_ _ | refine blk_drew ?_ | refine blk_alloc ?_ _)); exact BK535.out⟩, ⟨by repeat (first | (with_reducible first | exact HB.out | apply below_alloc | apply pw_below_drewN | apply below_drew1 | refine below_set ?_ GE527.out | refine below_set ?_ GE535.out) | exact HB.out)⟩⟩
    case rest =>
      clear HC10
      try clear c1
      try clear c2
      try clear p2
      try clear c3
      try clear c4
      try clear c18
      try clear c25
      try clear c26
      try clear c27
      try clear c28
      try clear c30
      try clear c31
      try clear c31b0
      try clear c31b1
      try clear c31b2
      try clear c33
      try clear c41
      try clear c47
      try clear hcz13_0
      try clear hcz13_1
      try clear hcz19_0
      try clear hcz19_1
      try clear hcz21_0
      try clear hcz21_1
      try clear hcz23_0
      try clear hcz23_1
      try clear hcz34_0
      try clear hcz34_1
      try clear hcz35_0
      try clear hcz35_1
      try clear hcz38_0
      try clear hcz38_1
      try clear hcz42_0
      try clear hcz42_1
      try clear hcz43_0
      try clear hcz43_1
      try clear hcz46_0
      try clear hcz46_1
      try clear hcz48_0
      try clear hcz48_1
      try clear hcz49_0
      try clear hcz49_1
      try clear hfz13_0
      try clear hfz13_1
      try clear hfz19_0
      try clear hfz19_1
      try clear hfz21_0
      try clear hfz21_1
      try clear hfz23_0
      try clear hfz23_1
      try clear hfz34_0
      try clear hfz34_1
      try clear hfz35_0
      try clear hfz35_1
      try clear hfz38_0
      try clear hfz38_1
      try clear hfz42_0
      try clear hfz42_1
      try clear hfz43_0
      try clear hfz43_1
      try clear hfz46_0
      try clear hfz46_1
      try clear hfz48_0
      try clear hfz48_1
      try clear hfz49_0
      try clear hfz49_1
      obtain ⟨kq, x83_9, rfl, HA, HJ9, HO_12, HO_528001, HO_536001, BK527, BK535, HB⟩ := hcut
      cases kq with
      | zero => exact absurd HA.out (by simp [laws_FnStacked.j0])
      | succ kj9 =>
        have H := HA.out
        clear HA
        simp only [laws_FnStacked.j0] at H
        by_cases c51 : x83_9 = true
        · subst c51
          have H1 : (some false) = some true := by rw [if_pos rfl] at H; exact H
          clear H
          have H := H1
          clear H1
          first | exact absurd (Option.some.inj H) (by decide) | clear H
          all_goals
            go_wp2
            repeat (go_quiet (fail); try go_wp2)
            go_ret
            exact ⟨by first | rfl | (simp [errW_none, errW_some] <;> rfl) | (simp [*, errW_none, errW_some] <;> rfl), by repeat (first | (with_reducible first | exact HB.out | apply below_alloc | apply pw_below_drewN | apply below_drew1 | refine below_set ?_ GE527.out | refine below_set ?_ GE535.out) | exact HB.out)⟩
        · replace c51 := Bool.eq_false_iff.mpr c51
          subst c51
          have H1 : ((laws_b10At.f l1 0 (t524.length : Int)).bind fun t546 => ((laws_b10At.f l1 1 (t524.length : Int)).bind fun t547 => ((impl_MoveTop.f t523 t524 t546 t547).bind fun bt548 => (if t546 = t547 then (laws_FnStacked.j1 kj9 t540 t546 t547 bt548.2.2 (bt548.2.2 != false) t523 t524 bt548.1 bt548.2.1) else (if 0 ≤ t546 then (if t546 < (t524.length : Int) then (if ((rd_L2 t524 t546).length : Int) > 0 then (if 0 ≤ t547 then (if t547 < (t524.length : Int) then (laws_FnStacked.j1 kj9 t540 t546 t547 bt548.2.2 (bt548.2.2 != (decide (((rd_L2 t524 t547).length : Int) < t523))) t523 t524 bt548.1 bt548.2.1) else (none)) else (none)) else (laws_FnStacked.j1 kj9 t540 t546 t547 bt548.2.2 (bt548.2.2 != false) t523 t524 bt548.1 bt548.2.1)) else (none)) else (none)))))) = some true := by rw [if_neg (show ¬ (false = true) by decide)] at H; exact H
          clear H
          have H := H1
          clear H1
          replace H := Option.bind_eq_some_iff.mp H
          obtain ⟨t546, A520, H⟩ := H
          replace H : ((laws_b10At.f l1 1 (t524.length : Int)).bind fun t547 => ((impl_MoveTop.f t523 t524 t546 t547).bind fun bt548 => (if t546 = t547 then (laws_FnStacked.j1 kj9 t540 t546 t547 bt548.2.2 (bt548.2.2 != false) t523 t524 bt548.1 bt548.2.1) else (if 0 ≤ t546 then (if t546 < (t524.length : Int) then (if ((rd_L2 t524 t546).length : Int) > 0 then (if 0 ≤ t547 then (if t547 < (t524.length : Int) then (laws_FnStacked.j1 kj9 t540 t546 t547 bt548.2.2 (bt548.2.2 != (decide (((rd_L2 t524 t547).length : Int) < t523))) t523 t524 bt548.1 bt548.2.1) else (none)) else (none)) else (laws_FnStacked.j1 kj9 t540 t546 t547 bt548.2.2 (bt548.2.2 != false) t523 t524 bt548.1 bt548.2.1)) else (none)) else (none))))) = some true := H
          have A52 := Aside0.mk A520
          clear A520
          replace H := Option.bind_eq_some_iff.mp H
          obtain ⟨t547, A530, H⟩ := H
          replace H : ((impl_MoveTop.f t523 t524 t546 t547).bind fun bt548 => (if t546 = t547 then (laws_FnStacked.j1 kj9 t540 t546 t547 bt548.2.2 (bt548.2.2 != false) t523 t524 bt548.1 bt548.2.1) else (if 0 ≤ t546 then (if t546 < (t524.length : Int) then (if ((rd_L2 t524 t546).length : Int) > 0 then (if 0 ≤ t547 then (if t547 < (t524.length : Int) then (laws_FnStacked.j1 kj9 t540 t546 t547 bt548.2.2 (bt548.2.2 != (decide (((rd_L2 t524 t547).length : Int) < t523))) t523 t524 bt548.1 bt548.2.1) else (none)) else (none)) else (laws_FnStacked.j1 kj9 t540 t546 t547 bt548.2.2 (bt548.2.2 != false) t523 t524 bt548.1 bt548.2.1)) else (none)) else (none)))) = some true := H
          have A53 := Aside0.mk A530
          clear A530
          replace H := Option.bind_eq_some_iff.mp H
          obtain ⟨⟨t548, t549, t552⟩, A540, H⟩ := H
          replace H : (if t546 = t547 then (laws_FnStacked.j1 kj9 t540 t546 t547 t552 (t552 != false) t523 t524 t548 t549) else (if 0 ≤ t546 then (if t546 < (t524.length : Int) then (if ((rd_L2 t524 t546).length : Int) > 0 then (if 0 ≤ t547 then (if t547 < (t524.length : Int) then (laws_FnStacked.j1 kj9 t540 t546 t547 t552 (t552 != (decide (((rd_L2 t524 t547).length : Int) < t523))) t523 t524 t548 t549) else (none)) else (none)) else (laws_FnStacked.j1 kj9 t540 t546 t547 t552 (t552 != false) t523 t524 t548 t549)) else (none)) else (none))) = some true := H
          have A54 := Aside0.mk A540
          clear A540
          have HC55 := Aside0.mk H
          clear H
          have hnb56 := NB527_535.out
          have hnc56 := NB535_527.out
          have hcz57_0 : wc.cell? ⟨gb527, 0, none⟩ = some (.int .i64 t523) := (blk_cell BK527.out 0).trans rfl
          have hcz57_1 : wc.cell? ⟨gb527, 1, none⟩ = some (.slice Ao14 t524.length co14) := (blk_cell BK527.out 1).trans rfl
          have hfz57_0 := blk_frozen BK527.out 0
          have hfz57_1 := blk_frozen BK527.out 1
          go_upto_region 13 with (first | (go_at_call 17; (with_reducible refine (laws_b10At.calls _ _ l1 0 (t524.length : Int) t546 _ ?side1 ?side2 A52.out).mono ?_); (case side1 => repeat (first | exact (Kd.C_below HR1.out HB.out) | (with_reducible refine Kd.C_alloc ?_ _) | (with_reducible refine Kd.C_drewN ?_ _) | (with_reducible refine Kd.C_drew ?_))); (case side2 => exact HC1.out); rintro e w' ⟨rfl, ⟨nd, rfl⟩⟩; (try first | exact ⟨rfl, _, World.drewN_drewN _ _ _⟩ | exact ⟨rfl, _, Eq.trans (World.drewN_drewN _ _ _) (congrArg (World.drewN _) (Nat.add_assoc _ _ _))⟩)) | (go_at_call 17; (with_reducible refine (laws_b10At.calls _ _ l1 1 (t524.length : Int) t547 _ ?side1 ?side2 A53.out).mono ?_); (case side1 => repeat (first | exact (Kd.C_below HR1.out (by repeat (first | (with_reducible first | exact HB.out | apply below_alloc | apply pw_below_drewN | apply below_drew1 | refine below_set ?_ GE527.out | refine below_set ?_ GE535.out) | exact HB.out))) | (with_reducible refine Kd.C_alloc ?_ _) | (with_reducible refine Kd.C_drewN ?_ _) | (with_reducible refine Kd.C_drew ?_))); (case side2 => exact HC1.out); rintro e w' ⟨rfl, ⟨nd, rfl⟩⟩; (try first | exact ⟨rfl, _, World.drewN_drewN _ _ _⟩ | exact ⟨rfl, _, Eq.trans (World.drewN_drewN _ _ _) (congrArg (World.drewN _) (Nat.add_assoc _ _ _))⟩)) | (go_at_call 18; (with_reducible refine (impl_MoveTop.calls t523 _ _ t524 t546 t547 t548 t549 t552 _ ?side1 ?side2 A54.out).mono ?_); (case side1 => repeat (first | exact (Kd.S_reads' HO_528001.out).2.2 | (with_reducible refine Kd.C_alloc ?_ _) | (with_reducible refine Kd.C_drewN ?_ _) | (with_reducible refine Kd.C_drew ?_))); (case side2 => exact (Kd.S_reads' HO_528001.out).2.1); rintro e w58 ⟨v550, rfl, ho0, hb⟩; have n0_ := Aside0.mk (Kd.R_below (by (with_reducible repeat (first | apply Kd.R_alloc | apply Kd.R_drewN | apply Kd.R_drew)); exact HO_12.out) hb); have n1_ := Aside0.mk (Kd.S_elder' (by (with_reducible repeat (first | apply Kd.S_alloc | apply Kd.S_drewN | apply Kd.S_drew)); exact HO_528001.out) (Kd.S_base ho0) hb); have n2_ := Aside0.mk (Kd.S_elder' (by (with_reducible repeat (first | apply Kd.S_alloc | apply Kd.S_drewN | apply Kd.S_drew)); exact HO_536001.out) (Kd.S_base ho0) hb); have n3_ := Aside0.mk (Kd.S_lower (Kd.S_new' (Kd.S_new' (Kd.S_new' ho0 (Kd.R_lt (by (with_reducible repeat (first | apply Kd.R_alloc | apply Kd.R_drewN | apply Kd.R_drew)); exact HO_12.out))) (Kd.S_lt (by (with_reducible repeat (first | apply Kd.S_alloc | apply Kd.S_drewN | apply Kd.S_drew)); exact HO_528001.out))) (Kd.S_lt (by (with_reducible repeat (first | apply Kd.S_alloc | apply Kd.S_drewN | apply Kd.S_drew)); exact HO_536001.out))) (below_size (by repeat (first | (with_reducible first | exact HB.out | apply below_alloc | apply pw_below_drewN | apply below_drew1 | refine below_set ?_ GE527.out | refine below_set ?_ GE535.out) | exact HB.out)))); have n4_ := Aside0.mk (blk_below (g := gb527) (o := .cells #[.int .i64 t523, .slice Ao14 t524.length co14] 24 (0, 0)) (by (with_reducible repeat (first | refine blk_drewN ?_ _ | refine blk_drew ?_ | refine blk_alloc ?_ _)); exact BK527.out) hb); have n5_ := Aside0.mk (blk_below (g := gb535) (o := .cells #[.int .i64 t530, .slice Ao20 t531.length co20] 24 (0, 0)) (by (with_reducible repeat (first | refine blk_drewN ?_ _ | refine blk_drew ?_ | refine blk_alloc ?_ _)); exact BK535.out) hb); have n6_ := Aside0.mk (below_step (by repeat (first | (with_reducible first | exact HB.out | apply below_alloc | apply pw_below_drewN | apply below_drew1 | refine below_set ?_ GE527.out | refine below_set ?_ GE535.out) | exact HB.out)) hb); clear HO_12; clear HO_528001; clear HO_536001; clear BK527; clear BK535; clear HB; have HO_12 := n0_; have HO_528001 := n1_; have HO_536001 := n2_; have HO551 := n3_; have BK527 := n4_; have BK535 := n5_; have HB := n6_; clear n0_ n1_ n2_ n3_ n4_ n5_ n6_; (try clear hb); (try clear hb2); (try clear hk); (try clear hi); (try clear ho0)) | ((with_reducible refine gate_dst (N := 16) rfl ?_); (try (refine gate_guard (by rfl) ?_; dsimp only)); refine box_event ?hg (N := 16) ?hd (cs := #[.int .i64 0, .slice none 0 0]) (t := 24) ?hr ?_; (case hd => rfl); (case hg => rfl); (case hr => first | (go_simp; done) | (go_simp; rfl)); intro gb553 hg w59 hbox hb; have n0_ := Aside0.mk (Kd.R_below (by (with_reducible repeat (first | apply Kd.R_alloc | apply Kd.R_drewN | apply Kd.R_drew)); exact HO_12.out) hb); have n1_ := Aside0.mk (Kd.S_below (by (with_reducible repeat (first | apply Kd.S_alloc | apply Kd.S_drewN | apply Kd.S_drew)); exact HO_528001.out) hb); have n2_ := Aside0.mk (Kd.S_below (by (with_reducible repeat (first | apply Kd.S_alloc | apply Kd.S_drewN | apply Kd.S_drew)); exact HO_536001.out) hb); have n3_ := Aside0.mk (Kd.S_below (by (with_reducible repeat (first | apply Kd.S_alloc | apply Kd.S_drewN | apply Kd.S_drew)); exact HO551.out) hb); have n4_ := Aside0.mk (blk_below (g := gb527) (o := .cells #[.int .i64 t523, .slice Ao14 t524.length co14] 24 (0, 0)) (by (with_reducible repeat (first | refine blk_drewN ?_ _ | refine blk_drew ?_ | refine blk_alloc ?_ _)); exact BK527.out) hb); have n5_ := Aside0.mk (blk_below (g := gb535) (o := .cells #[.int .i64 t530, .slice Ao20 t531.length co20] 24 (0, 0)) (by (with_reducible repeat (first | refine blk_drewN ?_ _ | refine blk_drew ?_ | refine blk_alloc ?_ _)); exact BK535.out) hb); have n6_ := Aside0.mk (below_step (by repeat (first | (with_reducible first | exact HB.out | apply below_alloc | apply pw_below_drewN | apply below_drew1 | refine below_set ?_ GE527.out | refine below_set ?_ GE535.out) | exact HB.out)) hb); have n7_ := Aside0.mk (hbox); have n8_ := Aside0.mk ((by rw [hg]; exact (below_size (by repeat (first | (with_reducible first | exact HB.out | apply below_alloc | apply pw_below_drewN | apply below_drew1 | refine below_set ?_ GE527.out | refine below_set ?_ GE535.out) | exact HB.out))) : w.heap.size ≤ gb553)); have n9_ := Aside0.mk ((by rw [hg]; exact (below_size (by repeat (first | (with_reducible first | exact HB.out | apply below_alloc | apply pw_below_drewN | apply below_drew1 | refine below_set ?_ GE527.out | refine below_set ?_ GE535.out) | exact HB.out))) : w.heap.size ≤ gb553)); have n10_ := Aside0.mk ((by rw [hg]; exact Nat.ne_of_lt (blk_lt (g := gb527) (o := .cells #[.int .i64 t523, .slice Ao14 t524.length co14] 24 (0, 0)) (by (with_reducible repeat (first | refine blk_drewN ?_ _ | refine blk_drew ?_ | refine blk_alloc ?_ _)); exact BK527.out)) : gb527 ≠ gb553)); have n11_ := Aside0.mk ((by rw [hg]; exact Nat.ne_of_gt (blk_lt (g := gb527) (o := .cells #[.int .i64 t523, .slice Ao14 t524.length co14] 24 (0, 0)) (by (with_reducible repeat (first | refine blk_drewN ?_ _ | refine blk_drew ?_ | refine blk_alloc ?_ _)); exact BK527.out)) : gb553 ≠ gb527)); have n12_ := Aside0.mk ((by rw [hg]; exact Nat.ne_of_lt (blk_lt (g := gb535) (o := .cells #[.int .i64 t530, .slice Ao20 t531.length co20] 24 (0, 0)) (by (with_reducible repeat (first | refine blk_drewN ?_ _ | refine blk_drew ?_ | refine blk_alloc ?_ _)); exact BK535.out)) : gb535 ≠ gb553)); have n13_ := Aside0.mk ((by rw [hg]; exact Nat.ne_of_gt (blk_lt (g := gb535) (o := .cells #[.int .i64 t530, .slice Ao20 t531.length co20] 24 (0, 0)) (by (with_reducible repeat (first | refine blk_drewN ?_ _ | refine blk_drew ?_ | refine blk_alloc ?_ _)); exact BK535.out)) : gb553 ≠ gb535)); clear HO_12; clear HO_528001; clear HO_536001; clear HO551; clear BK527; clear BK535; clear HB; have HO_12 := n0_; have HO_528001 := n1_; have HO_536001 := n2_; have HO551 := n3_; have BK527 := n4_; have BK535 := n5_; have HB := n6_; have BK553 := n7_; have GW553 := n8_; have GE553 := n9_; have NB527_553 := n10_; have NB553_527 := n11_; have NB535_553 := n12_; have NB553_535 := n13_; clear n0_ n1_ n2_ n3_ n4_ n5_ n6_ n7_ n8_ n9_ n10_ n11_ n12_ n13_; clear hb hbox hg; have hnb60 := NB553_527.out; have hnc60 := NB527_553.out; have hnb61 := NB553_535.out; have hnc61 := NB535_553.out; have hcz62_0 : w59.cell? ⟨gb553, 0, none⟩ = some (.int .i64 0) := (blk_cell BK553.out 0).trans rfl; have hcz62_1 : w59.cell? ⟨gb553, 1, none⟩ = some (.slice none 0 0) := (blk_cell BK553.out 1).trans rfl; have hfz62_0 := blk_frozen BK553.out 0; have hfz62_1 := blk_frozen BK553.out 1; obtain ⟨Ao63, co63, eo63⟩ := Kd.S_slice HO551.out; subst eo63))
          repeat (go_quiet (fail); go_upto_region 13 with (fail))
          (try simp only [Act.put, List.setIfInBounds_toArray, List.set_cons_zero, List.set_cons_succ])
          go_cut [125] (fun v125 wc => ∃ (kq : Nat) (x125_54 : Bool), v125 = .bool x125_54 ∧ Aside0 (laws_FnStacked.j1 kq t540 t546 t547 t552 x125_54 t523 t524 t548 t549 = some true) ∧ Aside0 (kq ≤ kj9) ∧ Aside0 (Kd.R (Kd.int .i64) 2 wc w.heap.size (fun _ => True) v541 t540) ∧ Aside0 (Kd.S (Kd.slice 2 (Kd.int .i64)) 35 wc w.heap.size (fun k_ => some k_ ≠ (v541 : Value).ownBlock ∧ some k_ ≠ ((.slice Ao20 t531.length co20) : Value).ownBlock ∧ some k_ ≠ ((.slice Ao63 t549.length co63) : Value).ownBlock) (.slice Ao14 t524.length co14) t524) ∧ Aside0 (Kd.S (Kd.slice 2 (Kd.int .i64)) 35 wc w.heap.size (fun k_ => some k_ ≠ (v541 : Value).ownBlock ∧ some k_ ≠ ((.slice Ao14 t524.length co14) : Value).ownBlock ∧ some k_ ≠ ((.slice Ao63 t549.length co63) : Value).ownBlock) (.slice Ao20 t531.length co20) t531) ∧ Aside0 (Kd.S Ow.dW 35 wc w.heap.size (fun k_ => some k_ ≠ (v541 : Value).ownBlock ∧ some k_ ≠ ((.slice Ao14 t524.length co14) : Value).ownBlock ∧ some k_ ≠ ((.slice Ao20 t531.length co20) : Value).ownBlock) (.slice Ao63 t549.length co63) t549) ∧ Aside0 (wc.heap[gb527]? = some (.cells #[.int .i64 t523, (.slice Ao14 t524.length co14)] 24 (0, 0))) ∧ Aside0 (wc.heap[gb535]? = some (.cells #[.int .i64 t530, (.slice Ao20 t531.length co20)] 24 (0, 0))) ∧ Aside0 (wc.heap[gb553]? = some (.cells #[.int .i64 t548, (.slice Ao63 t549.length co63)] 24 (0, 0))) ∧ Aside0 (Below w.heap.size w wc))
          case first =>
            have H := HC55.out
            clear HC55
            by_cases c64 : t546 = t547
            · rw [if_pos c64] at H
              have c64b0 : (t546 == t547) = true := beq_iff_eq.mpr c64
              have c64b1 : (t546 != t547) = false := bne_eq_false_iff_eq.mpr c64
              clear c64
              (first | rw [c64b0] | (simp only [i64_w, i32_w]; rw [c64b0]) | skip)
              have H' := Aside0.mk H
              clear H
              go_wp2
              repeat (go_quiet (fail); try go_wp2)
              go_meet
              case rel => exact ⟨_, ((t552 != false)), (by first | rfl | (simp; done) | (simp [*]; done)), H', ⟨by have := HJ9.out; first | omega | exact Nat.le_refl _⟩, ⟨by (with_reducible repeat (first | apply Kd.R_alloc | apply Kd.R_drewN | apply Kd.R_drew)); exact Kd.R_mono (Kd.R_far (p := ⟨gb553, 1, none⟩) (Kd.R_far (p := ⟨gb553, 0, none⟩) (Kd.R_types HO_12.out BK553.out (by decide)) (fun _ hk => hk.2) (.int .i64 t548)) (fun _ hk => hk.2) (.slice Ao63 t549.length co63)) (fun _ hk => trivial)⟩, ⟨by (with_reducible repeat (first | apply Kd.S_alloc | apply Kd.S_drewN | apply Kd.S_drew)); exact Kd.S_mono (Kd.S_far (p := ⟨gb553, 1, none⟩) (Kd.S_far (p := ⟨gb553, 0, none⟩) (Kd.S_types HO_528001.out BK553.out (by decide)) (fun _ hk => hk.2) (.int .i64 t548)) (fun _ hk => hk.2) (.slice Ao63 t549.length co63)) (fun _ hk => ⟨hk.1.1.1, ⟨hk.1.1.2, hk.1.2⟩⟩)⟩, ⟨by (with_reducible repeat (first | apply Kd.S_alloc | apply Kd.S_drewN | apply Kd.S_drew)); exact Kd.S_mono (Kd.S_far (p := ⟨gb553, 1, none⟩) (Kd.S_far (p := ⟨gb553, 0, none⟩) (Kd.S_types HO_536001.out BK553.out (by decide)) (fun _ hk => hk.2) (.int .i64 t548)) (fun _ hk => hk.2) (.slice Ao63 t549.length co63)) (fun _ hk => ⟨hk.1.1.1, ⟨hk.1.1.2, hk.1.2⟩⟩)⟩, ⟨by (with_reducible repeat (first | apply Kd.S_alloc | apply Kd.S_drewN | apply Kd.S_drew)); exact Kd.S_mono (Kd.S_far (p := ⟨gb553, 1, none⟩) (Kd.S_far (p := ⟨gb553, 0, none⟩) (Kd.S_types HO551.out BK553.out (by decide)) (fun _ hk => hk.2) (.int .i64 t548)) (fun _ hk => hk.2) (.slice Ao63 t549.length co63)) (fun _ hk => ⟨hk.1.1.1.2, ⟨hk.1.1.2, hk.1.2⟩⟩)⟩, ⟨by (with_reducible repeat (first | refine blk_drewN ?_ _ | refine blk_drew ?_ | refine blk_alloc ?_ _)); refine blk_far ?_ NB527_553.out _; (with_reducible repeat (first | refine blk_drewN ?_ _ | refine blk_drew ?_ | refine blk_alloc ?_ _)); refine blk_far ?_ NB527_553.out _; (with_reducible repeat (first | refine blk_drewN ?_ _ | refine blk_drew ?_ | refine blk_alloc ?_ _)); exact BK527.out⟩, ⟨by (with_reducible repeat (first | refine blk_drewN ?_ _ | refine blk_drew ?_ | refine blk_alloc ?_ _)); refine blk_far ?_ NB535_553.out _; (with_reducible repeat (first | refine blk_drewN ?_ _ | refine blk_drew ?_ | refine blk_alloc ?_ _)); refine blk_far ?_ NB535_553.out _; (with_reducible repeat (first | refine blk_drewN ?_ _ | refine blk_drew ?_ | refine blk_alloc ?_ _)); exact BK535.out⟩, ⟨by (with_reducible repeat (first | refine blk_drewN ?_ _ | refine blk_drew ?_ | refine blk_alloc ?_ _)); refine blk_put (cs := #[.int .i64 t548, .slice none 0 0]) ?_ 1 _ rfl; (with_reducible repeat (first | refine blk_drewN ?_ _ | refine blk_drew ?_ | refine blk_alloc ?_ _)); refine blk_put (cs := #[.int .i64 0, .slice none 0 0]) ?_ 0 _ rfl; (with_reducible repeat (first | refine blk_drewN ?_ _ | refine blk_drew ?_ | refine blk_alloc ?_ _)); exact BK553.out⟩, ⟨by repeat (first | (with_reducible first | exact HB.out | apply below_alloc | apply pw_below_drewN | apply below_drew1 | refine below_set ?_ GE527.out | refine below_set ?_ GE535.out | refine below_set ?_ GE553.out) | exact HB.out)⟩⟩
            · rw [if_neg c64] at H
              have c64b0 : (t546 == t547) = false := beq_eq_false_iff_ne.mpr c64
              have c64b1 : (t546 != t547) = true := bne_iff_ne.mpr c64
              (first | rw [c64b0] | (simp only [i64_w, i32_w]; rw [c64b0]) | skip)
              by_cases c65 : 0 ≤ t546
              · rw [if_pos c65] at H
                have c65b0 : decide (0 ≤ t546) = true := decide_eq_true c65
                clear c65
                by_cases c66 : t546 < (t524.length : Int)
                · rw [if_pos c66] at H
                  have c66b0 : decide (t546 < (t524.length : Int)) = true := decide_eq_true c66
                  clear c66
                  by_cases c67 : ((rd_L2 t524 t546).length : Int) > 0
                  · rw [if_pos c67] at H
                    have c67b0 : decide (0 < ((rd_L2 t524 t546).length : Int)) = true := decide_eq_true c67
                    have c67b1 : decide (0 < (rd_L2 t524 t546).length) = true := decide_eq_true (by omega)
                    clear c67
                    by_cases c68 : 0 ≤ t547
                    · rw [if_pos c68] at H
                      have c68b0 : decide (0 ≤ t547) = true := decide_eq_true c68
                      clear c68
                      by_cases c69 : t547 < (t524.length : Int)
                      · rw [if_pos c69] at H
                        have c69b0 : decide (t547 < (t524.length : Int)) = true := decide_eq_true c69
                        clear c69
                        have H' := Aside0.mk H
                        clear H
                        have hnb70 := NB527_535.out
                        have hnc70 := NB535_527.out
                        have hnb71 := NB527_553.out
                        have hnc71 := NB553_527.out
                        have hcz72_0 : w59.cell? ⟨gb527, 0, none⟩ = some (.int .i64 t523) := (blk_cell BK527.out 0).trans rfl
                        have hcz72_1 : w59.cell? ⟨gb527, 1, none⟩ = some (.slice Ao14 t524.length co14) := (blk_cell BK527.out 1).trans rfl
                        have hfz72_0 := blk_frozen BK527.out 0
                        have hfz72_1 := blk_frozen BK527.out 1
                        have p554 : 0 ≤ (t546 : Int) := of_decide_eq_true (by first | (with_reducible assumption) | assumption)
                        have q554 : t546 < (t524.length : Int) := of_decide_eq_true (by first | (with_reducible assumption) | assumption)
                        obtain ⟨ad554, A554_0, c554_0, e554, hx554_0, hl554_0, hi554_0⟩ := at_L2 (Kd.S_reads' HO_528001.out).2.2 t546 p554 q554
                        cases e554
                        have hn554_0 : ad554.block ≠ gb553 := Kd.own_blk (Kd.S_ne HO_528001.out BK553.out (by decide))
                        have hn554_1 : ad554.block ≠ gb553 := Kd.own_blk (Kd.S_ne HO_528001.out BK553.out (by decide))
                        have HR554_0 := Aside0.mk hi554_0
                        have HC554_0 := Aside0.mk hl554_0
                        clear hi554_0 hl554_0
                        replace hx554_0 := (cell_far (p := ⟨gb553, 0, none⟩) (by first | (rw [add_block]; exact hn554_0) | (show (Addr.add _ _).block ≠ _; rw [add_block]; exact hn554_0) | exact hn554_0) (.int .i64 t548)).trans hx554_0
                        replace hx554_0 := (cell_far (p := ⟨gb553, 1, none⟩) (by first | (rw [add_block]; exact hn554_1) | (show (Addr.add _ _).block ≠ _; rw [add_block]; exact hn554_1) | exact hn554_1) (.slice Ao63 t549.length co63)).trans hx554_0
                        (try have hy554_0 := fun (n_ : Nat) => (show ((((w59.drewN n_).setCell ⟨gb553, 0, none⟩ (.int .i64 t548)).setCell ⟨gb553, 1, none⟩ (.slice Ao63 t549.length co63))).cell? _ = some _ from hx554_0))
                        clear hn554_0
                        clear hn554_1
                        replace p554 := eq_true p554
                        replace q554 := eq_true q554
                        have p555 : 0 ≤ (t547 : Int) := of_decide_eq_true (by first | (with_reducible assumption) | assumption)
                        have q555 : t547 < (t524.length : Int) := of_decide_eq_true (by first | (with_reducible assumption) | assumption)
                        obtain ⟨ad555, A555_0, c555_0, e555, hx555_0, hl555_0, hi555_0⟩ := at_L2 (Kd.S_reads' HO_528001.out).2.2 t547 p555 q555
                        obtain rfl : ad554 = ad555 := (by injection e555)
                        have hn555_0 : ad554.block ≠ gb553 := Kd.own_blk (Kd.S_ne HO_528001.out BK553.out (by decide))
                        have hn555_1 : ad554.block ≠ gb553 := Kd.own_blk (Kd.S_ne HO_528001.out BK553.out (by decide))
                        have HR555_0 := Aside0.mk hi555_0
                        have HC555_0 := Aside0.mk hl555_0
                        clear hi555_0 hl555_0
                        replace hx555_0 := (cell_far (p := ⟨gb553, 0, none⟩) (by first | (rw [add_block]; exact hn555_0) | (show (Addr.add _ _).block ≠ _; rw [add_block]; exact hn555_0) | exact hn555_0) (.int .i64 t548)).trans hx555_0
                        replace hx555_0 := (cell_far (p := ⟨gb553, 1, none⟩) (by first | (rw [add_block]; exact hn555_1) | (show (Addr.add _ _).block ≠ _; rw [add_block]; exact hn555_1) | exact hn555_1) (.slice Ao63 t549.length co63)).trans hx555_0
                        (try have hy555_0 := fun (n_ : Nat) => (show ((((w59.drewN n_).setCell ⟨gb553, 0, none⟩ (.int .i64 t548)).setCell ⟨gb553, 1, none⟩ (.slice Ao63 t549.length co63))).cell? _ = some _ from hx555_0))
                        clear hn555_0
                        clear hn555_1
                        replace p555 := eq_true p555
                        replace q555 := eq_true q555
                        go_wp2
                        repeat (go_quiet (fail); try go_wp2)
                        go_meet
                        case rel => exact ⟨_, ((t552 != (decide (((rd_L2 t524 t547).length : Int) < t523)))), (by first | rfl | (simp; done) | (simp [*]; done)), H', ⟨by have := HJ9.out; first | omega | exact Nat.le_refl _⟩, ⟨by (with_reducible repeat (first | apply Kd.R_alloc | apply Kd.R_drewN | apply Kd.R_drew)); exact Kd.R_mono (Kd.R_far (p := ⟨gb553, 1, none⟩) (Kd.R_far (p := ⟨gb553, 0, none⟩) (Kd.R_types HO_12.out BK553.out (by decide)) (fun _ hk => hk.2) (.int .i64 t548)) (fun _ hk => hk.2) (.slice Ao63 t549.length co63)) (fun _ hk => trivial)⟩, ⟨by (with_reducible repeat (first | apply Kd.S_alloc | apply Kd.S_drewN | apply Kd.S_drew)); exact Kd.S_mono (Kd.S_far (p := ⟨gb553, 1, none⟩) (Kd.S_far (p := ⟨gb553, 0, none⟩) (Kd.S_types HO_528001.out BK553.out (by decide)) (fun _ hk => hk.2) (.int .i64 t548)) (fun _ hk => hk.2) (.slice Ao63 t549.length co63)) (fun _ hk => ⟨hk.1.1.1, ⟨hk.1.1.2, hk.1.2⟩⟩)⟩, ⟨by (with_reducible repeat (first | apply Kd.S_alloc | apply Kd.S_drewN | apply Kd.S_drew)); exact Kd.S_mono (Kd.S_far (p := ⟨gb553, 1, none⟩) (Kd.S_far (p := ⟨gb553, 0, none⟩) (Kd.S_types HO_536001.out BK553.out (by decide)) (fun _ hk => hk.2) (.int .i64 t548)) (fun _ hk => hk.2) (.slice Ao63 t549.length co63)) (fun _ hk => ⟨hk.1.1.1, ⟨hk.1.1.2, hk.1.2⟩⟩)⟩, ⟨by (with_reducible repeat (first | apply Kd.S_alloc | apply Kd.S_drewN | apply Kd.S_drew)); exact Kd.S_mono (Kd.S_far (p := ⟨gb553, 1, none⟩) (Kd.S_far (p := ⟨gb553, 0, none⟩) (Kd.S_types HO551.out BK553.out (by decide)) (fun _ hk => hk.2) (.int .i64 t548)) (fun _ hk => hk.2) (.slice Ao63 t549.length co63)) (fun _ hk => ⟨hk.1.1.1.2, ⟨hk.1.1.2, hk.1.2⟩⟩)⟩, ⟨by (with_reducible repeat (first | refine blk_drewN ?_ _ | refine blk_drew ?_ | refine blk_alloc ?_ _)); refine blk_far ?_ NB527_553.out _; (with_reducible repeat (first | refine blk_drewN ?_ _ | refine blk_drew ?_ | refine blk_alloc ?_ _)); refine blk_far ?_ NB527_553.out _; (with_reducible repeat (first | refine blk_drewN ?_ _ | refine blk_drew ?_ | refine blk_alloc ?_ _)); exact BK527.out⟩, ⟨by (with_reducible repeat (first | refine blk_drewN ?_ _ | refine blk_drew ?_ | refine blk_alloc ?_ _)); refine blk_far ?_ NB535_553.out _; (with_reducible repeat (first | refine blk_drewN ?_ _ | refine blk_drew ?_ | refine blk_alloc ?_ _)); refine blk_far ?_ NB535_553.out _; (with_reducible repeat (first | refine blk_drewN ?_ _ | refine blk_drew ?_ | refine blk_alloc ?_ _)); exact BK535.out⟩, ⟨by (with_reducible repeat (first | refine blk_drewN ?_ _ | refine blk_drew ?_ | refine blk_alloc ?_ _)); refine blk_put (cs := #[.int .i64 t548, .slice none 0 0]) ?_ 1 _ rfl; (with_reducible repeat (first | refine blk_drewN ?_ _ | refine blk_drew ?_ | refine blk_alloc ?_ _)); refine blk_put (cs := #[.int .i64 0, .slice none 0 0]) ?_ 0 _ rfl; (with_reducible repeat (first | refine blk_drewN ?_ _ | refine blk_drew ?_ | refine blk_alloc ?_ _)); exact BK553.out⟩, ⟨by repeat (first | (with_reducible first | exact HB.out | apply below_alloc | apply pw_below_drewN | apply below_drew1 | refine below_set ?_ GE527.out | refine below_set ?_ GE535.out | refine below_set ?_ GE553.out) | exact HB.out)⟩⟩
                      · rw [if_neg c69] at H
                        exact absurd H (by simp)
                    · rw [if_neg c68] at H
                      exact absurd H (by simp)
                  · rw [if_neg c67] at H
                    have c67b0 : decide (0 < ((rd_L2 t524 t546).length : Int)) = false := decide_eq_false c67
                    have c67b1 : decide (0 < (rd_L2 t524 t546).length) = false := decide_eq_false (by omega)
                    clear c67
                    have H' := Aside0.mk H
                    clear H
                    have hnb73 := NB527_535.out
                    have hnc73 := NB535_527.out
                    have hnb74 := NB527_553.out
                    have hnc74 := NB553_527.out
                    have hcz75_0 : w59.cell? ⟨gb527, 0, none⟩ = some (.int .i64 t523) := (blk_cell BK527.out 0).trans rfl
                    have hcz75_1 : w59.cell? ⟨gb527, 1, none⟩ = some (.slice Ao14 t524.length co14) := (blk_cell BK527.out 1).trans rfl
                    have hfz75_0 := blk_frozen BK527.out 0
                    have hfz75_1 := blk_frozen BK527.out 1
                    have p554 : 0 ≤ (t546 : Int) := of_decide_eq_true (by first | (with_reducible assumption) | assumption)
                    have q554 : t546 < (t524.length : Int) := of_decide_eq_true (by first | (with_reducible assumption) | assumption)
                    obtain ⟨ad554, A554_0, c554_0, e554, hx554_0, hl554_0, hi554_0⟩ := at_L2 (Kd.S_reads' HO_528001.out).2.2 t546 p554 q554
                    cases e554
                    have hn554_0 : ad554.block ≠ gb553 := Kd.own_blk (Kd.S_ne HO_528001.out BK553.out (by decide))
                    have hn554_1 : ad554.block ≠ gb553 := Kd.own_blk (Kd.S_ne HO_528001.out BK553.out (by decide))
                    have HR554_0 := Aside0.mk hi554_0
                    have HC554_0 := Aside0.mk hl554_0
                    clear hi554_0 hl554_0
                    replace hx554_0 := (cell_far (p := ⟨gb553, 0, none⟩) (by first | (rw [add_block]; exact hn554_0) | (show (Addr.add _ _).block ≠ _; rw [add_block]; exact hn554_0) | exact hn554_0) (.int .i64 t548)).trans hx554_0
                    replace hx554_0 := (cell_far (p := ⟨gb553, 1, none⟩) (by first | (rw [add_block]; exact hn554_1) | (show (Addr.add _ _).block ≠ _; rw [add_block]; exact hn554_1) | exact hn554_1) (.slice Ao63 t549.length co63)).trans hx554_0
                    (try have hy554_0 := fun (n_ : Nat) => (show ((((w59.drewN n_).setCell ⟨gb553, 0, none⟩ (.int .i64 t548)).setCell ⟨gb553, 1, none⟩ (.slice Ao63 t549.length co63))).cell? _ = some _ from hx554_0))
                    clear hn554_0
                    clear hn554_1
                    replace p554 := eq_true p554
                    replace q554 := eq_true q554
                    go_wp2
                    repeat (go_quiet (fail); try go_wp2)
                    go_meet
                    case rel => exact ⟨_, ((t552 != false)), (by first | rfl | (simp; done) | (simp [*]; done)), H', ⟨by have := HJ9.out; first | omega | exact Nat.le_refl _⟩, ⟨by (with_reducible repeat (first | apply Kd.R_alloc | apply Kd.R_drewN | apply Kd.R_drew)); exact Kd.R_mono (Kd.R_far (p := ⟨gb553, 1, none⟩) (Kd.R_far (p := ⟨gb553, 0, none⟩) (Kd.R_types HO_12.out BK553.out (by decide)) (fun _ hk => hk.2) (.int .i64 t548)) (fun _ hk => hk.2) (.slice Ao63 t549.length co63)) (fun _ hk => trivial)⟩, ⟨by (with_reducible repeat (first | apply Kd.S_alloc | apply Kd.S_drewN | apply Kd.S_drew)); exact Kd.S_mono (Kd.S_far (p := ⟨gb553, 1, none⟩) (Kd.S_far (p := ⟨gb553, 0, none⟩) (Kd.S_types HO_528001.out BK553.out (by decide)) (fun _ hk => hk.2) (.int .i64 t548)) (fun _ hk => hk.2) (.slice Ao63 t549.length co63)) (fun _ hk => ⟨hk.1.1.1, ⟨hk.1.1.2, hk.1.2⟩⟩)⟩, ⟨by (with_reducible repeat (first | apply Kd.S_alloc | apply Kd.S_drewN | apply Kd.S_drew)); exact Kd.S_mono (Kd.S_far (p := ⟨gb553, 1, none⟩) (Kd.S_far (p := ⟨gb553, 0, none⟩) (Kd.S_types HO_536001.out BK553.out (by decide)) (fun _ hk => hk.2) (.int .i64 t548)) (fun _ hk => hk.2) (.slice Ao63 t549.length co63)) (fun _ hk => ⟨hk.1.1.1, ⟨hk.1.1.2, hk.1.2⟩⟩)⟩, ⟨by (with_reducible repeat (first | apply Kd.S_alloc | apply Kd.S_drewN | apply Kd.S_drew)); exact Kd.S_mono (Kd.S_far (p := ⟨gb553, 1, none⟩) (Kd.S_far (p := ⟨gb553, 0, none⟩) (Kd.S_types HO551.out BK553.out (by decide)) (fun _ hk => hk.2) (.int .i64 t548)) (fun _ hk => hk.2) (.slice Ao63 t549.length co63)) (fun _ hk => ⟨hk.1.1.1.2, ⟨hk.1.1.2, hk.1.2⟩⟩)⟩, ⟨by (with_reducible repeat (first | refine blk_drewN ?_ _ | refine blk_drew ?_ | refine blk_alloc ?_ _)); refine blk_far ?_ NB527_553.out _; (with_reducible repeat (first | refine blk_drewN ?_ _ | refine blk_drew ?_ | refine blk_alloc ?_ _)); refine blk_far ?_ NB527_553.out _; (with_reducible repeat (first | refine blk_drewN ?_ _ | refine blk_drew ?_ | refine blk_alloc ?_ _)); exact BK527.out⟩, ⟨by (with_reducible repeat (first | refine blk_drewN ?_ _ | refine blk_drew ?_ | refine blk_alloc ?_ _)); refine blk_far ?_ NB535_553.out _; (with_reducible repeat (first | refine blk_drewN ?_ _ | refine blk_drew ?_ | refine blk_alloc ?_ _)); refine blk_far ?_ NB535_553.out _; (with_reducible repeat (first | refine blk_drewN ?_ _ | refine blk_drew ?_ | refine blk_alloc ?_ _)); exact BK535.out⟩, ⟨by (with_reducible repeat (first | refine blk_drewN ?_ _ | refine blk_drew ?_ | refine blk_alloc ?_ _)); refine blk_put (cs := #[.int .i64 t548, .slice none 0 0]) ?_ 1 _ rfl; (with_reducible repeat (first | refine blk_drewN ?_ _ | refine blk_drew ?_ | refine blk_alloc ?_ _)); refine blk_put (cs := #[.int .i64 0, .slice none 0 0]) ?_ 0 _ rfl; (with_reducible repeat (first | refine blk_drewN ?_ _ | refine blk_drew ?_ | refine blk_alloc ?_ _)); exact BK553.out⟩, ⟨by repeat (first | (with_reducible first | exact HB.out | apply below_alloc | apply pw_below_drewN | apply below_drew1 | refine below_set ?_ GE527.out | refine below_set ?_ GE535.out | refine below_set ?_ GE553.out) | exact HB.out)⟩⟩
                · rw [if_neg c66] at H
                  exact absurd H (by simp)
              · rw [if_neg c65] at H
                exact absurd H (by simp)
          case rest =>
            clear HC55
            try clear c1
            try clear c2
            try clear p2
            try clear c3
            try clear c4
            try clear c5
            try clear p5
            try clear q5
            try clear hx5
            try clear c6
            try clear c7
            try clear c18
            try clear c25
            try clear c26
            try clear c27
            try clear c28
            try clear c30
            try clear c31
            try clear c31b0
            try clear c31b1
            try clear c31b2
            try clear c33
            try clear c41
            try clear c47
            try clear c51
            try clear c55
            try clear p55
            try clear q55
            try clear hx55
            try clear c56
            try clear c60
            try clear c61
            try clear c64
            try clear c64b0
            try clear c64b1
            try clear c65
            try clear c65b0
            try clear c66
            try clear c66b0
            try clear c67
            try clear c67b0
            try clear c67b1
            try clear c68
            try clear c68b0
            try clear c69
            try clear c69b0
            try clear c70
            try clear c71
            try clear c73
            try clear c74
            try clear hcz13_0
            try clear hcz13_1
            try clear hcz19_0
            try clear hcz19_1
            try clear hcz21_0
            try clear hcz21_1
            try clear hcz23_0
            try clear hcz23_1
            try clear hcz34_0
            try clear hcz34_1
            try clear hcz35_0
            try clear hcz35_1
            try clear hcz38_0
            try clear hcz38_1
            try clear hcz42_0
            try clear hcz42_1
            try clear hcz43_0
            try clear hcz43_1
            try clear hcz46_0
            try clear hcz46_1
            try clear hcz48_0
            try clear hcz48_1
            try clear hcz49_0
            try clear hcz49_1
            try clear hcz57_0
            try clear hcz57_1
            try clear hcz62_0
            try clear hcz62_1
            try clear hcz72_0
            try clear hcz72_1
            try clear hcz75_0
            try clear hcz75_1
            try clear hfz13_0
            try clear hfz13_1
            try clear hfz19_0
            try clear hfz19_1
            try clear hfz21_0
            try clear hfz21_1
            try clear hfz23_0
            try clear hfz23_1
            try clear hfz34_0
            try clear hfz34_1
            try clear hfz35_0
            try clear hfz35_1
            try clear hfz38_0
            try clear hfz38_1
            try clear hfz42_0
            try clear hfz42_1
            try clear hfz43_0
            try clear hfz43_1
            try clear hfz46_0
            try clear hfz46_1
            try clear hfz48_0
            try clear hfz48_1
            try clear hfz49_0
            try clear hfz49_1
            try clear hfz57_0
            try clear hfz57_1
            try clear hfz62_0
            try clear hfz62_1
            try clear hfz72_0
            try clear hfz72_1
            try clear hfz75_0
            try clear hfz75_1
            try clear hx554_0
            try clear hx555_0
            try clear p2
            try clear p554
            try clear p555
            try clear q554
            try clear q555
            obtain ⟨kq, x125_54, rfl, HA, HJ54, HO_12, HO_528001, HO_536001, HO_554001, BK527, BK535, BK553, HB⟩ := hcut
            cases kq with
            | zero => exact absurd HA.out (by simp [laws_FnStacked.j1])
            | succ kj54 =>
              have H := HA.out
              clear HA
              simp only [laws_FnStacked.j1] at H
              by_cases c76 : x125_54 = true
              · subst c76
                have H1 : (some false) = some true := by rw [if_pos rfl] at H; exact H
                clear H
                have H := H1
                clear H1
                first | exact absurd (Option.some.inj H) (by decide) | clear H
                all_goals
                  go_wp2
                  repeat (go_quiet (fail); try go_wp2)
                  go_ret
                  exact ⟨by first | rfl | (simp [errW_none, errW_some] <;> rfl) | (simp [*, errW_none, errW_some] <;> rfl), by repeat (first | (with_reducible first | exact HB.out | apply below_alloc | apply pw_below_drewN | apply below_drew1 | refine below_set ?_ GE527.out | refine below_set ?_ GE535.out | refine below_set ?_ GE553.out) | exact HB.out)⟩
              · replace c76 := Bool.eq_false_iff.mpr c76
                subst c76
                have H1 : (if t552 = true then ((impl_MoveTop.f t548 t549 t547 t546).bind fun bt556 => (if bt556.2.2 = true then ((laws_b10Yards.f kj54 bt556.1 bt556.2.1 t523 t524).bind fun t562 => (if t562 = true then (laws_FnStacked.j2 kj54 t540 t523 t524) else (some false))) else (some false))) else (laws_FnStacked.j2 kj54 t540 t523 t524)) = some true := by rw [if_neg (show ¬ (false = true) by decide)] at H; exact H
                clear H
                have H := H1
                clear H1
                have HC77 := Aside0.mk H
                clear H
                go_upto_if 126 with (fail)
                repeat (go_quiet (fail); go_upto_if 126 with (fail))
                go_cut [] (fun wc => ∃ (kq : Nat), Aside0 (laws_FnStacked.j2 kq t540 t523 t524 = some true) ∧ Aside0 (kq ≤ kj54) ∧ Aside0 (Kd.R (Kd.int .i64) 2 wc w.heap.size (fun _ => True) v541 t540) ∧ Aside0 (Kd.S (Kd.slice 2 (Kd.int .i64)) 35 wc w.heap.size (fun k_ => some k_ ≠ (v541 : Value).ownBlock ∧ some k_ ≠ ((.slice Ao20 t531.length co20) : Value).ownBlock ∧ some k_ ≠ ((.slice Ao63 t549.length co63) : Value).ownBlock) (.slice Ao14 t524.length co14) t524) ∧ Aside0 (Kd.S (Kd.slice 2 (Kd.int .i64)) 35 wc w.heap.size (fun k_ => some k_ ≠ (v541 : Value).ownBlock ∧ some k_ ≠ ((.slice Ao14 t524.length co14) : Value).ownBlock ∧ some k_ ≠ ((.slice Ao63 t549.length co63) : Value).ownBlock) (.slice Ao20 t531.length co20) t531) ∧ Aside0 (Kd.S Ow.dW 35 wc w.heap.size (fun k_ => some k_ ≠ (v541 : Value).ownBlock ∧ some k_ ≠ ((.slice Ao14 t524.length co14) : Value).ownBlock ∧ some k_ ≠ ((.slice Ao20 t531.length co20) : Value).ownBlock) (.slice Ao63 t549.length co63) t549) ∧ Aside0 (wc.heap[gb527]? = some (.cells #[.int .i64 t523, (.slice Ao14 t524.length co14)] 24 (0, 0))) ∧ Aside0 (wc.heap[gb535]? = some (.cells #[.int .i64 t530, (.slice Ao20 t531.length co20)] 24 (0, 0))) ∧ Aside0 (wc.heap[gb553]? = some (.cells #[.int .i64 t548, (.slice Ao63 t549.length co63)] 24 (0, 0))) ∧ Aside0 (Below w.heap.size w wc))
                case first =>
                  have H := HC77.out
                  clear HC77
                  by_cases c78 : t552 = true
                  · subst c78
                    have H1 : ((impl_MoveTop.f t548 t549 t547 t546).bind fun bt556 => (if bt556.2.2 = true then ((laws_b10Yards.f kj54 bt556.1 bt556.2.1 t523 t524).bind fun t562 => (if t562 = true then (laws_FnStacked.j2 kj54 t540 t523 t524) else (some false))) else (some false))) = some true := by rw [if_pos rfl] at H; exact H
                    clear H
                    have H := H1
                    clear H1
                    replace H := Option.bind_eq_some_iff.mp H
                    obtain ⟨⟨t556, t557, t560⟩, A790, H⟩ := H
                    replace H : (if t560 = true then ((laws_b10Yards.f kj54 t556 t557 t523 t524).bind fun t562 => (if t562 = true then (laws_FnStacked.j2 kj54 t540 t523 t524) else (some false))) else (some false)) = some true := H
                    have A79 := Aside0.mk A790
                    clear A790
                    by_cases c80 : t560 = true
                    · subst c80
                      have H1 : ((laws_b10Yards.f kj54 t556 t557 t523 t524).bind fun t562 => (if t562 = true then (laws_FnStacked.j2 kj54 t540 t523 t524) else (some false))) = some true := by rw [if_pos rfl] at H; exact H
                      clear H
                      have H := H1
                      clear H1
                      replace H := Option.bind_eq_some_iff.mp H
                      obtain ⟨t562, A810, H⟩ := H
                      replace H : (if t562 = true then (laws_FnStacked.j2 kj54 t540 t523 t524) else (some false)) = some true := H
                      have A81 := Aside0.mk A810
                      clear A810
                      by_cases c82 : t562 = true
                      · subst c82
                        have H1 : (laws_FnStacked.j2 kj54 t540 t523 t524) = some true := by rw [if_pos rfl] at H; exact H
                        clear H
                        have H := H1
                        clear H1
                        have H' := Aside0.mk H
                        clear H
                        have hnb83 := NB553_527.out
                        have hnc83 := NB527_553.out
                        have hnb84 := NB553_535.out
                        have hnc84 := NB535_553.out
                        have hcz85_0 : wc.cell? ⟨gb553, 0, none⟩ = some (.int .i64 t548) := (blk_cell BK553.out 0).trans rfl
                        have hcz85_1 : wc.cell? ⟨gb553, 1, none⟩ = some (.slice Ao63 t549.length co63) := (blk_cell BK553.out 1).trans rfl
                        have hfz85_0 := blk_frozen BK553.out 0
                        have hfz85_1 := blk_frozen BK553.out 1
                        go_wp2_with (first | (go_at_call 18; (with_reducible refine (impl_MoveTop.calls t548 _ _ t549 t547 t546 t556 t557 true _ ?side1 ?side2 A79.out).mono ?_); (case side1 => repeat (first | exact (Kd.S_reads' HO_554001.out).2.2 | (with_reducible refine Kd.C_alloc ?_ _) | (with_reducible refine Kd.C_drewN ?_ _) | (with_reducible refine Kd.C_drew ?_))); (case side2 => exact (Kd.S_reads' HO_554001.out).2.1); rintro e w86 ⟨v558, rfl, ho0, hb⟩; have n0_ := Aside0.mk (Kd.R_below (by (with_reducible repeat (first | apply Kd.R_alloc | apply Kd.R_drewN | apply Kd.R_drew)); exact HO_12.out) hb); have n1_ := Aside0.mk (Kd.S_elder' (by (with_reducible repeat (first | apply Kd.S_alloc | apply Kd.S_drewN | apply Kd.S_drew)); exact HO_528001.out) (Kd.S_base ho0) hb); have n2_ := Aside0.mk (Kd.S_elder' (by (with_reducible repeat (first | apply Kd.S_alloc | apply Kd.S_drewN | apply Kd.S_drew)); exact HO_536001.out) (Kd.S_base ho0) hb); have n3_ := Aside0.mk (Kd.S_elder' (by (with_reducible repeat (first | apply Kd.S_alloc | apply Kd.S_drewN | apply Kd.S_drew)); exact HO_554001.out) (Kd.S_base ho0) hb); have n4_ := Aside0.mk (Kd.S_lower (Kd.S_new' (Kd.S_new' (Kd.S_new' (Kd.S_new' ho0 (Kd.R_lt (by (with_reducible repeat (first | apply Kd.R_alloc | apply Kd.R_drewN | apply Kd.R_drew)); exact HO_12.out))) (Kd.S_lt (by (with_reducible repeat (first | apply Kd.S_alloc | apply Kd.S_drewN | apply Kd.S_drew)); exact HO_528001.out))) (Kd.S_lt (by (with_reducible repeat (first | apply Kd.S_alloc | apply Kd.S_drewN | apply Kd.S_drew)); exact HO_536001.out))) (Kd.S_lt (by (with_reducible repeat (first | apply Kd.S_alloc | apply Kd.S_drewN | apply Kd.S_drew)); exact HO_554001.out))) (below_size (by repeat (first | (with_reducible first | exact HB.out | apply below_alloc | apply pw_below_drewN | apply below_drew1 | refine below_set ?_ GE527.out | refine below_set ?_ GE535.out | refine below_set ?_ GE553.out) | exact HB.out)))); have n5_ := Aside0.mk (blk_below (g := gb527) (o := .cells #[.int .i64 t523, .slice Ao14 t524.length co14] 24 (0, 0)) (by (with_reducible repeat (first | refine blk_drewN ?_ _ | refine blk_drew ?_ | refine blk_alloc ?_ _)); exact BK527.out) hb); have n6_ := Aside0.mk (blk_below (g := gb535) (o := .cells #[.int .i64 t530, .slice Ao20 t531.length co20] 24 (0, 0)) (by (with_reducible repeat (first | refine blk_drewN ?_ _ | refine blk_drew ?_ | refine blk_alloc ?_ _)); exact BK535.out) hb); have n7_ := Aside0.mk (blk_below (g := gb553) (o := .cells #[.int .i64 t548, .slice Ao63 t549.length co63] 24 (0, 0)) (by (with_reducible repeat (first | refine blk_drewN ?_ _ | refine blk_drew ?_ | refine blk_alloc ?_ _)); exact BK553.out) hb); have n8_ := Aside0.mk (below_step (by repeat (first | (with_reducible first | exact HB.out | apply below_alloc | apply pw_below_drewN | apply below_drew1 | refine below_set ?_ GE527.out | refine below_set ?_ GE535.out | refine below_set ?_ GE553.out) | exact HB.out)) hb); clear HO_12; clear HO_528001; clear HO_536001; clear HO_554001; clear BK527; clear BK535; clear BK553; clear HB; have HO_12 := n0_; have HO_528001 := n1_; have HO_536001 := n2_; have HO_554001 := n3_; have HO559 := n4_; have BK527 := n5_; have BK535 := n6_; have BK553 := n7_; have HB := n8_; clear n0_ n1_ n2_ n3_ n4_ n5_ n6_ n7_ n8_; (try clear hb); (try clear hb2); (try clear hk); (try clear hi); (try clear ho0)) | ((with_reducible refine gate_dst (N := 18) rfl ?_); (try (refine gate_guard (by rfl) ?_; dsimp only)); refine box_event ?hg (N := 18) ?hd (cs := #[.int .i64 0, .slice none 0 0]) (t := 24) ?hr ?_; (case hd => rfl); (case hg => rfl); (case hr => first | (go_simp; done) | (go_simp; rfl)); intro gb561 hg w87 hbox hb; have n0_ := Aside0.mk (Kd.R_below (by (with_reducible repeat (first | apply Kd.R_alloc | apply Kd.R_drewN | apply Kd.R_drew)); exact HO_12.out) hb); have n1_ := Aside0.mk (Kd.S_below (by (with_reducible repeat (first | apply Kd.S_alloc | apply Kd.S_drewN | apply Kd.S_drew)); exact HO_528001.out) hb); have n2_ := Aside0.mk (Kd.S_below (by (with_reducible repeat (first | apply Kd.S_alloc | apply Kd.S_drewN | apply Kd.S_drew)); exact HO_536001.out) hb); have n3_ := Aside0.mk (Kd.S_below (by (with_reducible repeat (first | apply Kd.S_alloc | apply Kd.S_drewN | apply Kd.S_drew)); exact HO_554001.out) hb); have n4_ := Aside0.mk (Kd.S_below (by (with_reducible repeat (first | apply Kd.S_alloc | apply Kd.S_drewN | apply Kd.S_drew)); exact HO559.out) hb); have n5_ := Aside0.mk (blk_below (g := gb527) (o := .cells #[.int .i64 t523, .slice Ao14 t524.length co14] 24 (0, 0)) (by (with_reducible repeat (first | refine blk_drewN ?_ _ | refine blk_drew ?_ | refine blk_alloc ?_ _)); exact BK527.out) hb); have n6_ := Aside0.mk (blk_below (g := gb535) (o := .cells #[.int .i64 t530, .slice Ao20 t531.length co20] 24 (0, 0)) (by (with_reducible repeat (first | refine blk_drewN ?_ _ | refine blk_drew ?_ | refine blk_alloc ?_ _)); exact BK535.out) hb); have n7_ := Aside0.mk (blk_below (g := gb553) (o := .cells #[.int .i64 t548, .slice Ao63 t549.length co63] 24 (0, 0)) (by (with_reducible repeat (first | refine blk_drewN ?_ _ | refine blk_drew ?_ | refine blk_alloc ?_ _)); exact BK553.out) hb); have n8_ := Aside0.mk (below_step (by repeat (first | (with_reducible first | exact HB.out | apply below_alloc | apply pw_below_drewN | apply below_drew1 | refine below_set ?_ GE527.out | refine below_set ?_ GE535.out | refine below_set ?_ GE553.out) | exact HB.out)) hb); have n9_ := Aside0.mk (hbox); have n10_ := Aside0.mk ((by rw [hg]; exact (below_size (by repeat (first | (with_reducible first | exact HB.out | apply below_alloc | apply pw_below_drewN | apply below_drew1 | refine below_set ?_ GE527.out | refine below_set ?_ GE535.out | refine below_set ?_ GE553.out) | exact HB.out))) : w.heap.size ≤ gb561)); have n11_ := Aside0.mk ((by rw [hg]; exact (below_size (by repeat (first | (with_reducible first | exact HB.out | apply below_alloc | apply pw_below_drewN | apply below_drew1 | refine below_set ?_ GE527.out | refine below_set ?_ GE535.out | refine below_set ?_ GE553.out) | exact HB.out))) : w.heap.size ≤ gb561)); have n12_ := Aside0.mk ((by rw [hg]; exact Nat.ne_of_lt (blk_lt (g := gb527) (o := .cells #[.int .i64 t523, .slice Ao14 t524.length co14] 24 (0, 0)) (by (with_reducible repeat (first | refine blk_drewN ?_ _ | refine blk_drew ?_ | refine blk_alloc ?_ _)); exact BK527.out)) : gb527 ≠ gb561)); have n13_ := Aside0.mk ((by rw [hg]; exact Nat.ne_of_gt (blk_lt (g := gb527) (o := .cells #[.int .i64 t523, .slice Ao14 t524.length co14] 24 (0, 0)) (by (with_reducible repeat (first | refine blk_drewN ?_ _ | refine blk_drew ?_ | refine blk_alloc ?_ _)); exact BK527.out)) : gb561 ≠ gb527)); have n14_ := Aside0.mk ((by rw [hg]; exact Nat.ne_of_lt (blk_lt (g := gb535) (o := .cells #[.int .i64 t530, .slice Ao20 t531.length co20] 24 (0, 0)) (by (with_reducible repeat (first | refine blk_drewN ?_ _ | refine blk_drew ?_ | refine blk_alloc ?_ _)); exact BK535.out)) : gb535 ≠ gb561)); have n15_ := Aside0.mk ((by rw [hg]; exact Nat.ne_of_gt (blk_lt (g := gb535) (o := .cells #[.int .i64 t530, .slice Ao20 t531.length co20] 24 (0, 0)) (by (with_reducible repeat (first | refine blk_drewN ?_ _ | refine blk_drew ?_ | refine blk_alloc ?_ _)); exact BK535.out)) : gb561 ≠ gb535)); have n16_ := Aside0.mk ((by rw [hg]; exact Nat.ne_of_lt (blk_lt (g := gb553) (o := .cells #[.int .i64 t548, .slice Ao63 t549.length co63] 24 (0, 0)) (by (with_reducible repeat (first | refine blk_drewN ?_ _ | refine blk_drew ?_ | refine blk_alloc ?_ _)); exact BK553.out)) : gb553 ≠ gb561)); have n17_ := Aside0.mk ((by rw [hg]; exact Nat.ne_of_gt (blk_lt (g := gb553) (o := .cells #[.int .i64 t548, .slice Ao63 t549.length co63] 24 (0, 0)) (by (with_reducible repeat (first | refine blk_drewN ?_ _ | refine blk_drew ?_ | refine blk_alloc ?_ _)); exact BK553.out)) : gb561 ≠ gb553)); clear HO_12; clear HO_528001; clear HO_536001; clear HO_554001; clear HO559; clear BK527; clear BK535; clear BK553; clear HB; have HO_12 := n0_; have HO_528001 := n1_; have HO_536001 := n2_; have HO_554001 := n3_; have HO559 := n4_; have BK527 := n5_; have BK535 := n6_; have BK553 := n7_; have HB := n8_; have BK561 := n9_; have GW561 := n10_; have GE561 := n11_; have NB527_561 := n12_; have NB561_527 := n13_; have NB535_561 := n14_; have NB561_535 := n15_; have NB553_561 := n16_; have NB561_553 := n17_; clear n0_ n1_ n2_ n3_ n4_ n5_ n6_ n7_ n8_ n9_ n10_ n11_ n12_ n13_ n14_ n15_ n16_ n17_; clear hb hbox hg; have hnb88 := NB561_527.out; have hnc88 := NB527_561.out; have hnb89 := NB561_535.out; have hnc89 := NB535_561.out; have hnb90 := NB561_553.out; have hnc90 := NB553_561.out; have hcz91_0 : w87.cell? ⟨gb561, 0, none⟩ = some (.int .i64 0) := (blk_cell BK561.out 0).trans rfl; have hcz91_1 : w87.cell? ⟨gb561, 1, none⟩ = some (.slice none 0 0) := (blk_cell BK561.out 1).trans rfl; have hfz91_0 := blk_frozen BK561.out 0; have hfz91_1 := blk_frozen BK561.out 1; obtain ⟨Ao92, co92, eo92⟩ := Kd.S_slice HO559.out; subst eo92; have hnb93 := NB527_535.out; have hnc93 := NB535_527.out; have hcz94_0 : w87.cell? ⟨gb527, 0, none⟩ = some (.int .i64 t523) := (blk_cell BK527.out 0).trans rfl; have hcz94_1 : w87.cell? ⟨gb527, 1, none⟩ = some (.slice Ao14 t524.length co14) := (blk_cell BK527.out 1).trans rfl; have hfz94_0 := blk_frozen BK527.out 0; have hfz94_1 := blk_frozen BK527.out 1) | (go_at_call 15; (with_reducible refine (laws_b10Yards.calls kj54 t556 _ _ t557 t523 _ _ t524 true _ ?side1 ?side2 ?side3 ?side4 A81.out).mono ?_); (case side1 => refine (Kd.S_reads' (d := Ow.dW) (e := 35) (base := w.heap.size) (ok := fun k_ => ((((True ∧ some k_ ≠ (v541 : Value).ownBlock) ∧ some k_ ≠ (.slice Ao14 t524.length co14 : Value).ownBlock) ∧ some k_ ≠ (.slice Ao20 t531.length co20 : Value).ownBlock) ∧ some k_ ≠ (.slice Ao63 t549.length co63 : Value).ownBlock)) (n := t557.length) (c := co92) ?_).2.2; exact (by (with_reducible repeat (first | apply Kd.S_alloc | apply Kd.S_drewN | apply Kd.S_drew)); exact (Kd.S_mono (Kd.S_far (p := ⟨gb561, 1, none⟩) (Kd.S_far (p := ⟨gb561, 0, none⟩) (Kd.S_types HO559.out BK561.out (by decide)) (fun _ hk => hk.2) (.int .i64 t556)) (fun _ hk => hk.2) (.slice Ao92 t557.length co92)) (fun _ h_ => h_.1)))); (case side2 => exact (Kd.S_reads' HO559.out).2.1); (case side3 => refine (Kd.S_reads' (e := 35) (base := w.heap.size) (ok := fun k_ => ((some k_ ≠ (v541 : Value).ownBlock ∧ (some k_ ≠ (.slice Ao20 t531.length co20 : Value).ownBlock ∧ some k_ ≠ (.slice Ao63 t549.length co63 : Value).ownBlock)) ∧ some k_ ≠ (.slice Ao92 t557.length co92 : Value).ownBlock)) (n := t524.length) (c := co14) ?_).2.2; exact (by (with_reducible repeat (first | apply Kd.S_alloc | apply Kd.S_drewN | apply Kd.S_drew)); exact (Kd.S_mono (Kd.S_far (p := ⟨gb561, 1, none⟩) (Kd.S_far (p := ⟨gb561, 0, none⟩) (Kd.S_types HO_528001.out BK561.out (by decide)) (fun _ hk => hk.2) (.int .i64 t556)) (fun _ hk => hk.2) (.slice Ao92 t557.length co92)) (fun _ h_ => h_.1)))); (case side4 => exact (Kd.S_reads' HO_528001.out).2.1); rintro e w95 ⟨rfl, hb⟩; have n0_ := Aside0.mk (Kd.R_below (by (with_reducible repeat (first | apply Kd.R_alloc | apply Kd.R_drewN | apply Kd.R_drew)); exact (Kd.R_mono (Kd.R_far (p := ⟨gb561, 1, none⟩) (Kd.R_far (p := ⟨gb561, 0, none⟩) (Kd.R_types HO_12.out BK561.out (by decide)) (fun _ hk => hk.2) (.int .i64 t556)) (fun _ hk => hk.2) (.slice Ao92 t557.length co92)) (fun _ h_ => h_.1))) hb); have n1_ := Aside0.mk (Kd.S_below (by (with_reducible repeat (first | apply Kd.S_alloc | apply Kd.S_drewN | apply Kd.S_drew)); exact (Kd.S_mono (Kd.S_far (p := ⟨gb561, 1, none⟩) (Kd.S_far (p := ⟨gb561, 0, none⟩) (Kd.S_types HO_528001.out BK561.out (by decide)) (fun _ hk => hk.2) (.int .i64 t556)) (fun _ hk => hk.2) (.slice Ao92 t557.length co92)) (fun _ h_ => h_.1))) hb); have n2_ := Aside0.mk (Kd.S_below (by (with_reducible repeat (first | apply Kd.S_alloc | apply Kd.S_drewN | apply Kd.S_drew)); exact (Kd.S_mono (Kd.S_far (p := ⟨gb561, 1, none⟩) (Kd.S_far (p := ⟨gb561, 0, none⟩) (Kd.S_types HO_536001.out BK561.out (by decide)) (fun _ hk => hk.2) (.int .i64 t556)) (fun _ hk => hk.2) (.slice Ao92 t557.length co92)) (fun _ h_ => h_.1))) hb); have n3_ := Aside0.mk (Kd.S_below (by (with_reducible repeat (first | apply Kd.S_alloc | apply Kd.S_drewN | apply Kd.S_drew)); exact (Kd.S_mono (Kd.S_far (p := ⟨gb561, 1, none⟩) (Kd.S_far (p := ⟨gb561, 0, none⟩) (Kd.S_types HO_554001.out BK561.out (by decide)) (fun _ hk => hk.2) (.int .i64 t556)) (fun _ hk => hk.2) (.slice Ao92 t557.length co92)) (fun _ h_ => h_.1))) hb); have n4_ := Aside0.mk (Kd.S_below (by (with_reducible repeat (first | apply Kd.S_alloc | apply Kd.S_drewN | apply Kd.S_drew)); exact (Kd.S_mono (Kd.S_far (p := ⟨gb561, 1, none⟩) (Kd.S_far (p := ⟨gb561, 0, none⟩) (Kd.S_types HO559.out BK561.out (by decide)) (fun _ hk => hk.2) (.int .i64 t556)) (fun _ hk => hk.2) (.slice Ao92 t557.length co92)) (fun _ h_ => h_.1))) hb); have n5_ := Aside0.mk (blk_below (g := gb527) (o := .cells #[.int .i64 t523, .slice Ao14 t524.length co14] 24 (0, 0)) (by (with_reducible repeat (first | refine blk_drewN ?_ _ | refine blk_drew ?_ | refine blk_alloc ?_ _)); refine blk_far ?_ NB527_561.out _; (with_reducible repeat (first | refine blk_drewN ?_ _ | refine blk_drew ?_ | refine blk_alloc ?_ _)); refine blk_far ?_ NB527_561.out _; (with_reducible repeat (first | refine blk_drewN ?_ _ | refine blk_drew ?_ | refine blk_alloc ?_ _)); exact BK527.out) hb); have n6_ := Aside0.mk (blk_below (g := gb535) (o := .cells #[.int .i64 t530, .slice Ao20 t531.length co20] 24 (0, 0)) (by (with_reducible repeat (first | refine blk_drewN ?_ _ | refine blk_drew ?_ | refine blk_alloc ?_ _)); refine blk_far ?_ NB535_561.out _; (with_reducible repeat (first | refine blk_drewN ?_ _ | refine blk_drew ?_ | refine blk_alloc ?_ _)); refine blk_far ?_ NB535_561.out _; (with_reducible repeat (first | refine blk_drewN ?_ _ | refine blk_drew ?_ | refine blk_alloc ?_ _)); exact BK535.out) hb); have n7_ := Aside0.mk (blk_below (g := gb553) (o := .cells #[.int .i64 t548, .slice Ao63 t549.length co63] 24 (0, 0)) (by (with_reducible repeat (first | refine blk_drewN ?_ _ | refine blk_drew ?_ | refine blk_alloc ?_ _)); refine blk_far ?_ NB553_561.out _; (with_reducible repeat (first | refine blk_drewN ?_ _ | refine blk_drew ?_ | refine blk_alloc ?_ _)); refine blk_far ?_ NB553_561.out _; (with_reducible repeat (first | refine blk_drewN ?_ _ | refine blk_drew ?_ | refine blk_alloc ?_ _)); exact BK553.out) hb); have n8_ := Aside0.mk (blk_below (g := gb561) (o := .cells #[.int .i64 t556, .slice Ao92 t557.length co92] 24 (0, 0)) (by (with_reducible repeat (first | refine blk_drewN ?_ _ | refine blk_drew ?_ | refine blk_alloc ?_ _)); refine blk_put (cs := #[.int .i64 t556, .slice none 0 0]) ?_ 1 _ rfl; (with_reducible repeat (first | refine blk_drewN ?_ _ | refine blk_drew ?_ | refine blk_alloc ?_ _)); refine blk_put (cs := #[.int .i64 0, .slice none 0 0]) ?_ 0 _ rfl; (with_reducible repeat (first | refine blk_drewN ?_ _ | refine blk_drew ?_ | refine blk_alloc ?_ _)); exact BK561.out) hb); have n9_ := Aside0.mk (below_step (by repeat (first | (with_reducible first | exact HB.out | apply below_alloc | apply pw_below_drewN | apply below_drew1 | refine below_set ?_ GE527.out | refine below_set ?_ GE535.out | refine below_set ?_ GE553.out | refine below_set ?_ GE561.out) | exact HB.out)) hb); clear HO_12; clear HO_528001; clear HO_536001; clear HO_554001; clear HO559; clear BK527; clear BK535; clear BK553; clear BK561; clear HB; have HO_12 := n0_; have HO_528001 := n1_; have HO_536001 := n2_; have HO_554001 := n3_; have HO559 := n4_; have BK527 := n5_; have BK535 := n6_; have BK553 := n7_; have BK561 := n8_; have HB := n9_; clear n0_ n1_ n2_ n3_ n4_ n5_ n6_ n7_ n8_ n9_; (try clear hb); (try clear hb2); (try clear hk); (try clear hi)))
                        repeat (go_quiet (fail); try go_wp2)
                        go_meet
                        case rel => exact ⟨_, H', ⟨by have := HJ9.out; have := HJ54.out; first | omega | exact Nat.le_refl _⟩, ⟨by (with_reducible repeat (first | apply Kd.R_alloc | apply Kd.R_drewN | apply Kd.R_drew)); exact HO_12.out⟩, ⟨by (with_reducible repeat (first | apply Kd.S_alloc | apply Kd.S_drewN | apply Kd.S_drew)); exact Kd.S_mono HO_528001.out (fun _ hk => ⟨hk.1.1, ⟨hk.1.2.1, hk.1.2.2⟩⟩)⟩, ⟨by (with_reducible repeat (first | apply Kd.S_alloc | apply Kd.S_drewN | apply Kd.S_drew)); exact Kd.S_mono HO_536001.out (fun _ hk => ⟨hk.1.1, ⟨hk.1.2.1, hk.1.2.2⟩⟩)⟩, ⟨by (with_reducible repeat (first | apply Kd.S_alloc | apply Kd.S_drewN | apply Kd.S_drew)); exact Kd.S_mono HO_554001.out (fun _ hk => ⟨hk.1.1, ⟨hk.1.2.1, hk.1.2.2⟩⟩)⟩, ⟨by (with_reducible repeat (first | refine blk_drewN ?_ _ | refine blk_drew ?_ | refine blk_alloc ?_ _)); exact BK527.out⟩, ⟨by (with_reducible repeat (first | refine blk_drewN ?_ _ | refine blk_drew ?_ | refine blk_alloc ?_ _)); exact BK535.out⟩, ⟨by (with_reducible repeat (first | refine blk_drewN ?_ _ | refine blk_drew ?_ | refine blk_alloc ?_ _)); exact BK553.out⟩, ⟨by repeat (first | (with_reducible first | exact HB.out | apply below_alloc | apply pw_below_drewN | apply below_drew1 | refine below_set ?_ GE527.out | refine below_set ?_ GE535.out | refine below_set ?_ GE553.out | refine below_set ?_ GE561.out) | exact HB.out)⟩⟩
                      · replace c82 := Bool.eq_false_iff.mpr c82
                        subst c82
                        have H1 : (some false) = some true := by rw [if_neg (show ¬ (false = true) by decide)] at H; exact H
                        clear H
                        have H := H1
                        clear H1
                        first | exact absurd (Option.some.inj H) (by decide) | clear H
                        all_goals
                          have hnb96 := NB553_527.out
                          have hnc96 := NB527_553.out
                          have hnb97 := NB553_535.out
                          have hnc97 := NB535_553.out
                          have hcz98_0 : wc.cell? ⟨gb553, 0, none⟩ = some (.int .i64 t548) := (blk_cell BK553.out 0).trans rfl
                          have hcz98_1 : wc.cell? ⟨gb553, 1, none⟩ = some (.slice Ao63 t549.length co63) := (blk_cell BK553.out 1).trans rfl
                          have hfz98_0 := blk_frozen BK553.out 0
                          have hfz98_1 := blk_frozen BK553.out 1
                          go_wp2_with (first | (go_at_call 18; (with_reducible refine (impl_MoveTop.calls t548 _ _ t549 t547 t546 t556 t557 true _ ?side1 ?side2 A79.out).mono ?_); (case side1 => repeat (first | exact (Kd.S_reads' HO_554001.out).2.2 | (with_reducible refine Kd.C_alloc ?_ _) | (with_reducible refine Kd.C_drewN ?_ _) | (with_reducible refine Kd.C_drew ?_))); (case side2 => exact (Kd.S_reads' HO_554001.out).2.1); rintro e w99 ⟨v558, rfl, ho0, hb⟩; have n0_ := Aside0.mk (Kd.R_below (by (with_reducible repeat (first | apply Kd.R_alloc | apply Kd.R_drewN | apply Kd.R_drew)); exact HO_12.out) hb); have n1_ := Aside0.mk (Kd.S_elder' (by (with_reducible repeat (first | apply Kd.S_alloc | apply Kd.S_drewN | apply Kd.S_drew)); exact HO_528001.out) (Kd.S_base ho0) hb); have n2_ := Aside0.mk (Kd.S_elder' (by (with_reducible repeat (first | apply Kd.S_alloc | apply Kd.S_drewN | apply Kd.S_drew)); exact HO_536001.out) (Kd.S_base ho0) hb); have n3_ := Aside0.mk (Kd.S_elder' (by (with_reducible repeat (first | apply Kd.S_alloc | apply Kd.S_drewN | apply Kd.S_drew)); exact HO_554001.out) (Kd.S_base ho0) hb); have n4_ := Aside0.mk (Kd.S_lower (Kd.S_new' (Kd.S_new' (Kd.S_new' (Kd.S_new' ho0 (Kd.R_lt (by (with_reducible repeat (first | apply Kd.R_alloc | apply Kd.R_drewN | apply Kd.R_drew)); exact HO_12.out))) (Kd.S_lt (by (with_reducible repeat (first | apply Kd.S_alloc | apply Kd.S_drewN | apply Kd.S_drew)); exact HO_528001.out))) (Kd.S_lt (by (with_reducible repeat (first | apply Kd.S_alloc | apply Kd.S_drewN | apply Kd.S_drew)); exact HO_536001.out))) (Kd.S_lt (by (with_reducible repeat (first | apply Kd.S_alloc | apply Kd.S_drewN | apply Kd.S_drew)); exact HO_554001.out))) (below_size (by repeat (first | (with_reducible first | exact HB.out | apply below_alloc | apply pw_below_drewN | apply below_drew1 | refine below_set ?_ GE527.out | refine below_set ?_ GE535.out | refine below_set ?_ GE553.out) | exact HB.out)))); have n5_ := Aside0.mk (blk_below (g := gb527) (o := .cells #[.int .i64 t523, .slice Ao14 t524.length co14] 24 (0, 0)) (by (with_reducible repeat (first | refine blk_drewN ?_ _ | refine blk_drew ?_ | refine blk_alloc ?_ _)); exact BK527.out) hb); have n6_ := Aside0.mk (blk_below (g := gb535) (o := .cells #[.int .i64 t530, .slice Ao20 t531.length co20] 24 (0, 0)) (by (with_reducible repeat (first | refine blk_drewN ?_ _ | refine blk_drew ?_ | refine blk_alloc ?_ _)); exact BK535.out) hb); have n7_ := Aside0.mk (blk_below (g := gb553) (o := .cells #[.int .i64 t548, .slice Ao63 t549.length co63] 24 (0, 0)) (by (with_reducible repeat (first | refine blk_drewN ?_ _ | refine blk_drew ?_ | refine blk_alloc ?_ _)); exact BK553.out) hb); have n8_ := Aside0.mk (below_step (by repeat (first | (with_reducible first | exact HB.out | apply below_alloc | apply pw_below_drewN | apply below_drew1 | refine below_set ?_ GE527.out | refine below_set ?_ GE535.out | refine below_set ?_ GE553.out) | exact HB.out)) hb); clear HO_12; clear HO_528001; clear HO_536001; clear HO_554001; clear BK527; clear BK535; clear BK553; clear HB; have HO_12 := n0_; have HO_528001 := n1_; have HO_536001 := n2_; have HO_554001 := n3_; have HO559 := n4_; have BK527 := n5_; have BK535 := n6_; have BK553 := n7_; have HB := n8_; clear n0_ n1_ n2_ n3_ n4_ n5_ n6_ n7_ n8_; (try clear hb); (try clear hb2); (try clear hk); (try clear hi); (try clear ho0)) | ((with_reducible refine gate_dst (N := 18) rfl ?_); (try (refine gate_guard (by rfl) ?_; dsimp only)); refine box_event ?hg (N := 18) ?hd (cs := #[.int .i64 0, .slice none 0 0]) (t := 24) ?hr ?_; (case hd => rfl); (case hg => rfl); (case hr => first | (go_simp; done) | (go_simp; rfl)); intro gb561 hg w100 hbox hb; have n0_ := Aside0.mk (Kd.R_below (by (with_reducible repeat (first | apply Kd.R_alloc | apply Kd.R_drewN | apply Kd.R_drew)); exact HO_12.out) hb); have n1_ := Aside0.mk (Kd.S_below (by (with_reducible repeat (first | apply Kd.S_alloc | apply Kd.S_drewN | apply Kd.S_drew)); exact HO_528001.out) hb); have n2_ := Aside0.mk (Kd.S_below (by (with_reducible repeat (first | apply Kd.S_alloc | apply Kd.S_drewN | apply Kd.S_drew)); exact HO_536001.out) hb); have n3_ := Aside0.mk (Kd.S_below (by (with_reducible repeat (first | apply Kd.S_alloc | apply Kd.S_drewN | apply Kd.S_drew)); exact HO_554001.out) hb); have n4_ := Aside0.mk (Kd.S_below (by (with_reducible repeat (first | apply Kd.S_alloc | apply Kd.S_drewN | apply Kd.S_drew)); exact HO559.out) hb); have n5_ := Aside0.mk (blk_below (g := gb527) (o := .cells #[.int .i64 t523, .slice Ao14 t524.length co14] 24 (0, 0)) (by (with_reducible repeat (first | refine blk_drewN ?_ _ | refine blk_drew ?_ | refine blk_alloc ?_ _)); exact BK527.out) hb); have n6_ := Aside0.mk (blk_below (g := gb535) (o := .cells #[.int .i64 t530, .slice Ao20 t531.length co20] 24 (0, 0)) (by (with_reducible repeat (first | refine blk_drewN ?_ _ | refine blk_drew ?_ | refine blk_alloc ?_ _)); exact BK535.out) hb); have n7_ := Aside0.mk (blk_below (g := gb553) (o := .cells #[.int .i64 t548, .slice Ao63 t549.length co63] 24 (0, 0)) (by (with_reducible repeat (first | refine blk_drewN ?_ _ | refine blk_drew ?_ | refine blk_alloc ?_ _)); exact BK553.out) hb); have n8_ := Aside0.mk (below_step (by repeat (first | (with_reducible first | exact HB.out | apply below_alloc | apply pw_below_drewN | apply below_drew1 | refine below_set ?_ GE527.out | refine below_set ?_ GE535.out | refine below_set ?_ GE553.out) | exact HB.out)) hb); have n9_ := Aside0.mk (hbox); have n10_ := Aside0.mk ((by rw [hg]; exact (below_size (by repeat (first | (with_reducible first | exact HB.out | apply below_alloc | apply pw_below_drewN | apply below_drew1 | refine below_set ?_ GE527.out | refine below_set ?_ GE535.out | refine below_set ?_ GE553.out) | exact HB.out))) : w.heap.size ≤ gb561)); have n11_ := Aside0.mk ((by rw [hg]; exact (below_size (by repeat (first | (with_reducible first | exact HB.out | apply below_alloc | apply pw_below_drewN | apply below_drew1 | refine below_set ?_ GE527.out | refine below_set ?_ GE535.out | refine below_set ?_ GE553.out) | exact HB.out))) : w.heap.size ≤ gb561)); have n12_ := Aside0.mk ((by rw [hg]; exact Nat.ne_of_lt (blk_lt (g := gb527) (o := .cells #[.int .i64 t523, .slice Ao14 t524.length co14] 24 (0, 0)) (by (with_reducible repeat (first | refine blk_drewN ?_ _ | refine blk_drew ?_ | refine blk_alloc ?_ _)); exact BK527.out)) : gb527 ≠ gb561)); have n13_ := Aside0.mk ((by rw [hg]; exact Nat.ne_of_gt (blk_lt (g := gb527) (o := .cells #[.int .i64 t523, .slice Ao14 t524.length co14] 24 (0, 0)) (by (with_reducible repeat (first | refine blk_drewN ?_ _ | refine blk_drew ?_ | refine blk_alloc ?_ _)); exact BK527.out)) : gb561 ≠ gb527)); have n14_ := Aside0.mk ((by rw [hg]; exact Nat.ne_of_lt (blk_lt (g := gb535) (o := .cells #[.int .i64 t530, .slice Ao20 t531.length co20] 24 (0, 0)) (by (with_reducible repeat (first | refine blk_drewN ?_ _ | refine blk_drew ?_ | refine blk_alloc ?_ _)); exact BK535.out)) : gb535 ≠ gb561)); have n15_ := Aside0.mk ((by rw [hg]; exact Nat.ne_of_gt (blk_lt (g := gb535) (o := .cells #[.int .i64 t530, .slice Ao20 t531.length co20] 24 (0, 0)) (by (with_reducible repeat (first | refine blk_drewN ?_ _ | refine blk_drew ?_ | refine blk_alloc ?_ _)); exact BK535.out)) : gb561 ≠ gb535)); have n16_ := Aside0.mk ((by rw [hg]; exact Nat.ne_of_lt (blk_lt (g := gb553) (o := .cells #[.int .i64 t548, .slice Ao63 t549.length co63] 24 (0, 0)) (by (with_reducible repeat (first | refine blk_drewN ?_ _ | refine blk_drew ?_ | refine blk_alloc ?_ _)); exact BK553.out)) : gb553 ≠ gb561)); have n17_ := Aside0.mk ((by rw [hg]; exact Nat.ne_of_gt (blk_lt (g := gb553) (o := .cells #[.int .i64 t548, .slice Ao63 t549.length co63] 24 (0, 0)) (by (with_reducible repeat (first | refine blk_drewN ?_ _ | refine blk_drew ?_ | refine blk_alloc ?_ _)); exact BK553.out)) : gb561 ≠ gb553)); clear HO_12; clear HO_528001; clear HO_536001; clear HO_554001; clear HO559; clear BK527; clear BK535; clear BK553; clear HB; have HO_12 := n0_; have HO_528001 := n1_; have HO_536001 := n2_; have HO_554001 := n3_; have HO559 := n4_; have BK527 := n5_; have BK535 := n6_; have BK553 := n7_; have HB := n8_; have BK561 := n9_; have GW561 := n10_; have GE561 := n11_; have NB527_561 := n12_; have NB561_527 := n13_; have NB535_561 := n14_; have NB561_535 := n15_; have NB553_561 := n16_; have NB561_553 := n17_; clear n0_ n1_ n2_ n3_ n4_ n5_ n6_ n7_ n8_ n9_ n10_ n11_ n12_ n13_ n14_ n15_ n16_ n17_; clear hb hbox hg; have hnb101 := NB561_527.out; have hnc101 := NB527_561.out; have hnb102 := NB561_535.out; have hnc102 := NB535_561.out; have hnb103 := NB561_553.out; have hnc103 := NB553_561.out; have hcz104_0 : w100.cell? ⟨gb561, 0, none⟩ = some (.int .i64 0) := (blk_cell BK561.out 0).trans rfl; have hcz104_1 : w100.cell? ⟨gb561, 1, none⟩ = some (.slice none 0 0) := (blk_cell BK561.out 1).trans rfl; have hfz104_0 := blk_frozen BK561.out 0; have hfz104_1 := blk_frozen BK561.out 1; obtain ⟨Ao105, co105, eo105⟩ := Kd.S_slice HO559.out; subst eo105; have hnb106 := NB527_535.out; have hnc106 := NB535_527.out; have hcz107_0 : w100.cell? ⟨gb527, 0, none⟩ = some (.int .i64 t523) := (blk_cell BK527.out 0).trans rfl; have hcz107_1 : w100.cell? ⟨gb527, 1, none⟩ = some (.slice Ao14 t524.length co14) := (blk_cell BK527.out 1).trans rfl; have hfz107_0 := blk_frozen BK527.out 0; have hfz107_1 := blk_frozen BK527.out 1) | (go_at_call 15; (with_reducible refine (laws_b10Yards.calls kj54 t556 _ _ t557 t523 _ _ t524 false _ ?side1 ?side2 ?side3 ?side4 A81.out).mono ?_); (case side1 => refine (Kd.S_reads' (d := Ow.dW) (e := 35) (base := w.heap.size) (ok := fun k_ => ((((True ∧ some k_ ≠ (v541 : Value).ownBlock) ∧ some k_ ≠ (.slice Ao14 t524.length co14 : Value).ownBlock) ∧ some k_ ≠ (.slice Ao20 t531.length co20 : Value).ownBlock) ∧ some k_ ≠ (.slice Ao63 t549.length co63 : Value).ownBlock)) (n := t557.length) (c := co105) ?_).2.2; exact (by (with_reducible repeat (first | apply Kd.S_alloc | apply Kd.S_drewN | apply Kd.S_drew)); exact (Kd.S_mono (Kd.S_far (p := ⟨gb561, 1, none⟩) (Kd.S_far (p := ⟨gb561, 0, none⟩) (Kd.S_types HO559.out BK561.out (by decide)) (fun _ hk => hk.2) (.int .i64 t556)) (fun _ hk => hk.2) (.slice Ao105 t557.length co105)) (fun _ h_ => h_.1)))); (case side2 => exact (Kd.S_reads' HO559.out).2.1); (case side3 => refine (Kd.S_reads' (e := 35) (base := w.heap.size) (ok := fun k_ => ((some k_ ≠ (v541 : Value).ownBlock ∧ (some k_ ≠ (.slice Ao20 t531.length co20 : Value).ownBlock ∧ some k_ ≠ (.slice Ao63 t549.length co63 : Value).ownBlock)) ∧ some k_ ≠ (.slice Ao105 t557.length co105 : Value).ownBlock)) (n := t524.length) (c := co14) ?_).2.2; exact (by (with_reducible repeat (first | apply Kd.S_alloc | apply Kd.S_drewN | apply Kd.S_drew)); exact (Kd.S_mono (Kd.S_far (p := ⟨gb561, 1, none⟩) (Kd.S_far (p := ⟨gb561, 0, none⟩) (Kd.S_types HO_528001.out BK561.out (by decide)) (fun _ hk => hk.2) (.int .i64 t556)) (fun _ hk => hk.2) (.slice Ao105 t557.length co105)) (fun _ h_ => h_.1)))); (case side4 => exact (Kd.S_reads' HO_528001.out).2.1); rintro e w108 ⟨rfl, hb⟩; have n0_ := Aside0.mk (Kd.R_below (by (with_reducible repeat (first | apply Kd.R_alloc | apply Kd.R_drewN | apply Kd.R_drew)); exact (Kd.R_mono (Kd.R_far (p := ⟨gb561, 1, none⟩) (Kd.R_far (p := ⟨gb561, 0, none⟩) (Kd.R_types HO_12.out BK561.out (by decide)) (fun _ hk => hk.2) (.int .i64 t556)) (fun _ hk => hk.2) (.slice Ao105 t557.length co105)) (fun _ h_ => h_.1))) hb); have n1_ := Aside0.mk (Kd.S_below (by (with_reducible repeat (first | apply Kd.S_alloc | apply Kd.S_drewN | apply Kd.S_drew)); exact (Kd.S_mono (Kd.S_far (p := ⟨gb561, 1, none⟩) (Kd.S_far (p := ⟨gb561, 0, none⟩) (Kd.S_types HO_528001.out BK561.out (by decide)) (fun _ hk => hk.2) (.int .i64 t556)) (fun _ hk => hk.2) (.slice Ao105 t557.length co105)) (fun _ h_ => h_.1))) hb); have n2_ := Aside0.mk (Kd.S_below (by (with_reducible repeat (first | apply Kd.S_alloc | apply Kd.S_drewN | apply Kd.S_drew)); exact (Kd.S_mono (Kd.S_far (p := ⟨gb561, 1, none⟩) (Kd.S_far (p := ⟨gb561, 0, none⟩) (Kd.S_types HO_536001.out BK561.out (by decide)) (fun _ hk => hk.2) (.int .i64 t556)) (fun _ hk => hk.2) (.slice Ao105 t557.length co105)) (fun _ h_ => h_.1))) hb); have n3_ := Aside0.mk (Kd.S_below (by (with_reducible repeat (first | apply Kd.S_alloc | apply Kd.S_drewN | apply Kd.S_drew)); exact (Kd.S_mono (Kd.S_far (p := ⟨gb561, 1, none⟩) (Kd.S_far (p := ⟨gb561, 0, none⟩) (Kd.S_types HO_554001.out BK561.out (by decide)) (fun _ hk => hk.2) (.int .i64 t556)) (fun _ hk => hk.2) (.slice Ao105 t557.length co105)) (fun _ h_ => h_.1))) hb); have n4_ := Aside0.mk (Kd.S_below (by (with_reducible repeat (first | apply Kd.S_alloc | apply Kd.S_drewN | apply Kd.S_drew)); exact (Kd.S_mono (Kd.S_far (p := ⟨gb561, 1, none⟩) (Kd.S_far (p := ⟨gb561, 0, none⟩) (Kd.S_types HO559.out BK561.out (by decide)) (fun _ hk => hk.2) (.int .i64 t556)) (fun _ hk => hk.2) (.slice Ao105 t557.length co105)) (fun _ h_ => h_.1))) hb); have n5_ := Aside0.mk (blk_below (g := gb527) (o := .cells #[.int .i64 t523, .slice Ao14 t524.length co14] 24 (0, 0)) (by (with_reducible repeat (first | refine blk_drewN ?_ _ | refine blk_drew ?_ | refine blk_alloc ?_ _)); refine blk_far ?_ NB527_561.out _; (with_reducible repeat (first | refine blk_drewN ?_ _ | refine blk_drew ?_ | refine blk_alloc ?_ _)); refine blk_far ?_ NB527_561.out _; (with_reducible repeat (first | refine blk_drewN ?_ _ | refine blk_drew ?_ | refine blk_alloc ?_ _)); exact BK527.out) hb); have n6_ := Aside0.mk (blk_below (g := gb535) (o := .cells #[.int .i64 t530, .slice Ao20 t531.length co20] 24 (0, 0)) (by (with_reducible repeat (first | refine blk_drewN ?_ _ | refine blk_drew ?_ | refine blk_alloc ?_ _)); refine blk_far ?_ NB535_561.out _; (with_reducible repeat (first | refine blk_drewN ?_ _ | refine blk_drew ?_ | refine blk_alloc ?_ _)); refine blk_far ?_ NB535_561.out _; (with_reducible repeat (first | refine blk_drewN ?_ _ | refine blk_drew ?_ | refine blk_alloc ?_ _)); exact BK535.out) hb); have n7_ := Aside0.mk (blk_below (g := gb553) (o := .cells #[.int .i64 t548, .slice Ao63 t549.length co63] 24 (0, 0)) (by (with_reducible repeat (first | refine blk_drewN ?_ _ | refine blk_drew ?_ | refine blk_alloc ?_ _)); refine blk_far ?_ NB553_561.out _; (with_reducible repeat (first | refine blk_drewN ?_ _ | refine blk_drew ?_ | refine blk_alloc ?_ _)); refine blk_far ?_ NB553_561.out _; (with_reducible repeat (first | refine blk_drewN ?_ _ | refine blk_drew ?_ | refine blk_alloc ?_ _)); exact BK553.out) hb); have n8_ := Aside0.mk (blk_below (g := gb561) (o := .cells #[.int .i64 t556, .slice Ao105 t557.length co105] 24 (0, 0)) (by (with_reducible repeat (first | refine blk_drewN ?_ _ | refine blk_drew ?_ | refine blk_alloc ?_ _)); refine blk_put (cs := #[.int .i64 t556, .slice none 0 0]) ?_ 1 _ rfl; (with_reducible repeat (first | refine blk_drewN ?_ _ | refine blk_drew ?_ | refine blk_alloc ?_ _)); refine blk_put (cs := #[.int .i64 0, .slice none 0 0]) ?_ 0 _ rfl; (with_reducible repeat (first | refine blk_drewN ?_ _ | refine blk_drew ?_ | refine blk_alloc ?_ _)); exact BK561.out) hb); have n9_ := Aside0.mk (below_step (by repeat (first | (with_reducible first | exact HB.out | apply below_alloc | apply pw_below_drewN | apply below_drew1 | refine below_set ?_ GE527.out | refine below_set ?_ GE535.out | refine below_set ?_ GE553.out | refine below_set ?_ GE561.out) | exact HB.out)) hb); clear HO_12; clear HO_528001; clear HO_536001; clear HO_554001; clear HO559; clear BK527; clear BK535; clear BK553; clear BK561; clear HB; have HO_12 := n0_; have HO_528001 := n1_; have HO_536001 := n2_; have HO_554001 := n3_; have HO559 := n4_; have BK527 := n5_; have BK535 := n6_; have BK553 := n7_; have BK561 := n8_; have HB := n9_; clear n0_ n1_ n2_ n3_ n4_ n5_ n6_ n7_ n8_ n9_; (try clear hb); (try clear hb2); (try clear hk); (try clear hi)))
                          repeat (go_quiet (fail); try go_wp2)
                          go_ret
                          exact ⟨by first | rfl | (simp [errW_none, errW_some] <;> rfl) | (simp [*, errW_none, errW_some] <;> rfl), by repeat (first | (with_reducible first | exact HB.out | apply below_alloc | apply pw_below_drewN | apply below_drew1 | refine below_set ?_ GE527.out | refine below_set ?_ GE535.out | refine below_set ?_ GE553.out | refine below_set ?_ GE561.out) | exact HB.out)⟩
                    · replace c80 := Bool.eq_false_iff.mpr c80
                      subst c80
                      have H1 : (some false) = some true := by rw [if_neg (show ¬ (false = true) by decide)] at H; exact H
                      clear H
                      have H := H1
                      clear H1
                      first | exact absurd (Option.some.inj H) (by decide) | clear H
                      all_goals
                        have hnb109 := NB553_527.out
                        have hnc109 := NB527_553.out
                        have hnb110 := NB553_535.out
                        have hnc110 := NB535_553.out
                        have hcz111_0 : wc.cell? ⟨gb553, 0, none⟩ = some (.int .i64 t548) := (blk_cell BK553.out 0).trans rfl
                        have hcz111_1 : wc.cell? ⟨gb553, 1, none⟩ = some (.slice Ao63 t549.length co63) := (blk_cell BK553.out 1).trans rfl
                        have hfz111_0 := blk_frozen BK553.out 0
                        have hfz111_1 := blk_frozen BK553.out 1
                        go_wp2_with (first | (go_at_call 18; (with_reducible refine (impl_MoveTop.calls t548 _ _ t549 t547 t546 t556 t557 false _ ?side1 ?side2 A79.out).mono ?_); (case side1 => repeat (first | exact (Kd.S_reads' HO_554001.out).2.2 | (with_reducible refine Kd.C_alloc ?_ _) | (with_reducible refine Kd.C_drewN ?_ _) | (with_reducible refine Kd.C_drew ?_))); (case side2 => exact (Kd.S_reads' HO_554001.out).2.1); rintro e w112 ⟨v558, rfl, ho0, hb⟩; have n0_ := Aside0.mk (Kd.R_below (by (with_reducible repeat (first | apply Kd.R_alloc | apply Kd.R_drewN | apply Kd.R_drew)); exact HO_12.out) hb); have n1_ := Aside0.mk (Kd.S_elder' (by (with_reducible repeat (first | apply Kd.S_alloc | apply Kd.S_drewN | apply Kd.S_drew)); exact HO_528001.out) (Kd.S_base ho0) hb); have n2_ := Aside0.mk (Kd.S_elder' (by (with_reducible repeat (first | apply Kd.S_alloc | apply Kd.S_drewN | apply Kd.S_drew)); exact HO_536001.out) (Kd.S_base ho0) hb); have n3_ := Aside0.mk (Kd.S_elder' (by (with_reducible repeat (first | apply Kd.S_alloc | apply Kd.S_drewN | apply Kd.S_drew)); exact HO_554001.out) (Kd.S_base ho0) hb); have n4_ := Aside0.mk (Kd.S_lower (Kd.S_new' (Kd.S_new' (Kd.S_new' (Kd.S_new' ho0 (Kd.R_lt (by (with_reducible repeat (first | apply Kd.R_alloc | apply Kd.R_drewN | apply Kd.R_drew)); exact HO_12.out))) (Kd.S_lt (by (with_reducible repeat (first | apply Kd.S_alloc | apply Kd.S_drewN | apply Kd.S_drew)); exact HO_528001.out))) (Kd.S_lt (by (with_reducible repeat (first | apply Kd.S_alloc | apply Kd.S_drewN | apply Kd.S_drew)); exact HO_536001.out))) (Kd.S_lt (by (with_reducible repeat (first | apply Kd.S_alloc | apply Kd.S_drewN | apply Kd.S_drew)); exact HO_554001.out))) (below_size (by repeat (first | (with_reducible first | exact HB.out | apply below_alloc | apply pw_below_drewN | apply below_drew1 | refine below_set ?_ GE527.out | refine below_set ?_ GE535.out | refine below_set ?_ GE553.out) | exact HB.out)))); have n5_ := Aside0.mk (blk_below (g := gb527) (o := .cells #[.int .i64 t523, .slice Ao14 t524.length co14] 24 (0, 0)) (by (with_reducible repeat (first | refine blk_drewN ?_ _ | refine blk_drew ?_ | refine blk_alloc ?_ _)); exact BK527.out) hb); have n6_ := Aside0.mk (blk_below (g := gb535) (o := .cells #[.int .i64 t530, .slice Ao20 t531.length co20] 24 (0, 0)) (by (with_reducible repeat (first | refine blk_drewN ?_ _ | refine blk_drew ?_ | refine blk_alloc ?_ _)); exact BK535.out) hb); have n7_ := Aside0.mk (blk_below (g := gb553) (o := .cells #[.int .i64 t548, .slice Ao63 t549.length co63] 24 (0, 0)) (by (with_reducible repeat (first | refine blk_drewN ?_ _ | refine blk_drew ?_ | refine blk_alloc ?_ _)); exact BK553.out) hb); have n8_ := Aside0.mk (below_step (by repeat (first | (with_reducible first | exact HB.out | apply below_alloc | apply pw_below_drewN | apply below_drew1 | refine below_set ?_ GE527.out | refine below_set ?_ GE535.out | refine below_set ?_ GE553.out) | exact HB.out)) hb); clear HO_12; clear HO_528001; clear HO_536001; clear HO_554001; clear BK527; clear BK535; clear BK553; clear HB; have HO_12 := n0_; have HO_528001 := n1_; have HO_536001 := n2_; have HO_554001 := n3_; have HO559 := n4_; have BK527 := n5_; have BK535 := n6_; have BK553 := n7_; have HB := n8_; clear n0_ n1_ n2_ n3_ n4_ n5_ n6_ n7_ n8_; (try clear hb); (try clear hb2); (try clear hk); (try clear hi); (try clear ho0)) | ((with_reducible refine gate_dst (N := 18) rfl ?_); (try (refine gate_guard (by rfl) ?_; dsimp only)); refine box_event ?hg (N := 18) ?hd (cs := #[.int .i64 0, .slice none 0 0]) (t := 24) ?hr ?_; (case hd => rfl); (case hg => rfl); (case hr => first | (go_simp; done) | (go_simp; rfl)); intro gb561 hg w113 hbox hb; have n0_ := Aside0.mk (Kd.R_below (by (with_reducible repeat (first | apply Kd.R_alloc | apply Kd.R_drewN | apply Kd.R_drew)); exact HO_12.out) hb); have n1_ := Aside0.mk (Kd.S_below (by (with_reducible repeat (first | apply Kd.S_alloc | apply Kd.S_drewN | apply Kd.S_drew)); exact HO_528001.out) hb); have n2_ := Aside0.mk (Kd.S_below (by (with_reducible repeat (first | apply Kd.S_alloc | apply Kd.S_drewN | apply Kd.S_drew)); exact HO_536001.out) hb); have n3_ := Aside0.mk (Kd.S_below (by (with_reducible repeat (first | apply Kd.S_alloc | apply Kd.S_drewN | apply Kd.S_drew)); exact HO_554001.out) hb); have n4_ := Aside0.mk (Kd.S_below (by (with_reducible repeat (first | apply Kd.S_alloc | apply Kd.S_drewN | apply Kd.S_drew)); exact HO559.out) hb); have n5_ := Aside0.mk (blk_below (g := gb527) (o := .cells #[.int .i64 t523, .slice Ao14 t524.length co14] 24 (0, 0)) (by (with_reducible repeat (first | refine blk_drewN ?_ _ | refine blk_drew ?_ | refine blk_alloc ?_ _)); exact BK527.out) hb); have n6_ := Aside0.mk (blk_below (g := gb535) (o := .cells #[.int .i64 t530, .slice Ao20 t531.length co20] 24 (0, 0)) (by (with_reducible repeat (first | refine blk_drewN ?_ _ | refine blk_drew ?_ | refine blk_alloc ?_ _)); exact BK535.out) hb); have n7_ := Aside0.mk (blk_below (g := gb553) (o := .cells #[.int .i64 t548, .slice Ao63 t549.length co63] 24 (0, 0)) (by (with_reducible repeat (first | refine blk_drewN ?_ _ | refine blk_drew ?_ | refine blk_alloc ?_ _)); exact BK553.out) hb); have n8_ := Aside0.mk (below_step (by repeat (first | (with_reducible first | exact HB.out | apply below_alloc | apply pw_below_drewN | apply below_drew1 | refine below_set ?_ GE527.out | refine below_set ?_ GE535.out | refine below_set ?_ GE553.out) | exact HB.out)) hb); have n9_ := Aside0.mk (hbox); have n10_ := Aside0.mk ((by rw [hg]; exact (below_size (by repeat (first | (with_reducible first | exact HB.out | apply below_alloc | apply pw_below_drewN | apply below_drew1 | refine below_set ?_ GE527.out | refine below_set ?_ GE535.out | refine below_set ?_ GE553.out) | exact HB.out))) : w.heap.size ≤ gb561)); have n11_ := Aside0.mk ((by rw [hg]; exact (below_size (by repeat (first | (with_reducible first | exact HB.out | apply below_alloc | apply pw_below_drewN | apply below_drew1 | refine below_set ?_ GE527.out | refine below_set ?_ GE535.out | refine below_set ?_ GE553.out) | exact HB.out))) : w.heap.size ≤ gb561)); have n12_ := Aside0.mk ((by rw [hg]; exact Nat.ne_of_lt (blk_lt (g := gb527) (o := .cells #[.int .i64 t523, .slice Ao14 t524.length co14] 24 (0, 0)) (by (with_reducible repeat (first | refine blk_drewN ?_ _ | refine blk_drew ?_ | refine blk_alloc ?_ _)); exact BK527.out)) : gb527 ≠ gb561)); have n13_ := Aside0.mk ((by rw [hg]; exact Nat.ne_of_gt (blk_lt (g := gb527) (o := .cells #[.int .i64 t523, .slice Ao14 t524.length co14] 24 (0, 0)) (by (with_reducible repeat (first | refine blk_drewN ?_ _ | refine blk_drew ?_ | refine blk_alloc ?_ _)); exact BK527.out)) : gb561 ≠ gb527)); have n14_ := Aside0.mk ((by rw [hg]; exact Nat.ne_of_lt (blk_lt (g := gb535) (o := .cells #[.int .i64 t530, .slice Ao20 t531.length co20] 24 (0, 0)) (by (with_reducible repeat (first | refine blk_drewN ?_ _ | refine blk_drew ?_ | refine blk_alloc ?_ _)); exact BK535.out)) : gb535 ≠ gb561)); have n15_ := Aside0.mk ((by rw [hg]; exact Nat.ne_of_gt (blk_lt (g := gb535) (o := .cells #[.int .i64 t530, .slice Ao20 t531.length co20] 24 (0, 0)) (by (with_reducible repeat (first | refine blk_drewN ?_ _ | refine blk_drew ?_ | refine blk_alloc ?_ _)); exact BK535.out)) : gb561 ≠ gb535)); have n16_ := Aside0.mk ((by rw [hg]; exact Nat.ne_of_lt (blk_lt (g := gb553) (o := .cells #[.int .i64 t548, .slice Ao63 t549.length co63] 24 (0, 0)) (by (with_reducible repeat (first | refine blk_drewN ?_ _ | refine blk_drew ?_ | refine blk_alloc ?_ _)); exact BK553.out)) : gb553 ≠ gb561)); have n17_ := Aside0.mk ((by rw [hg]; exact Nat.ne_of_gt (blk_lt (g := gb553) (o := .cells #[.int .i64 t548, .slice Ao63 t549.length co63] 24 (0, 0)) (by (with_reducible repeat (first | refine blk_drewN ?_ _ | refine blk_drew ?_ | refine blk_alloc ?_ _)); exact BK553.out)) : gb561 ≠ gb553)); clear HO_12; clear HO_528001; clear HO_536001; clear HO_554001; clear HO559; clear BK527; clear BK535; clear BK553; clear HB; have HO_12 := n0_; have HO_528001 := n1_; have HO_536001 := n2_; have HO_554001 := n3_; have HO559 := n4_; have BK527 := n5_; have BK535 := n6_; have BK553 := n7_; have HB := n8_; have BK561 := n9_; have GW561 := n10_; have GE561 := n11_; have NB527_561 := n12_; have NB561_527 := n13_; have NB535_561 := n14_; have NB561_535 := n15_; have NB553_561 := n16_; have NB561_553 := n17_; clear n0_ n1_ n2_ n3_ n4_ n5_ n6_ n7_ n8_ n9_ n10_ n11_ n12_ n13_ n14_ n15_ n16_ n17_; clear hb hbox hg; have hnb114 := NB561_527.out; have hnc114 := NB527_561.out; have hnb115 := NB561_535.out; have hnc115 := NB535_561.out; have hnb116 := NB561_553.out; have hnc116 := NB553_561.out; have hcz117_0 : w113.cell? ⟨gb561, 0, none⟩ = some (.int .i64 0) := (blk_cell BK561.out 0).trans rfl; have hcz117_1 : w113.cell? ⟨gb561, 1, none⟩ = some (.slice none 0 0) := (blk_cell BK561.out 1).trans rfl; have hfz117_0 := blk_frozen BK561.out 0; have hfz117_1 := blk_frozen BK561.out 1; obtain ⟨Ao118, co118, eo118⟩ := Kd.S_slice HO559.out; subst eo118))
                        repeat (go_quiet (fail); try go_wp2)
                        go_ret
                        exact ⟨by first | rfl | (simp [errW_none, errW_some] <;> rfl) | (simp [*, errW_none, errW_some] <;> rfl), by repeat (first | (with_reducible first | exact HB.out | apply below_alloc | apply pw_below_drewN | apply below_drew1 | refine below_set ?_ GE527.out | refine below_set ?_ GE535.out | refine below_set ?_ GE553.out | refine below_set ?_ GE561.out) | exact HB.out)⟩
                  · replace c78 := Bool.eq_false_iff.mpr c78
                    subst c78
                    have H1 : (laws_FnStacked.j2 kj54 t540 t523 t524) = some true := by rw [if_neg (show ¬ (false = true) by decide)] at H; exact H
                    clear H
                    have H := H1
                    clear H1
                    have H' := Aside0.mk H
                    clear H
                    go_wp2
                    repeat (go_quiet (fail); try go_wp2)
                    go_meet
                    case rel => exact ⟨_, H', ⟨by have := HJ9.out; have := HJ54.out; first | omega | exact Nat.le_refl _⟩, ⟨by (with_reducible repeat (first | apply Kd.R_alloc | apply Kd.R_drewN | apply Kd.R_drew)); exact HO_12.out⟩, ⟨by (with_reducible repeat (first | apply Kd.S_alloc | apply Kd.S_drewN | apply Kd.S_drew)); exact HO_528001.out⟩, ⟨by (with_reducible repeat (first | apply Kd.S_alloc | apply Kd.S_drewN | apply Kd.S_drew)); exact HO_536001.out⟩, ⟨by (with_reducible repeat (first | apply Kd.S_alloc | apply Kd.S_drewN | apply Kd.S_drew)); exact HO_554001.out⟩, ⟨by (with_reducible repeat (first | refine blk_drewN ?_ _ | refine blk_drew ?_ | refine blk_alloc ?_ _)); exact BK527.out⟩, ⟨by (with_reducible repeat (first | refine blk_drewN ?_ _ | refine blk_drew ?_ | refine blk_alloc ?_ _)); exact BK535.out⟩, ⟨by (with_reducible repeat (first | refine blk_drewN ?_ _ | refine blk_drew ?_ | refine blk_alloc ?_ _)); exact BK553.out⟩, ⟨by repeat (first | (with_reducible first | exact HB.out | apply below_alloc | apply pw_below_drewN | apply below_drew1 | refine below_set ?_ GE527.out | refine below_set ?_ GE535.out | refine below_set ?_ GE553.out) | exact HB.out)⟩⟩
                case rest =>
                  clear HC77
                  try clear c1
                  try clear c2
                  try clear p2
                  try clear c3
                  try clear c4
                  try clear c5
                  try clear p5
                  try clear q5
                  try clear hx5
                  try clear c6
                  try clear c7
                  try clear c8
                  try clear c9
                  try clear c10
                  try clear c11
                  try clear c18
                  try clear c25
                  try clear c26
                  try clear c27
                  try clear c28
                  try clear c30
                  try clear c31
                  try clear c31b0
                  try clear c31b1
                  try clear c31b2
                  try clear c33
                  try clear c41
                  try clear c47
                  try clear c51
                  try clear c55
                  try clear p55
                  try clear q55
                  try clear hx55
                  try clear c56
                  try clear c60
                  try clear c61
                  try clear c64
                  try clear c64b0
                  try clear c64b1
                  try clear c65
                  try clear c65b0
                  try clear c66
                  try clear c66b0
                  try clear c67
                  try clear c67b0
                  try clear c67b1
                  try clear c68
                  try clear c68b0
                  try clear c69
                  try clear c69b0
                  try clear c70
                  try clear c71
                  try clear c73
                  try clear c74
                  try clear c76
                  try clear c78
                  try clear c80
                  try clear c82
                  try clear c83
                  try clear c84
                  try clear c88
                  try clear c89
                  try clear c90
                  try clear c93
                  try clear c96
                  try clear c97
                  try clear c101
                  try clear c102
                  try clear c103
                  try clear c106
                  try clear c109
                  try clear c110
                  try clear c114
                  try clear c115
                  try clear c116
                  try clear hcz104_0
                  try clear hcz104_1
                  try clear hcz107_0
                  try clear hcz107_1
                  try clear hcz111_0
                  try clear hcz111_1
                  try clear hcz117_0
                  try clear hcz117_1
                  try clear hcz13_0
                  try clear hcz13_1
                  try clear hcz19_0
                  try clear hcz19_1
                  try clear hcz21_0
                  try clear hcz21_1
                  try clear hcz23_0
                  try clear hcz23_1
                  try clear hcz34_0
                  try clear hcz34_1
                  try clear hcz35_0
                  try clear hcz35_1
                  try clear hcz38_0
                  try clear hcz38_1
                  try clear hcz42_0
                  try clear hcz42_1
                  try clear hcz43_0
                  try clear hcz43_1
                  try clear hcz46_0
                  try clear hcz46_1
                  try clear hcz48_0
                  try clear hcz48_1
                  try clear hcz49_0
                  try clear hcz49_1
                  try clear hcz57_0
                  try clear hcz57_1
                  try clear hcz62_0
                  try clear hcz62_1
                  try clear hcz72_0
                  try clear hcz72_1
                  try clear hcz75_0
                  try clear hcz75_1
                  try clear hcz85_0
                  try clear hcz85_1
                  try clear hcz91_0
                  try clear hcz91_1
                  try clear hcz94_0
                  try clear hcz94_1
                  try clear hcz98_0
                  try clear hcz98_1
                  try clear hfz104_0
                  try clear hfz104_1
                  try clear hfz107_0
                  try clear hfz107_1
                  try clear hfz111_0
                  try clear hfz111_1
                  try clear hfz117_0
                  try clear hfz117_1
                  try clear hfz13_0
                  try clear hfz13_1
                  try clear hfz19_0
                  try clear hfz19_1
                  try clear hfz21_0
                  try clear hfz21_1
                  try clear hfz23_0
                  try clear hfz23_1
                  try clear hfz34_0
                  try clear hfz34_1
                  try clear hfz35_0
                  try clear hfz35_1
                  try clear hfz38_0
                  try clear hfz38_1
                  try clear hfz42_0
                  try clear hfz42_1
                  try clear hfz43_0
                  try clear hfz43_1
                  try clear hfz46_0
                  try clear hfz46_1
                  try clear hfz48_0
                  try clear hfz48_1
                  try clear hfz49_0
                  try clear hfz49_1
                  try clear hfz57_0
                  try clear hfz57_1
                  try clear hfz62_0
                  try clear hfz62_1
                  try clear hfz72_0
                  try clear hfz72_1
                  try clear hfz75_0
                  try clear hfz75_1
                  try clear hfz85_0
                  try clear hfz85_1
                  try clear hfz91_0
                  try clear hfz91_1
                  try clear hfz94_0
                  try clear hfz94_1
                  try clear hfz98_0
                  try clear hfz98_1
                  try clear hx554_0
                  try clear hx555_0
                  try clear p2
                  try clear p5
                  try clear p55
                  try clear p554
                  try clear p555
                  try clear q5
                  try clear q55
                  try clear q554
                  try clear q555
                  obtain ⟨kq, HA, HJ76, HO_12, HO_528001, HO_536001, HO_554001, BK527, BK535, BK553, HB⟩ := hcut
                  cases kq with
                  | zero => exact absurd HA.out (by simp [laws_FnStacked.j2])
                  | succ kj76 =>
                    have H := HA.out
                    clear HA
                    simp only [laws_FnStacked.j2] at H
                    have H' := Aside0.mk H
                    clear H
                    go_wp2
                    repeat (go_quiet (fail); try go_wp2)
                    go_loopg [20] kj76 (fun kq v20 w' => ∃ (x20_4 : Int), v20 = .int .i64 x20_4 ∧ Aside0 (laws_FnStacked.l0 kq t540 x20_4 t523 t524 = some true) ∧ Aside0 (kq ≤ kj76) ∧ Aside0 (Kd.R (Kd.int .i64) 2 w' w.heap.size (fun _ => True) v541 t540) ∧ Aside0 (Kd.S (Kd.slice 2 (Kd.int .i64)) 35 w' w.heap.size (fun k_ => some k_ ≠ (v541 : Value).ownBlock ∧ some k_ ≠ ((.slice Ao20 t531.length co20) : Value).ownBlock ∧ some k_ ≠ ((.slice Ao63 t549.length co63) : Value).ownBlock) (.slice Ao14 t524.length co14) t524) ∧ Aside0 (Kd.S (Kd.slice 2 (Kd.int .i64)) 35 w' w.heap.size (fun k_ => some k_ ≠ (v541 : Value).ownBlock ∧ some k_ ≠ ((.slice Ao14 t524.length co14) : Value).ownBlock ∧ some k_ ≠ ((.slice Ao63 t549.length co63) : Value).ownBlock) (.slice Ao20 t531.length co20) t531) ∧ Aside0 (Kd.S Ow.dW 35 w' w.heap.size (fun k_ => some k_ ≠ (v541 : Value).ownBlock ∧ some k_ ≠ ((.slice Ao14 t524.length co14) : Value).ownBlock ∧ some k_ ≠ ((.slice Ao20 t531.length co20) : Value).ownBlock) (.slice Ao63 t549.length co63) t549) ∧ Aside0 (w'.heap[gb527]? = some (.cells #[.int .i64 t523, (.slice Ao14 t524.length co14)] 24 (0, 0))) ∧ Aside0 (w'.heap[gb535]? = some (.cells #[.int .i64 t530, (.slice Ao20 t531.length co20)] 24 (0, 0))) ∧ Aside0 (w'.heap[gb553]? = some (.cells #[.int .i64 t548, (.slice Ao63 t549.length co63)] 24 (0, 0))) ∧ Aside0 (Below w.heap.size w w'))
                    case atStart => exact ⟨(0), (by first | rfl | (simp; done) | (simp [*]; done)), H', ⟨Nat.le_refl _⟩, ⟨by (with_reducible repeat (first | apply Kd.R_alloc | apply Kd.R_drewN | apply Kd.R_drew)); exact HO_12.out⟩, ⟨by (with_reducible repeat (first | apply Kd.S_alloc | apply Kd.S_drewN | apply Kd.S_drew)); exact HO_528001.out⟩, ⟨by (with_reducible repeat (first | apply Kd.S_alloc | apply Kd.S_drewN | apply Kd.S_drew)); exact HO_536001.out⟩, ⟨by (with_reducible repeat (first | apply Kd.S_alloc | apply Kd.S_drewN | apply Kd.S_drew)); exact HO_554001.out⟩, ⟨by (with_reducible repeat (first | refine blk_drewN ?_ _ | refine blk_drew ?_ | refine blk_alloc ?_ _)); exact BK527.out⟩, ⟨by (with_reducible repeat (first | refine blk_drewN ?_ _ | refine blk_drew ?_ | refine blk_alloc ?_ _)); exact BK535.out⟩, ⟨by (with_reducible repeat (first | refine blk_drewN ?_ _ | refine blk_drew ?_ | refine blk_alloc ?_ _)); exact BK553.out⟩, ⟨by repeat (first | (with_reducible first | exact HB.out | apply below_alloc | apply pw_below_drewN | apply below_drew1 | refine below_set ?_ GE527.out | refine below_set ?_ GE535.out | refine below_set ?_ GE553.out) | exact HB.out)⟩⟩
                    case round =>
                      clear H'
                      try clear c1
                      try clear c2
                      try clear p2
                      try clear c3
                      try clear c4
                      try clear c5
                      try clear p5
                      try clear q5
                      try clear hx5
                      try clear c6
                      try clear c7
                      try clear c8
                      try clear c9
                      try clear c10
                      try clear c11
                      try clear c18
                      try clear c25
                      try clear c26
                      try clear c27
                      try clear c28
                      try clear c30
                      try clear c31
                      try clear c31b0
                      try clear c31b1
                      try clear c31b2
                      try clear c33
                      try clear c41
                      try clear c47
                      try clear c51
                      try clear c55
                      try clear p55
                      try clear q55
                      try clear hx55
                      try clear c56
                      try clear c60
                      try clear c61
                      try clear c64
                      try clear c64b0
                      try clear c64b1
                      try clear c65
                      try clear c65b0
                      try clear c66
                      try clear c66b0
                      try clear c67
                      try clear c67b0
                      try clear c67b1
                      try clear c68
                      try clear c68b0
                      try clear c69
                      try clear c69b0
                      try clear c70
                      try clear c71
                      try clear c73
                      try clear c74
                      try clear c76
                      try clear c78
                      try clear c80
                      try clear c82
                      try clear c83
                      try clear c84
                      try clear c88
                      try clear c89
                      try clear c90
                      try clear c93
                      try clear c96
                      try clear c97
                      try clear c101
                      try clear c102
                      try clear c103
                      try clear c106
                      try clear c109
                      try clear c110
                      try clear c114
                      try clear c115
                      try clear c116
                      try clear hcz104_0
                      try clear hcz104_1
                      try clear hcz107_0
                      try clear hcz107_1
                      try clear hcz111_0
                      try clear hcz111_1
                      try clear hcz117_0
                      try clear hcz117_1
                      try clear hcz13_0
                      try clear hcz13_1
                      try clear hcz19_0
                      try clear hcz19_1
                      try clear hcz21_0
                      try clear hcz21_1
                      try clear hcz23_0
                      try clear hcz23_1
                      try clear hcz34_0
                      try clear hcz34_1
                      try clear hcz35_0
                      try clear hcz35_1
                      try clear hcz38_0
                      try clear hcz38_1
                      try clear hcz42_0
                      try clear hcz42_1
                      try clear hcz43_0
                      try clear hcz43_1
                      try clear hcz46_0
                      try clear hcz46_1
                      try clear hcz48_0
                      try clear hcz48_1
                      try clear hcz49_0
                      try clear hcz49_1
                      try clear hcz57_0
                      try clear hcz57_1
                      try clear hcz62_0
                      try clear hcz62_1
                      try clear hcz72_0
                      try clear hcz72_1
                      try clear hcz75_0
                      try clear hcz75_1
                      try clear hcz85_0
                      try clear hcz85_1
                      try clear hcz91_0
                      try clear hcz91_1
                      try clear hcz94_0
                      try clear hcz94_1
                      try clear hcz98_0
                      try clear hcz98_1
                      try clear hfz104_0
                      try clear hfz104_1
                      try clear hfz107_0
                      try clear hfz107_1
                      try clear hfz111_0
                      try clear hfz111_1
                      try clear hfz117_0
                      try clear hfz117_1
                      try clear hfz13_0
                      try clear hfz13_1
                      try clear hfz19_0
                      try clear hfz19_1
                      try clear hfz21_0
                      try clear hfz21_1
                      try clear hfz23_0
                      try clear hfz23_1
                      try clear hfz34_0
                      try clear hfz34_1
                      try clear hfz35_0
                      try clear hfz35_1
                      try clear hfz38_0
                      try clear hfz38_1
                      try clear hfz42_0
                      try clear hfz42_1
                      try clear hfz43_0
                      try clear hfz43_1
                      try clear hfz46_0
                      try clear hfz46_1
                      try clear hfz48_0
                      try clear hfz48_1
                      try clear hfz49_0
                      try clear hfz49_1
                      try clear hfz57_0
                      try clear hfz57_1
                      try clear hfz62_0
                      try clear hfz62_1
                      try clear hfz72_0
                      try clear hfz72_1
                      try clear hfz75_0
                      try clear hfz75_1
                      try clear hfz85_0
                      try clear hfz85_1
                      try clear hfz91_0
                      try clear hfz91_1
                      try clear hfz94_0
                      try clear hfz94_1
                      try clear hfz98_0
                      try clear hfz98_1
                      try clear hx554_0
                      try clear hx555_0
                      try clear p2
                      try clear p5
                      try clear p55
                      try clear p554
                      try clear p555
                      try clear q5
                      try clear q55
                      try clear q554
                      try clear q555
                      obtain ⟨x20_4, rfl, HA, HK4, HO_12, HO_528001, HO_536001, HO_554001, BK527, BK535, BK553, HB⟩ := hrel
                      cases gk with
                      | zero => exact absurd HA.out (by simp [laws_FnStacked.l0])
                      | succ k4 =>
                        have H := HA.out
                        clear HA
                        simp only [laws_FnStacked.l0] at H
                        by_cases c119 : x20_4 < (t524.length : Int)
                        · rw [if_pos c119] at H
                          have c119b0 : decide (x20_4 < (t524.length : Int)) = true := decide_eq_true c119
                          clear c119
                          have H' := Aside0.mk H
                          clear H
                          have hnb120 := NB527_535.out
                          have hnc120 := NB535_527.out
                          have hnb121 := NB527_553.out
                          have hnc121 := NB553_527.out
                          have hcz122_0 : wr.cell? ⟨gb527, 0, none⟩ = some (.int .i64 t523) := (blk_cell BK527.out 0).trans rfl
                          have hcz122_1 : wr.cell? ⟨gb527, 1, none⟩ = some (.slice Ao14 t524.length co14) := (blk_cell BK527.out 1).trans rfl
                          have hfz122_0 := blk_frozen BK527.out 0
                          have hfz122_1 := blk_frozen BK527.out 1
                          go_wp2
                          repeat (go_quiet (fail); try go_wp2)
                          go_loopg [21] k4 (fun kq v21 w' => ∃ (x21_5 : Int), v21 = .int .i64 x21_5 ∧ Aside0 (laws_FnStacked.l1 kq t540 x20_4 x21_5 t523 t524 = some true) ∧ Aside0 (kq ≤ k4) ∧ Aside0 (Kd.R (Kd.int .i64) 2 w' w.heap.size (fun _ => True) v541 t540) ∧ Aside0 (Kd.S (Kd.slice 2 (Kd.int .i64)) 35 w' w.heap.size (fun k_ => some k_ ≠ (v541 : Value).ownBlock ∧ some k_ ≠ ((.slice Ao20 t531.length co20) : Value).ownBlock ∧ some k_ ≠ ((.slice Ao63 t549.length co63) : Value).ownBlock) (.slice Ao14 t524.length co14) t524) ∧ Aside0 (Kd.S (Kd.slice 2 (Kd.int .i64)) 35 w' w.heap.size (fun k_ => some k_ ≠ (v541 : Value).ownBlock ∧ some k_ ≠ ((.slice Ao14 t524.length co14) : Value).ownBlock ∧ some k_ ≠ ((.slice Ao63 t549.length co63) : Value).ownBlock) (.slice Ao20 t531.length co20) t531) ∧ Aside0 (Kd.S Ow.dW 35 w' w.heap.size (fun k_ => some k_ ≠ (v541 : Value).ownBlock ∧ some k_ ≠ ((.slice Ao14 t524.length co14) : Value).ownBlock ∧ some k_ ≠ ((.slice Ao20 t531.length co20) : Value).ownBlock) (.slice Ao63 t549.length co63) t549) ∧ Aside0 (w'.heap[gb527]? = some (.cells #[.int .i64 t523, (.slice Ao14 t524.length co14)] 24 (0, 0))) ∧ Aside0 (w'.heap[gb535]? = some (.cells #[.int .i64 t530, (.slice Ao20 t531.length co20)] 24 (0, 0))) ∧ Aside0 (w'.heap[gb553]? = some (.cells #[.int .i64 t548, (.slice Ao63 t549.length co63)] 24 (0, 0))) ∧ Aside0 (Below w.heap.size w w'))
                          case atStart => exact ⟨(0), (by first | rfl | (simp; done) | (simp [*]; done)), H', ⟨Nat.le_refl _⟩, ⟨by (with_reducible repeat (first | apply Kd.R_alloc | apply Kd.R_drewN | apply Kd.R_drew)); exact HO_12.out⟩, ⟨by (with_reducible repeat (first | apply Kd.S_alloc | apply Kd.S_drewN | apply Kd.S_drew)); exact HO_528001.out⟩, ⟨by (with_reducible repeat (first | apply Kd.S_alloc | apply Kd.S_drewN | apply Kd.S_drew)); exact HO_536001.out⟩, ⟨by (with_reducible repeat (first | apply Kd.S_alloc | apply Kd.S_drewN | apply Kd.S_drew)); exact HO_554001.out⟩, ⟨by (with_reducible repeat (first | refine blk_drewN ?_ _ | refine blk_drew ?_ | refine blk_alloc ?_ _)); exact BK527.out⟩, ⟨by (with_reducible repeat (first | refine blk_drewN ?_ _ | refine blk_drew ?_ | refine blk_alloc ?_ _)); exact BK535.out⟩, ⟨by (with_reducible repeat (first | refine blk_drewN ?_ _ | refine blk_drew ?_ | refine blk_alloc ?_ _)); exact BK553.out⟩, ⟨by repeat (first | (with_reducible first | exact HB.out | apply below_alloc | apply pw_below_drewN | apply below_drew1 | refine below_set ?_ GE527.out | refine below_set ?_ GE535.out | refine below_set ?_ GE553.out) | exact HB.out)⟩⟩
                          case round =>
                            clear H'
                            try clear c1
                            try clear c2
                            try clear p2
                            try clear c3
                            try clear c4
                            try clear c5
                            try clear p5
                            try clear q5
                            try clear hx5
                            try clear c6
                            try clear c7
                            try clear c8
                            try clear c9
                            try clear c10
                            try clear c11
                            try clear c12
                            try clear c18
                            try clear c25
                            try clear c26
                            try clear c27
                            try clear c28
                            try clear c30
                            try clear c31
                            try clear c31b0
                            try clear c31b1
                            try clear c31b2
                            try clear c33
                            try clear c41
                            try clear c47
                            try clear c51
                            try clear c55
                            try clear p55
                            try clear q55
                            try clear hx55
                            try clear c56
                            try clear c60
                            try clear c61
                            try clear c64
                            try clear c64b0
                            try clear c64b1
                            try clear c65
                            try clear c65b0
                            try clear c66
                            try clear c66b0
                            try clear c67
                            try clear c67b0
                            try clear c67b1
                            try clear c68
                            try clear c68b0
                            try clear c69
                            try clear c69b0
                            try clear c70
                            try clear c71
                            try clear c73
                            try clear c74
                            try clear c76
                            try clear c78
                            try clear c80
                            try clear c82
                            try clear c83
                            try clear c84
                            try clear c88
                            try clear c89
                            try clear c90
                            try clear c93
                            try clear c96
                            try clear c97
                            try clear c101
                            try clear c102
                            try clear c103
                            try clear c106
                            try clear c109
                            try clear c110
                            try clear c114
                            try clear c115
                            try clear c116
                            try clear c119
                            try clear c119b0
                            try clear c120
                            try clear c121
                            try clear hcz104_0
                            try clear hcz104_1
                            try clear hcz107_0
                            try clear hcz107_1
                            try clear hcz111_0
                            try clear hcz111_1
                            try clear hcz117_0
                            try clear hcz117_1
                            try clear hcz122_0
                            try clear hcz122_1
                            try clear hcz13_0
                            try clear hcz13_1
                            try clear hcz19_0
                            try clear hcz19_1
                            try clear hcz21_0
                            try clear hcz21_1
                            try clear hcz23_0
                            try clear hcz23_1
                            try clear hcz34_0
                            try clear hcz34_1
                            try clear hcz35_0
                            try clear hcz35_1
                            try clear hcz38_0
                            try clear hcz38_1
                            try clear hcz42_0
                            try clear hcz42_1
                            try clear hcz43_0
                            try clear hcz43_1
                            try clear hcz46_0
                            try clear hcz46_1
                            try clear hcz48_0
                            try clear hcz48_1
                            try clear hcz49_0
                            try clear hcz49_1
                            try clear hcz57_0
                            try clear hcz57_1
                            try clear hcz62_0
                            try clear hcz62_1
                            try clear hcz72_0
                            try clear hcz72_1
                            try clear hcz75_0
                            try clear hcz75_1
                            try clear hcz85_0
                            try clear hcz85_1
                            try clear hcz91_0
                            try clear hcz91_1
                            try clear hcz94_0
                            try clear hcz94_1
                            try clear hcz98_0
                            try clear hcz98_1
                            try clear hfz104_0
                            try clear hfz104_1
                            try clear hfz107_0
                            try clear hfz107_1
                            try clear hfz111_0
                            try clear hfz111_1
                            try clear hfz117_0
                            try clear hfz117_1
                            try clear hfz122_0
                            try clear hfz122_1
                            try clear hfz13_0
                            try clear hfz13_1
                            try clear hfz19_0
                            try clear hfz19_1
                            try clear hfz21_0
                            try clear hfz21_1
                            try clear hfz23_0
                            try clear hfz23_1
                            try clear hfz34_0
                            try clear hfz34_1
                            try clear hfz35_0
                            try clear hfz35_1
                            try clear hfz38_0
                            try clear hfz38_1
                            try clear hfz42_0
                            try clear hfz42_1
                            try clear hfz43_0
                            try clear hfz43_1
                            try clear hfz46_0
                            try clear hfz46_1
                            try clear hfz48_0
                            try clear hfz48_1
                            try clear hfz49_0
                            try clear hfz49_1
                            try clear hfz57_0
                            try clear hfz57_1
                            try clear hfz62_0
                            try clear hfz62_1
                            try clear hfz72_0
                            try clear hfz72_1
                            try clear hfz75_0
                            try clear hfz75_1
                            try clear hfz85_0
                            try clear hfz85_1
                            try clear hfz91_0
                            try clear hfz91_1
                            try clear hfz94_0
                            try clear hfz94_1
                            try clear hfz98_0
                            try clear hfz98_1
                            try clear hx554_0
                            try clear hx555_0
                            try clear p2
                            try clear p5
                            try clear p55
                            try clear p554
                            try clear p555
                            try clear q5
                            try clear q55
                            try clear q554
                            try clear q555
                            obtain ⟨x21_5, rfl, HA, HK5, HO_12, HO_528001, HO_536001, HO_554001, BK527, BK535, BK553, HB⟩ := hrel
                            cases gk with
                            | zero => exact absurd HA.out (by simp [laws_FnStacked.l1])
                            | succ k5 =>
                              have H := HA.out
                              clear HA
                              simp only [laws_FnStacked.l1] at H
                              by_cases c123 : 0 ≤ x20_4
                              · rw [if_pos c123] at H
                                have c123b0 : decide (0 ≤ x20_4) = true := decide_eq_true c123
                                clear c123
                                by_cases c124 : x20_4 < (t524.length : Int)
                                · rw [if_pos c124] at H
                                  have c124b0 : decide (x20_4 < (t524.length : Int)) = true := decide_eq_true c124
                                  clear c124
                                  by_cases c125 : x21_5 < ((rd_L2 t524 x20_4).length : Int)
                                  · rw [if_pos c125] at H
                                    have c125b0 : decide (x21_5 < ((rd_L2 t524 x20_4).length : Int)) = true := decide_eq_true c125
                                    clear c125
                                    have H' := Aside0.mk H
                                    clear H
                                    have hnb126 := NB527_535.out
                                    have hnc126 := NB535_527.out
                                    have hnb127 := NB527_553.out
                                    have hnc127 := NB553_527.out
                                    have hcz128_0 : wr.cell? ⟨gb527, 0, none⟩ = some (.int .i64 t523) := (blk_cell BK527.out 0).trans rfl
                                    have hcz128_1 : wr.cell? ⟨gb527, 1, none⟩ = some (.slice Ao14 t524.length co14) := (blk_cell BK527.out 1).trans rfl
                                    have hfz128_0 := blk_frozen BK527.out 0
                                    have hfz128_1 := blk_frozen BK527.out 1
                                    have p563 : 0 ≤ (x20_4 : Int) := of_decide_eq_true (by first | (with_reducible assumption) | assumption)
                                    have q563 : x20_4 < (t524.length : Int) := of_decide_eq_true (by first | (with_reducible assumption) | assumption)
                                    obtain ⟨ad563, A563_0, c563_0, e563, hx563_0, hl563_0, hi563_0⟩ := at_L2 (Kd.S_reads' HO_528001.out).2.2 x20_4 p563 q563
                                    cases e563
                                    obtain ⟨ce563, hce563, hMe563, hcc563⟩ := Kd.S_get HO_528001.out [] x20_4 p563 (by first | exact q563 | exact of_decide_eq_true (by first | (with_reducible assumption) | assumption) | (have e_ := (Kd.S_reads' HO_528001.out).1; omega))
                                    obtain ⟨ve563_0, rfl, ge563_0⟩ := hMe563
                                    have hv563_0 := hcc563 0 _ rfl
                                    rw [Nat.add_zero, show ((Kd.slice 2 (Kd.int .i64))).sz = 1 from rfl, Nat.mul_one] at hv563_0
                                    replace hv563_0 := Option.some.inj (hv563_0.symm.trans hx563_0)
                                    rw [hv563_0] at ge563_0
                                    have HL563_0 := Aside0.mk (show Kd.R (Kd.int .i64) 2 _ _ _ _ (rd_L2 t524 x20_4) from ge563_0)
                                    clear hv563_0 ge563_0
                                    clear hcc563 hce563
                                    have HR563_0 := Aside0.mk hi563_0
                                    have HC563_0 := Aside0.mk hl563_0
                                    clear hi563_0 hl563_0
                                    replace p563 := eq_true p563
                                    replace q563 := eq_true q563
                                    go_wp2
                                    repeat (go_quiet (fail); try go_wp2)
                                    go_loopg [22, 23] k5 (fun kq v22 v23 w' => ∃ (x22_6 : Bool) (x23_6 : Int), v22 = .bool x22_6 ∧ v23 = .int .i64 x23_6 ∧ Aside0 (laws_FnStacked.l2 kq t540 x20_4 x21_5 x22_6 x23_6 t523 t524 = some true) ∧ Aside0 (kq ≤ k5) ∧ Aside0 (Kd.R (Kd.int .i64) 2 w' w.heap.size (fun _ => True) v541 t540) ∧ Aside0 (Kd.S (Kd.slice 2 (Kd.int .i64)) 35 w' w.heap.size (fun k_ => some k_ ≠ (v541 : Value).ownBlock ∧ some k_ ≠ ((.slice Ao20 t531.length co20) : Value).ownBlock ∧ some k_ ≠ ((.slice Ao63 t549.length co63) : Value).ownBlock) (.slice (some ad563) t524.length co14) t524) ∧ Aside0 (Kd.S (Kd.slice 2 (Kd.int .i64)) 35 w' w.heap.size (fun k_ => some k_ ≠ (v541 : Value).ownBlock ∧ some k_ ≠ ((.slice (some ad563) t524.length co14) : Value).ownBlock ∧ some k_ ≠ ((.slice Ao63 t549.length co63) : Value).ownBlock) (.slice Ao20 t531.length co20) t531) ∧ Aside0 (Kd.S Ow.dW 35 w' w.heap.size (fun k_ => some k_ ≠ (v541 : Value).ownBlock ∧ some k_ ≠ ((.slice (some ad563) t524.length co14) : Value).ownBlock ∧ some k_ ≠ ((.slice Ao20 t531.length co20) : Value).ownBlock) (.slice Ao63 t549.length co63) t549) ∧ Aside0 (w'.heap[gb527]? = some (.cells #[.int .i64 t523, (.slice (some ad563) t524.length co14)] 24 (0, 0))) ∧ Aside0 (w'.heap[gb535]? = some (.cells #[.int .i64 t530, (.slice Ao20 t531.length co20)] 24 (0, 0))) ∧ Aside0 (w'.heap[gb553]? = some (.cells #[.int .i64 t548, (.slice Ao63 t549.length co63)] 24 (0, 0))) ∧ Aside0 (Kd.C (Kd.int .i64) w' A563_0 (rd_L2 t524 x20_4).length (rd_L2 t524 x20_4)) ∧ Aside0 (Below w.heap.size w w'))
                                    case atStart => exact ⟨(false), (0), (by first | rfl | (simp; done) | (simp [*]; done)), (by first | rfl | (simp; done) | (simp [*]; done)), H', ⟨Nat.le_refl _⟩, ⟨by (with_reducible repeat (first | apply Kd.R_alloc | apply Kd.R_drewN | apply Kd.R_drew)); exact HO_12.out⟩, ⟨by (with_reducible repeat (first | apply Kd.S_alloc | apply Kd.S_drewN | apply Kd.S_drew)); exact HO_528001.out⟩, ⟨by (with_reducible repeat (first | apply Kd.S_alloc | apply Kd.S_drewN | apply Kd.S_drew)); exact HO_536001.out⟩, ⟨by (with_reducible repeat (first | apply Kd.S_alloc | apply Kd.S_drewN | apply Kd.S_drew)); exact HO_554001.out⟩, ⟨by (with_reducible repeat (first | refine blk_drewN ?_ _ | refine blk_drew ?_ | refine blk_alloc ?_ _)); exact BK527.out⟩, ⟨by (with_reducible repeat (first | refine blk_drewN ?_ _ | refine blk_drew ?_ | refine blk_alloc ?_ _)); exact BK535.out⟩, ⟨by (with_reducible repeat (first | refine blk_drewN ?_ _ | refine blk_drew ?_ | refine blk_alloc ?_ _)); exact BK553.out⟩, ⟨by repeat (first | (with_reducible exact HR563_0.out) | (with_reducible refine Kd.C_alloc ?_ _) | (with_reducible refine Kd.C_drewN ?_ _) | (with_reducible refine Kd.C_drew ?_) | exact HR563_0.out)⟩, ⟨by repeat (first | (with_reducible first | exact HB.out | apply below_alloc | apply pw_below_drewN | apply below_drew1 | refine below_set ?_ GE527.out | refine below_set ?_ GE535.out | refine below_set ?_ GE553.out) | exact HB.out)⟩⟩
                                    case round =>
                                      clear H'
                                      try clear c1
                                      try clear c2
                                      try clear p2
                                      try clear c3
                                      try clear c4
                                      try clear c5
                                      try clear p5
                                      try clear q5
                                      try clear hx5
                                      try clear c6
                                      try clear c7
                                      try clear c8
                                      try clear c9
                                      try clear c10
                                      try clear c11
                                      try clear c12
                                      try clear c18
                                      try clear c25
                                      try clear c26
                                      try clear c27
                                      try clear c28
                                      try clear c30
                                      try clear c31
                                      try clear c31b0
                                      try clear c31b1
                                      try clear c31b2
                                      try clear c33
                                      try clear c41
                                      try clear c47
                                      try clear c51
                                      try clear c55
                                      try clear p55
                                      try clear q55
                                      try clear hx55
                                      try clear c56
                                      try clear p56
                                      try clear q56
                                      try clear hx56
                                      try clear c60
                                      try clear c61
                                      try clear c64
                                      try clear c64b0
                                      try clear c64b1
                                      try clear c65
                                      try clear c65b0
                                      try clear c66
                                      try clear c66b0
                                      try clear c67
                                      try clear c67b0
                                      try clear c67b1
                                      try clear c68
                                      try clear c68b0
                                      try clear c69
                                      try clear c69b0
                                      try clear c70
                                      try clear c71
                                      try clear c73
                                      try clear c74
                                      try clear c76
                                      try clear c78
                                      try clear c80
                                      try clear c82
                                      try clear c83
                                      try clear c84
                                      try clear c88
                                      try clear c89
                                      try clear c90
                                      try clear c93
                                      try clear c96
                                      try clear c97
                                      try clear c101
                                      try clear c102
                                      try clear c103
                                      try clear c106
                                      try clear c109
                                      try clear c110
                                      try clear c114
                                      try clear c115
                                      try clear c116
                                      try clear c119
                                      try clear c119b0
                                      try clear c120
                                      try clear c121
                                      try clear c123
                                      try clear c123b0
                                      try clear c124
                                      try clear c124b0
                                      try clear c125
                                      try clear c125b0
                                      try clear c126
                                      try clear c127
                                      try clear hcz104_0
                                      try clear hcz104_1
                                      try clear hcz107_0
                                      try clear hcz107_1
                                      try clear hcz111_0
                                      try clear hcz111_1
                                      try clear hcz117_0
                                      try clear hcz117_1
                                      try clear hcz122_0
                                      try clear hcz122_1
                                      try clear hcz128_0
                                      try clear hcz128_1
                                      try clear hcz13_0
                                      try clear hcz13_1
                                      try clear hcz19_0
                                      try clear hcz19_1
                                      try clear hcz21_0
                                      try clear hcz21_1
                                      try clear hcz23_0
                                      try clear hcz23_1
                                      try clear hcz34_0
                                      try clear hcz34_1
                                      try clear hcz35_0
                                      try clear hcz35_1
                                      try clear hcz38_0
                                      try clear hcz38_1
                                      try clear hcz42_0
                                      try clear hcz42_1
                                      try clear hcz43_0
                                      try clear hcz43_1
                                      try clear hcz46_0
                                      try clear hcz46_1
                                      try clear hcz48_0
                                      try clear hcz48_1
                                      try clear hcz49_0
                                      try clear hcz49_1
                                      try clear hcz57_0
                                      try clear hcz57_1
                                      try clear hcz62_0
                                      try clear hcz62_1
                                      try clear hcz72_0
                                      try clear hcz72_1
                                      try clear hcz75_0
                                      try clear hcz75_1
                                      try clear hcz85_0
                                      try clear hcz85_1
                                      try clear hcz91_0
                                      try clear hcz91_1
                                      try clear hcz94_0
                                      try clear hcz94_1
                                      try clear hcz98_0
                                      try clear hcz98_1
                                      try clear hfz104_0
                                      try clear hfz104_1
                                      try clear hfz107_0
                                      try clear hfz107_1
                                      try clear hfz111_0
                                      try clear hfz111_1
                                      try clear hfz117_0
                                      try clear hfz117_1
                                      try clear hfz122_0
                                      try clear hfz122_1
                                      try clear hfz128_0
                                      try clear hfz128_1
                                      try clear hfz13_0
                                      try clear hfz13_1
                                      try clear hfz19_0
                                      try clear hfz19_1
                                      try clear hfz21_0
                                      try clear hfz21_1
                                      try clear hfz23_0
                                      try clear hfz23_1
                                      try clear hfz34_0
                                      try clear hfz34_1
                                      try clear hfz35_0
                                      try clear hfz35_1
                                      try clear hfz38_0
                                      try clear hfz38_1
                                      try clear hfz42_0
                                      try clear hfz42_1
                                      try clear hfz43_0
                                      try clear hfz43_1
                                      try clear hfz46_0
                                      try clear hfz46_1
                                      try clear hfz48_0
                                      try clear hfz48_1
                                      try clear hfz49_0
                                      try clear hfz49_1
                                      try clear hfz57_0
                                      try clear hfz57_1
                                      try clear hfz62_0
                                      try clear hfz62_1
                                      try clear hfz72_0
                                      try clear hfz72_1
                                      try clear hfz75_0
                                      try clear hfz75_1
                                      try clear hfz85_0
                                      try clear hfz85_1
                                      try clear hfz91_0
                                      try clear hfz91_1
                                      try clear hfz94_0
                                      try clear hfz94_1
                                      try clear hfz98_0
                                      try clear hfz98_1
                                      try clear hx554_0
                                      try clear hx555_0
                                      try clear hx563_0
                                      try clear p2
                                      try clear p5
                                      try clear p55
                                      try clear p554
                                      try clear p555
                                      try clear p563
                                      try clear q5
                                      try clear q55
                                      try clear q554
                                      try clear q555
                                      try clear q563
                                      obtain ⟨x22_6, x23_6, rfl, rfl, HA, HK6, HO_12, HO_528001, HO_536001, HO_554001, BK527, BK535, BK553, HR563_0, HB⟩ := hrel
                                      cases gk with
                                      | zero => exact absurd HA.out (by simp [laws_FnStacked.l2])
                                      | succ k6 =>
                                        have H := HA.out
                                        clear HA
                                        simp only [laws_FnStacked.l2] at H
                                        by_cases c129 : x23_6 < x21_5
                                        · rw [if_pos c129] at H
                                          have c129b0 : decide (x23_6 < x21_5) = true := decide_eq_true c129
                                          clear c129
                                          by_cases c130 : x22_6 = true
                                          · subst c130
                                            have H1 : (laws_FnStacked.l2 k6 t540 x20_4 x21_5 true (wrap64 (x23_6 + 1)) t523 t524) = some true := by rw [if_pos rfl] at H; exact H
                                            clear H
                                            have H := H1
                                            clear H1
                                            have H' := Aside0.mk H
                                            clear H
                                            go_wp2
                                            repeat (go_quiet (fail); try go_wp2)
                                            go_roundg k6
                                            case measure => have := HJ9.out; have := HJ54.out; have := HJ76.out; have := HK4.out; have := HK5.out; have := HK6.out; omega
                                            case rel => exact ⟨(true), (wrap64 (x23_6 + 1)), (by first | rfl | (simp; done) | (simp [*]; done)), (by first | rfl | (simp; done) | (simp [*]; done)), H', ⟨by have := HJ9.out; have := HJ54.out; have := HJ76.out; have := HK4.out; have := HK5.out; have := HK6.out; omega⟩, ⟨by (with_reducible repeat (first | apply Kd.R_alloc | apply Kd.R_drewN | apply Kd.R_drew)); exact HO_12.out⟩, ⟨by (with_reducible repeat (first | apply Kd.S_alloc | apply Kd.S_drewN | apply Kd.S_drew)); exact HO_528001.out⟩, ⟨by (with_reducible repeat (first | apply Kd.S_alloc | apply Kd.S_drewN | apply Kd.S_drew)); exact HO_536001.out⟩, ⟨by (with_reducible repeat (first | apply Kd.S_alloc | apply Kd.S_drewN | apply Kd.S_drew)); exact HO_554001.out⟩, ⟨by (with_reducible repeat (first | refine blk_drewN ?_ _ | refine blk_drew ?_ | refine blk_alloc ?_ _)); exact BK527.out⟩, ⟨by (with_reducible repeat (first | refine blk_drewN ?_ _ | refine blk_drew ?_ | refine blk_alloc ?_ _)); exact BK535.out⟩, ⟨by (with_reducible repeat (first | refine blk_drewN ?_ _ | refine blk_drew ?_ | refine blk_alloc ?_ _)); exact BK553.out⟩, ⟨by repeat (first | (with_reducible exact HR563_0.out) | (with_reducible refine Kd.C_alloc ?_ _) | (with_reducible refine Kd.C_drewN ?_ _) | (with_reducible refine Kd.C_drew ?_) | exact HR563_0.out)⟩, ⟨by repeat (first | (with_reducible first | exact HB.out | apply below_alloc | apply pw_below_drewN | apply below_drew1 | refine below_set ?_ GE527.out | refine below_set ?_ GE535.out | refine below_set ?_ GE553.out) | exact HB.out)⟩⟩
                                          · replace c130 := Bool.eq_false_iff.mpr c130
                                            subst c130
                                            have H1 : (if 0 ≤ x20_4 then (if x20_4 < (t524.length : Int) then (if 0 ≤ x23_6 then (if x23_6 < ((rd_L2 t524 x20_4).length : Int) then (if 0 ≤ x21_5 then (if x21_5 < ((rd_L2 t524 x20_4).length : Int) then (laws_FnStacked.l2 k6 t540 x20_4 x21_5 (decide ((rd (rd_L2 t524 x20_4) x23_6) < (rd (rd_L2 t524 x20_4) x21_5))) (wrap64 (x23_6 + 1)) t523 t524) else (none)) else (none)) else (none)) else (none)) else (none)) else (none)) = some true := by rw [if_neg (show ¬ (false = true) by decide)] at H; exact H
                                            clear H
                                            have H := H1
                                            clear H1
                                            by_cases c131 : 0 ≤ x20_4
                                            · rw [if_pos c131] at H
                                              have c131b0 : decide (0 ≤ x20_4) = true := decide_eq_true c131
                                              clear c131
                                              by_cases c132 : x20_4 < (t524.length : Int)
                                              · rw [if_pos c132] at H
                                                have c132b0 : decide (x20_4 < (t524.length : Int)) = true := decide_eq_true c132
                                                clear c132
                                                by_cases c133 : 0 ≤ x23_6
                                                · rw [if_pos c133] at H
                                                  have c133b0 : decide (0 ≤ x23_6) = true := decide_eq_true c133
                                                  clear c133
                                                  by_cases c134 : x23_6 < ((rd_L2 t524 x20_4).length : Int)
                                                  · rw [if_pos c134] at H
                                                    have c134b0 : decide (x23_6 < ((rd_L2 t524 x20_4).length : Int)) = true := decide_eq_true c134
                                                    clear c134
                                                    by_cases c135 : 0 ≤ x21_5
                                                    · rw [if_pos c135] at H
                                                      have c135b0 : decide (0 ≤ x21_5) = true := decide_eq_true c135
                                                      clear c135
                                                      by_cases c136 : x21_5 < ((rd_L2 t524 x20_4).length : Int)
                                                      · rw [if_pos c136] at H
                                                        have c136b0 : decide (x21_5 < ((rd_L2 t524 x20_4).length : Int)) = true := decide_eq_true c136
                                                        clear c136
                                                        have H' := Aside0.mk H
                                                        clear H
                                                        have hnb137 := NB527_535.out
                                                        have hnc137 := NB535_527.out
                                                        have hnb138 := NB527_553.out
                                                        have hnc138 := NB553_527.out
                                                        have hcz139_0 : wr.cell? ⟨gb527, 0, none⟩ = some (.int .i64 t523) := (blk_cell BK527.out 0).trans rfl
                                                        have hcz139_1 : wr.cell? ⟨gb527, 1, none⟩ = some (.slice (some ad563) t524.length co14) := (blk_cell BK527.out 1).trans rfl
                                                        have hfz139_0 := blk_frozen BK527.out 0
                                                        have hfz139_1 := blk_frozen BK527.out 1
                                                        have p564 : 0 ≤ (x20_4 : Int) := of_decide_eq_true (by first | (with_reducible assumption) | assumption)
                                                        have q564 : x20_4 < (t524.length : Int) := of_decide_eq_true (by first | (with_reducible assumption) | assumption)
                                                        obtain ⟨ad564, A564_0, c564_0, e564, hx564_0, hl564_0, hi564_0⟩ := at_L2 (Kd.S_reads' HO_528001.out).2.2 x20_4 p564 q564
                                                        obtain rfl : ad563 = ad564 := (by injection e564)
                                                        obtain ⟨ce564, hce564, hMe564, hcc564⟩ := Kd.S_get HO_528001.out [] x20_4 p564 (by first | exact q564 | exact of_decide_eq_true (by first | (with_reducible assumption) | assumption) | (have e_ := (Kd.S_reads' HO_528001.out).1; omega))
                                                        obtain ⟨ve564_0, rfl, ge564_0⟩ := hMe564
                                                        have hv564_0 := hcc564 0 _ rfl
                                                        rw [Nat.add_zero, show ((Kd.slice 2 (Kd.int .i64))).sz = 1 from rfl, Nat.mul_one] at hv564_0
                                                        replace hv564_0 := Option.some.inj (hv564_0.symm.trans hx564_0)
                                                        rw [hv564_0] at ge564_0
                                                        have HL564_0 := Aside0.mk (show Kd.R (Kd.int .i64) 2 _ _ _ _ (rd_L2 t524 x20_4) from ge564_0)
                                                        clear hv564_0 ge564_0
                                                        clear hcc564 hce564
                                                        have HR564_0 := Aside0.mk hi564_0
                                                        have HC564_0 := Aside0.mk hl564_0
                                                        clear hi564_0 hl564_0
                                                        replace p564 := eq_true p564
                                                        replace q564 := eq_true q564
                                                        have p565 : 0 ≤ (x23_6 : Int) := of_decide_eq_true (by first | (with_reducible assumption) | assumption)
                                                        have q565 : x23_6 < ((rd_L2 t524 x20_4).length : Int) := of_decide_eq_true (by first | (with_reducible assumption) | assumption)
                                                        obtain ⟨ad565, e565, hx565_0⟩ := Kd.at_int (by repeat (first | (with_reducible exact HR564_0.out) | (with_reducible refine Kd.C_alloc ?_ _) | (with_reducible refine Kd.C_drewN ?_ _) | (with_reducible refine Kd.C_drew ?_) | exact HR564_0.out)) x23_6 p565 q565
                                                        cases e565
                                                        replace p565 := eq_true p565
                                                        replace q565 := eq_true q565
                                                        have p566 : 0 ≤ (x20_4 : Int) := of_decide_eq_true (by first | (with_reducible assumption) | assumption)
                                                        have q566 : x20_4 < (t524.length : Int) := of_decide_eq_true (by first | (with_reducible assumption) | assumption)
                                                        obtain ⟨ad566, A566_0, c566_0, e566, hx566_0, hl566_0, hi566_0⟩ := at_L2 (Kd.S_reads' HO_528001.out).2.2 x20_4 p566 q566
                                                        obtain rfl : ad563 = ad566 := (by injection e566)
                                                        obtain ⟨ce566, hce566, hMe566, hcc566⟩ := Kd.S_get HO_528001.out [] x20_4 p566 (by first | exact q566 | exact of_decide_eq_true (by first | (with_reducible assumption) | assumption) | (have e_ := (Kd.S_reads' HO_528001.out).1; omega))
                                                        obtain ⟨ve566_0, rfl, ge566_0⟩ := hMe566
                                                        have hv566_0 := hcc566 0 _ rfl
                                                        rw [Nat.add_zero, show ((Kd.slice 2 (Kd.int .i64))).sz = 1 from rfl, Nat.mul_one] at hv566_0
                                                        replace hv566_0 := Option.some.inj (hv566_0.symm.trans hx566_0)
                                                        rw [hv566_0] at ge566_0
                                                        have HL566_0 := Aside0.mk (show Kd.R (Kd.int .i64) 2 _ _ _ _ (rd_L2 t524 x20_4) from ge566_0)
                                                        clear hv566_0 ge566_0
                                                        clear hcc566 hce566
                                                        have HR566_0 := Aside0.mk hi566_0
                                                        have HC566_0 := Aside0.mk hl566_0
                                                        clear hi566_0 hl566_0
                                                        replace p566 := eq_true p566
                                                        replace q566 := eq_true q566
                                                        have ea_ := Option.some.inj (hx564_0.symm.trans hx566_0)
                                                        injection ea_ with ea_ en_ ec_
                                                        subst ea_
                                                        subst ec_
                                                        clear en_
                                                        have p567 : 0 ≤ (x21_5 : Int) := of_decide_eq_true (by first | (with_reducible assumption) | assumption)
                                                        have q567 : x21_5 < ((rd_L2 t524 x20_4).length : Int) := of_decide_eq_true (by first | (with_reducible assumption) | assumption)
                                                        obtain ⟨ad567, e567, hx567_0⟩ := Kd.at_int (by repeat (first | (with_reducible exact HR566_0.out) | (with_reducible refine Kd.C_alloc ?_ _) | (with_reducible refine Kd.C_drewN ?_ _) | (with_reducible refine Kd.C_drew ?_) | exact HR566_0.out)) x21_5 p567 q567
                                                        cases e567
                                                        replace p567 := eq_true p567
                                                        replace q567 := eq_true q567
                                                        go_wp2
                                                        repeat (go_quiet (fail); try go_wp2)
                                                        go_roundg k6
                                                        case measure => have := HJ9.out; have := HJ54.out; have := HJ76.out; have := HK4.out; have := HK5.out; have := HK6.out; omega
                                                        case rel => exact ⟨(decide ((rd (rd_L2 t524 x20_4) x23_6) < (rd (rd_L2 t524 x20_4) x21_5))), (wrap64 (x23_6 + 1)), (by first | rfl | (simp; done) | (simp [*]; done)), (by first | rfl | (simp; done) | (simp [*]; done)), H', ⟨by have := HJ9.out; have := HJ54.out; have := HJ76.out; have := HK4.out; have := HK5.out; have := HK6.out; omega⟩, ⟨by (with_reducible repeat (first | apply Kd.R_alloc | apply Kd.R_drewN | apply Kd.R_drew)); exact HO_12.out⟩, ⟨by (with_reducible repeat (first | apply Kd.S_alloc | apply Kd.S_drewN | apply Kd.S_drew)); exact HO_528001.out⟩, ⟨by (with_reducible repeat (first | apply Kd.S_alloc | apply Kd.S_drewN | apply Kd.S_drew)); exact HO_536001.out⟩, ⟨by (with_reducible repeat (first | apply Kd.S_alloc | apply Kd.S_drewN | apply Kd.S_drew)); exact HO_554001.out⟩, ⟨by (with_reducible repeat (first | refine blk_drewN ?_ _ | refine blk_drew ?_ | refine blk_alloc ?_ _)); exact BK527.out⟩, ⟨by (with_reducible repeat (first | refine blk_drewN ?_ _ | refine blk_drew ?_ | refine blk_alloc ?_ _)); exact BK535.out⟩, ⟨by (with_reducible repeat (first | refine blk_drewN ?_ _ | refine blk_drew ?_ | refine blk_alloc ?_ _)); exact BK553.out⟩, ⟨by repeat (first | (with_reducible exact HR563_0.out) | (with_reducible refine Kd.C_alloc ?_ _) | (with_reducible refine Kd.C_drewN ?_ _) | (with_reducible refine Kd.C_drew ?_) | exact HR563_0.out)⟩, ⟨by repeat (first | (with_reducible first | exact HB.out | apply below_alloc | apply pw_below_drewN | apply below_drew1 | refine below_set ?_ GE527.out | refine below_set ?_ GE535.out | refine below_set ?_ GE553.out) | exact HB.out)⟩⟩
                                                      · rw [if_neg c136] at H
                                                        exact absurd H (by simp)
                                                    · rw [if_neg c135] at H
                                                      exact absurd H (by simp)
                                                  · rw [if_neg c134] at H
                                                    exact absurd H (by simp)
                                                · rw [if_neg c133] at H
                                                  exact absurd H (by simp)
                                              · rw [if_neg c132] at H
                                                exact absurd H (by simp)
                                            · rw [if_neg c131] at H
                                              exact absurd H (by simp)
                                        · rw [if_neg c129] at H
                                          have c129b0 : decide (x23_6 < x21_5) = false := decide_eq_false c129
                                          clear c129
                                          by_cases c140 : 0 ≤ x20_4
                                          · rw [if_pos c140] at H
                                            have c140b0 : decide (0 ≤ x20_4) = true := decide_eq_true c140
                                            clear c140
                                            by_cases c141 : x20_4 < (t524.length : Int)
                                            · rw [if_pos c141] at H
                                              have c141b0 : decide (x20_4 < (t524.length : Int)) = true := decide_eq_true c141
                                              clear c141
                                              by_cases c142 : 0 ≤ x21_5
                                              · rw [if_pos c142] at H
                                                have c142b0 : decide (0 ≤ x21_5) = true := decide_eq_true c142
                                                clear c142
                                                by_cases c143 : x21_5 < ((rd_L2 t524 x20_4).length : Int)
                                                · rw [if_pos c143] at H
                                                  have c143b0 : decide (x21_5 < ((rd_L2 t524 x20_4).length : Int)) = true := decide_eq_true c143
                                                  clear c143
                                                  replace H := Option.bind_eq_some_iff.mp H
                                                  obtain ⟨t570, A1440, H⟩ := H
                                                  replace H : (if (x22_6 != t570) = true then (some false) else (laws_FnStacked.l1 k6 t540 x20_4 (wrap64 (x21_5 + 1)) t523 t524)) = some true := H
                                                  have A144 := Aside0.mk A1440
                                                  clear A1440
                                                  by_cases c145 : (x22_6 != t570) = true
                                                  · rw [if_pos c145] at H
                                                    have c145b0 : (x22_6 != t570) = true := c145
                                                    (try (have c145b1 : decide (x22_6 = t570) = false := by simpa using c145))
                                                    (try (have c145b2 : (x22_6 == t570) = false := by simpa using c145))
                                                    (try (have c145b3 : ¬ (x22_6 = t570) := by simpa using c145))
                                                    clear c145
                                                    first | exact absurd (Option.some.inj H) (by decide) | clear H
                                                    all_goals
                                                      have hnb146 := NB527_535.out
                                                      have hnc146 := NB535_527.out
                                                      have hnb147 := NB527_553.out
                                                      have hnc147 := NB553_527.out
                                                      have hcz148_0 : wr.cell? ⟨gb527, 0, none⟩ = some (.int .i64 t523) := (blk_cell BK527.out 0).trans rfl
                                                      have hcz148_1 : wr.cell? ⟨gb527, 1, none⟩ = some (.slice (some ad563) t524.length co14) := (blk_cell BK527.out 1).trans rfl
                                                      have hfz148_0 := blk_frozen BK527.out 0
                                                      have hfz148_1 := blk_frozen BK527.out 1
                                                      have p568 : 0 ≤ (x20_4 : Int) := of_decide_eq_true (by first | (with_reducible assumption) | assumption)
                                                      have q568 : x20_4 < (t524.length : Int) := of_decide_eq_true (by first | (with_reducible assumption) | assumption)
                                                      obtain ⟨ad568, A568_0, c568_0, e568, hx568_0, hl568_0, hi568_0⟩ := at_L2 (Kd.S_reads' HO_528001.out).2.2 x20_4 p568 q568
                                                      obtain rfl : ad563 = ad568 := (by injection e568)
                                                      obtain ⟨ce568, hce568, hMe568, hcc568⟩ := Kd.S_get HO_528001.out [] x20_4 p568 (by first | exact q568 | exact of_decide_eq_true (by first | (with_reducible assumption) | assumption) | (have e_ := (Kd.S_reads' HO_528001.out).1; omega))
                                                      obtain ⟨ve568_0, rfl, ge568_0⟩ := hMe568
                                                      have hv568_0 := hcc568 0 _ rfl
                                                      rw [Nat.add_zero, show ((Kd.slice 2 (Kd.int .i64))).sz = 1 from rfl, Nat.mul_one] at hv568_0
                                                      replace hv568_0 := Option.some.inj (hv568_0.symm.trans hx568_0)
                                                      rw [hv568_0] at ge568_0
                                                      have HL568_0 := Aside0.mk (show Kd.R (Kd.int .i64) 2 _ _ _ _ (rd_L2 t524 x20_4) from ge568_0)
                                                      clear hv568_0 ge568_0
                                                      clear hcc568 hce568
                                                      have HR568_0 := Aside0.mk hi568_0
                                                      have HC568_0 := Aside0.mk hl568_0
                                                      clear hi568_0 hl568_0
                                                      replace p568 := eq_true p568
                                                      replace q568 := eq_true q568
                                                      have p569 : 0 ≤ (x21_5 : Int) := of_decide_eq_true (by first | (with_reducible assumption) | assumption)
                                                      have q569 : x21_5 < ((rd_L2 t524 x20_4).length : Int) := of_decide_eq_true (by first | (with_reducible assumption) | assumption)
                                                      obtain ⟨ad569, e569, hx569_0⟩ := Kd.at_int (by repeat (first | (with_reducible exact HR568_0.out) | (with_reducible refine Kd.C_alloc ?_ _) | (with_reducible refine Kd.C_drewN ?_ _) | (with_reducible refine Kd.C_drew ?_) | exact HR568_0.out)) x21_5 p569 q569
                                                      cases e569
                                                      replace p569 := eq_true p569
                                                      replace q569 := eq_true q569
                                                      obtain ⟨Ao149, co149, eo149⟩ := Kd.R_slice HO_12.out
                                                      subst eo149
                                                      go_wp2_with (first | (go_at_call 19; (with_reducible refine (laws_b10Has.calls k6 _ _ t540 (rd (rd_L2 t524 x20_4) x21_5) t570 _ ?side1 ?side2 A144.out).mono ?_); (case side1 => repeat (first | exact (Kd.R_reads' HO_12.out).2.2 | (with_reducible refine Kd.C_alloc ?_ _) | (with_reducible refine Kd.C_drewN ?_ _) | (with_reducible refine Kd.C_drew ?_))); (case side2 => exact (Kd.R_reads' HO_12.out).2.1); rintro e w' ⟨rfl, ⟨nd, rfl⟩⟩; (try first | exact ⟨rfl, _, World.drewN_drewN _ _ _⟩ | exact ⟨rfl, _, Eq.trans (World.drewN_drewN _ _ _) (congrArg (World.drewN _) (Nat.add_assoc _ _ _))⟩)))
                                                      repeat (go_quiet (fail); try go_wp2)
                                                      go_ret
                                                      exact ⟨by first | rfl | (simp [errW_none, errW_some] <;> rfl) | (simp [*, errW_none, errW_some] <;> rfl), by repeat (first | (with_reducible first | exact HB.out | apply below_alloc | apply pw_below_drewN | apply below_drew1 | refine below_set ?_ GE527.out | refine below_set ?_ GE535.out | refine below_set ?_ GE553.out) | exact HB.out)⟩
                                                  · rw [if_neg c145] at H
                                                    have c145b0 : (x22_6 != t570) = false := by simpa using c145
                                                    (try (have c145b1 : decide (x22_6 = t570) = true := by simpa using c145))
                                                    (try (have c145b2 : (x22_6 == t570) = true := by simpa using c145))
                                                    clear c145
                                                    have H' := Aside0.mk H
                                                    clear H
                                                    have hnb150 := NB527_535.out
                                                    have hnc150 := NB535_527.out
                                                    have hnb151 := NB527_553.out
                                                    have hnc151 := NB553_527.out
                                                    have hcz152_0 : wr.cell? ⟨gb527, 0, none⟩ = some (.int .i64 t523) := (blk_cell BK527.out 0).trans rfl
                                                    have hcz152_1 : wr.cell? ⟨gb527, 1, none⟩ = some (.slice (some ad563) t524.length co14) := (blk_cell BK527.out 1).trans rfl
                                                    have hfz152_0 := blk_frozen BK527.out 0
                                                    have hfz152_1 := blk_frozen BK527.out 1
                                                    have p568 : 0 ≤ (x20_4 : Int) := of_decide_eq_true (by first | (with_reducible assumption) | assumption)
                                                    have q568 : x20_4 < (t524.length : Int) := of_decide_eq_true (by first | (with_reducible assumption) | assumption)
                                                    obtain ⟨ad568, A568_0, c568_0, e568, hx568_0, hl568_0, hi568_0⟩ := at_L2 (Kd.S_reads' HO_528001.out).2.2 x20_4 p568 q568
                                                    obtain rfl : ad563 = ad568 := (by injection e568)
                                                    obtain ⟨ce568, hce568, hMe568, hcc568⟩ := Kd.S_get HO_528001.out [] x20_4 p568 (by first | exact q568 | exact of_decide_eq_true (by first | (with_reducible assumption) | assumption) | (have e_ := (Kd.S_reads' HO_528001.out).1; omega))
                                                    obtain ⟨ve568_0, rfl, ge568_0⟩ := hMe568
                                                    have hv568_0 := hcc568 0 _ rfl
                                                    rw [Nat.add_zero, show ((Kd.slice 2 (Kd.int .i64))).sz = 1 from rfl, Nat.mul_one] at hv568_0
                                                    replace hv568_0 := Option.some.inj (hv568_0.symm.trans hx568_0)
                                                    rw [hv568_0] at ge568_0
                                                    have HL568_0 := Aside0.mk (show Kd.R (Kd.int .i64) 2 _ _ _ _ (rd_L2 t524 x20_4) from ge568_0)
                                                    clear hv568_0 ge568_0
                                                    clear hcc568 hce568
                                                    have HR568_0 := Aside0.mk hi568_0
                                                    have HC568_0 := Aside0.mk hl568_0
                                                    clear hi568_0 hl568_0
                                                    replace p568 := eq_true p568
                                                    replace q568 := eq_true q568
                                                    have p569 : 0 ≤ (x21_5 : Int) := of_decide_eq_true (by first | (with_reducible assumption) | assumption)
                                                    have q569 : x21_5 < ((rd_L2 t524 x20_4).length : Int) := of_decide_eq_true (by first | (with_reducible assumption) | assumption)
                                                    obtain ⟨ad569, e569, hx569_0⟩ := Kd.at_int (by repeat (first | (with_reducible exact HR568_0.out) | (with_reducible refine Kd.C_alloc ?_ _) | (with_reducible refine Kd.C_drewN ?_ _) | (with_reducible refine Kd.C_drew ?_) | exact HR568_0.out)) x21_5 p569 q569
                                                    cases e569
                                                    replace p569 := eq_true p569
                                                    replace q569 := eq_true q569
                                                    obtain ⟨Ao153, co153, eo153⟩ := Kd.R_slice HO_12.out
                                                    subst eo153
                                                    go_wp2_with (first | (go_at_call 19; (with_reducible refine (laws_b10Has.calls k6 _ _ t540 (rd (rd_L2 t524 x20_4) x21_5) t570 _ ?side1 ?side2 A144.out).mono ?_); (case side1 => repeat (first | exact (Kd.R_reads' HO_12.out).2.2 | (with_reducible refine Kd.C_alloc ?_ _) | (with_reducible refine Kd.C_drewN ?_ _) | (with_reducible refine Kd.C_drew ?_))); (case side2 => exact (Kd.R_reads' HO_12.out).2.1); rintro e w' ⟨rfl, ⟨nd, rfl⟩⟩; (try first | exact ⟨rfl, _, World.drewN_drewN _ _ _⟩ | exact ⟨rfl, _, Eq.trans (World.drewN_drewN _ _ _) (congrArg (World.drewN _) (Nat.add_assoc _ _ _))⟩)))
                                                    repeat (go_quiet (fail); try go_wp2)
                                                    go_roundg k6
                                                    case measure => have := HJ9.out; have := HJ54.out; have := HJ76.out; have := HK4.out; have := HK5.out; have := HK6.out; omega
                                                    case rel => exact ⟨(wrap64 (x21_5 + 1)), (by first | rfl | (simp; done) | (simp [*]; done)), H', ⟨by have := HJ9.out; have := HJ54.out; have := HJ76.out; have := HK4.out; have := HK5.out; have := HK6.out; omega⟩, ⟨by (with_reducible repeat (first | apply Kd.R_alloc | apply Kd.R_drewN | apply Kd.R_drew)); exact HO_12.out⟩, ⟨by (with_reducible repeat (first | apply Kd.S_alloc | apply Kd.S_drewN | apply Kd.S_drew)); exact HO_528001.out⟩, ⟨by (with_reducible repeat (first | apply Kd.S_alloc | apply Kd.S_drewN | apply Kd.S_drew)); exact HO_536001.out⟩, ⟨by (with_reducible repeat (first | apply Kd.S_alloc | apply Kd.S_drewN | apply Kd.S_drew)); exact HO_554001.out⟩, ⟨by (with_reducible repeat (first | refine blk_drewN ?_ _ | refine blk_drew ?_ | refine blk_alloc ?_ _)); exact BK527.out⟩, ⟨by (with_reducible repeat (first | refine blk_drewN ?_ _ | refine blk_drew ?_ | refine blk_alloc ?_ _)); exact BK535.out⟩, ⟨by (with_reducible repeat (first | refine blk_drewN ?_ _ | refine blk_drew ?_ | refine blk_alloc ?_ _)); exact BK553.out⟩, ⟨by repeat (first | (with_reducible first | exact HB.out | apply below_alloc | apply pw_below_drewN | apply below_drew1 | refine below_set ?_ GE527.out | refine below_set ?_ GE535.out | refine below_set ?_ GE553.out) | exact HB.out)⟩⟩
                                                · rw [if_neg c143] at H
                                                  exact absurd H (by simp)
                                              · rw [if_neg c142] at H
                                                exact absurd H (by simp)
                                            · rw [if_neg c141] at H
                                              exact absurd H (by simp)
                                          · rw [if_neg c140] at H
                                            exact absurd H (by simp)
                                  · rw [if_neg c125] at H
                                    have c125b0 : decide (x21_5 < ((rd_L2 t524 x20_4).length : Int)) = false := decide_eq_false c125
                                    clear c125
                                    have H' := Aside0.mk H
                                    clear H
                                    have hnb154 := NB527_535.out
                                    have hnc154 := NB535_527.out
                                    have hnb155 := NB527_553.out
                                    have hnc155 := NB553_527.out
                                    have hcz156_0 : wr.cell? ⟨gb527, 0, none⟩ = some (.int .i64 t523) := (blk_cell BK527.out 0).trans rfl
                                    have hcz156_1 : wr.cell? ⟨gb527, 1, none⟩ = some (.slice Ao14 t524.length co14) := (blk_cell BK527.out 1).trans rfl
                                    have hfz156_0 := blk_frozen BK527.out 0
                                    have hfz156_1 := blk_frozen BK527.out 1
                                    have p563 : 0 ≤ (x20_4 : Int) := of_decide_eq_true (by first | (with_reducible assumption) | assumption)
                                    have q563 : x20_4 < (t524.length : Int) := of_decide_eq_true (by first | (with_reducible assumption) | assumption)
                                    obtain ⟨ad563, A563_0, c563_0, e563, hx563_0, hl563_0, hi563_0⟩ := at_L2 (Kd.S_reads' HO_528001.out).2.2 x20_4 p563 q563
                                    cases e563
                                    obtain ⟨ce563, hce563, hMe563, hcc563⟩ := Kd.S_get HO_528001.out [] x20_4 p563 (by first | exact q563 | exact of_decide_eq_true (by first | (with_reducible assumption) | assumption) | (have e_ := (Kd.S_reads' HO_528001.out).1; omega))
                                    obtain ⟨ve563_0, rfl, ge563_0⟩ := hMe563
                                    have hv563_0 := hcc563 0 _ rfl
                                    rw [Nat.add_zero, show ((Kd.slice 2 (Kd.int .i64))).sz = 1 from rfl, Nat.mul_one] at hv563_0
                                    replace hv563_0 := Option.some.inj (hv563_0.symm.trans hx563_0)
                                    rw [hv563_0] at ge563_0
                                    have HL563_0 := Aside0.mk (show Kd.R (Kd.int .i64) 2 _ _ _ _ (rd_L2 t524 x20_4) from ge563_0)
                                    clear hv563_0 ge563_0
                                    clear hcc563 hce563
                                    have HR563_0 := Aside0.mk hi563_0
                                    have HC563_0 := Aside0.mk hl563_0
                                    clear hi563_0 hl563_0
                                    replace p563 := eq_true p563
                                    replace q563 := eq_true q563
                                    go_wp2
                                    repeat (go_quiet (fail); try go_wp2)
                                    go_roundg k5
                                    case measure => have := HJ9.out; have := HJ54.out; have := HJ76.out; have := HK4.out; have := HK5.out; omega
                                    case rel => exact ⟨(wrap64 (x20_4 + 1)), (by first | rfl | (simp; done) | (simp [*]; done)), H', ⟨by have := HJ9.out; have := HJ54.out; have := HJ76.out; have := HK4.out; have := HK5.out; omega⟩, ⟨by (with_reducible repeat (first | apply Kd.R_alloc | apply Kd.R_drewN | apply Kd.R_drew)); exact HO_12.out⟩, ⟨by (with_reducible repeat (first | apply Kd.S_alloc | apply Kd.S_drewN | apply Kd.S_drew)); exact HO_528001.out⟩, ⟨by (with_reducible repeat (first | apply Kd.S_alloc | apply Kd.S_drewN | apply Kd.S_drew)); exact HO_536001.out⟩, ⟨by (with_reducible repeat (first | apply Kd.S_alloc | apply Kd.S_drewN | apply Kd.S_drew)); exact HO_554001.out⟩, ⟨by (with_reducible repeat (first | refine blk_drewN ?_ _ | refine blk_drew ?_ | refine blk_alloc ?_ _)); exact BK527.out⟩, ⟨by (with_reducible repeat (first | refine blk_drewN ?_ _ | refine blk_drew ?_ | refine blk_alloc ?_ _)); exact BK535.out⟩, ⟨by (with_reducible repeat (first | refine blk_drewN ?_ _ | refine blk_drew ?_ | refine blk_alloc ?_ _)); exact BK553.out⟩, ⟨by repeat (first | (with_reducible first | exact HB.out | apply below_alloc | apply pw_below_drewN | apply below_drew1 | refine below_set ?_ GE527.out | refine below_set ?_ GE535.out | refine below_set ?_ GE553.out) | exact HB.out)⟩⟩
                                · rw [if_neg c124] at H
                                  exact absurd H (by simp)
                              · rw [if_neg c123] at H
                                exact absurd H (by simp)
                        · rw [if_neg c119] at H
                          have c119b0 : decide (x20_4 < (t524.length : Int)) = false := decide_eq_false c119
                          clear c119
                          first | exact absurd (Option.some.inj H) (by decide) | clear H
                          all_goals
                            have hnb157 := NB527_535.out
                            have hnc157 := NB535_527.out
                            have hnb158 := NB527_553.out
                            have hnc158 := NB553_527.out
                            have hcz159_0 : wr.cell? ⟨gb527, 0, none⟩ = some (.int .i64 t523) := (blk_cell BK527.out 0).trans rfl
                            have hcz159_1 : wr.cell? ⟨gb527, 1, none⟩ = some (.slice Ao14 t524.length co14) := (blk_cell BK527.out 1).trans rfl
                            have hfz159_0 := blk_frozen BK527.out 0
                            have hfz159_1 := blk_frozen BK527.out 1
                            go_wp2
                            repeat (go_quiet (fail); try go_wp2)
                            go_ret
                            exact ⟨by first | rfl | (simp [errW_none, errW_some] <;> rfl) | (simp [*, errW_none, errW_some] <;> rfl), by repeat (first | (with_reducible first | exact HB.out | apply below_alloc | apply pw_below_drewN | apply below_drew1 | refine below_set ?_ GE527.out | refine below_set ?_ GE535.out | refine below_set ?_ GE553.out) | exact HB.out)⟩

end Go.Proofs.YtibaiaenfeppcaaGreatDoor.Q

/- How a value that came in is told by the kinds (Kd): what its reading as data says of its cells. -/
namespace Go.Proofs.YtibaiaenfeppcaaGreatDoor.Op
open Go.RowKit Go.ChangeShapes Go.WideShapes Go.ChangeAt Go.Proofs.YtibaiaenfeppcaaGreatDoorW.PrintWords

/-- Whatever can be read as a value of type t has cells that tell some a of kind d, of which Ok holds. -/
def Opens {α : Type} (P : Program) (w : World) (t : TypeId) (d : Kd α) (Ok : α → Prop) : Prop :=
  ∀ (H : Type) (enc : TypeId × Value → H) (fuel : Nat) (cs : List Value) (x : DataW H × List MemPlace), DataW.trod enc P w 0 (fun _ => true) true fuel t cs = some x → ∃ a, d.K w a cs ∧ Ok a

def In64 (n : Int) : Prop := -9223372036854775808 ≤ n ∧ n ≤ 9223372036854775807

variable {P : Program} {w : World} {t e : TypeId} {α β : Type} {d : Kd α} {d2 : Kd β} {Ok : α → Prop} {Ok2 : β → Prop}

theorem mapM_cells {w : World} {a : Addr} : ∀ (n k : Nat) (cs : List Value), ((List.range' k n).mapM fun i => w.cell? (a.add i)) = some cs → cs.length = n ∧ ∀ i u, cs[i]? = some u → w.cell? (a.add (k + i)) = some u := by
  intro n
  induction n with
  | zero => intro k cs h; simp at h; subst h; simp
  | succ n ih =>
    intro k cs h
    rw [List.range'_succ, List.mapM_cons] at h
    simp only [bind, Option.bind_eq_some_iff, pure, Option.some.injEq] at h
    obtain ⟨u, hu, us, hus, rfl⟩ := h
    obtain ⟨h1, h2⟩ := ih (k + 1) us hus
    refine ⟨by simp [h1], ?_⟩
    intro i v hv
    cases i with
    | zero => simp at hv; subst hv; simpa using hu
    | succ i => rw [show k + (i + 1) = k + 1 + i by omega]; exact h2 i v (by simpa using hv)

theorem cells_get {w : World} {b n : Nat} {a : Addr} {cs : List Value} (h : w.cells? b a n = some cs) : cs.length = n ∧ ∀ i u, cs[i]? = some u → w.cell? (a.add i) = some u := by
  unfold World.cells? at h
  split at h
  · rw [List.range_eq_range'] at h
    obtain ⟨h1, h2⟩ := mapM_cells n 0 cs h
    exact ⟨h1, fun i u hu => by have := h2 i u hu; rwa [Nat.zero_add] at this⟩
  · simp at h

theorem choose_list {α : Type} {R : Nat → α → Prop} : ∀ n : Nat, (∀ j, j < n → ∃ a, R j a) → ∃ l : List α, l.length = n ∧ ∀ j a, l[j]? = some a → R j a := by
  intro n
  induction n with
  | zero => intro _; exact ⟨[], rfl, by simp⟩
  | succ n ih =>
    intro h
    obtain ⟨l, hl, hR⟩ := ih fun j hj => h j (by omega)
    obtain ⟨a, ha⟩ := h n (by omega)
    refine ⟨l ++ [a], by simp [hl], ?_⟩
    intro j b hb
    by_cases hj : j < n
    · rw [List.getElem?_append_left (by omega)] at hb; exact hR j b hb
    · rw [List.getElem?_append_right (by omega)] at hb
      have : j = n := by
        have := (List.getElem?_eq_some_iff.1 hb).1
        simp at this; omega
      subst this
      rw [hl, Nat.sub_self] at hb
      simp at hb; subst hb; exact ha

theorem add_add' (a : Addr) (i j : Nat) : (a.add i).add j = a.add (i + j) := by
  simp only [Addr.add]
  split <;> split <;> simp_all [Nat.add_assoc]

theorem opens_slice (ht : P.underlying t = some (.slice e)) (he : Opens P w e d Ok) (hs : d.sz = P.cellsOf e) : Opens P w t (Kd.slice e d) (fun xs => (∀ a ∈ xs, Ok a) ∧ xs.length ≤ maxLen) := by
  intro H enc fuel cs x h
  rcases DataW.trod_slice ht h with ⟨rfl, _⟩ | ⟨a, len, cap, elems, rest, n, _, rfl, _, _, hl, hm, hlen, hel, _, _⟩
  · exact ⟨[], ⟨none, 0, rfl, Nat.le_refl _, Kd.C_nil _ _⟩, by simp, by simp⟩
  · have each : ∀ j, j < len → ∃ b, (∃ c : List Value, c.length = d.sz ∧ d.K w b c ∧ ∀ i u, c[i]? = some u → w.cell? (a.add (j * d.sz + i)) = some u) ∧ Ok b := by
      intro j hj
      have h1 := hel j hj
      rw [List.getElem?_eq_getElem (by omega), Option.bind_eq_some_iff] at h1
      obtain ⟨c, hc, hx⟩ := h1
      obtain ⟨hcl, hcell⟩ := cells_get hc
      obtain ⟨b, hb, hok⟩ := he H enc n c _ hx
      refine ⟨b, ⟨c, by rw [hs, hcl], hb, fun i u hu => ?_⟩, hok⟩
      have := hcell i u hu
      rwa [add_add', ← hs] at this
    obtain ⟨l, hll, hR⟩ := choose_list len each
    have hm' : cap ≤ 9223372036854775807 := by unfold maxLen at hm; exact hm
    refine ⟨l, ⟨some a, cap, by rw [hll], by omega, by omega, by omega, fun _ => ⟨a, rfl, fun j p hp => (hR j p hp).1⟩⟩, fun b hb => ?_, by omega⟩
    obtain ⟨j, hj, rfl⟩ := List.getElem_of_mem hb
    exact (hR j _ (List.getElem?_eq_getElem hj)).2

/-- The same of a struct's fields from cell number off on. -/
def OpensL {α : Type} (P : Program) (w : World) (fs : List Field) (off : Nat) (d : Kd α) (Ok : α → Prop) : Prop :=
  ∀ (H : Type) (enc : TypeId × Value → H) (fuel : Nat) (cs : List Value), cs.length = off + d.sz → (∀ f ∈ fs, ∃ x, DataW.trod enc P w 0 (fun _ => true) true fuel f.type ((cs.drop f.offset).take (P.cellsOf f.type)) = some x) → ∃ a, d.K w a (cs.drop off) ∧ Ok a

theorem opens_imp {Ok' : α → Prop} (h : Opens P w t d Ok) (hi : ∀ a, Ok a → Ok' a) : Opens P w t d Ok' := by
  intro H enc fuel cs x hx
  obtain ⟨a, ha, hok⟩ := h H enc fuel cs x hx
  exact ⟨a, ha, hi a hok⟩

/-- An argument that is a slice. -/
theorem open_slice_arg {H : Type} {enc : TypeId × Value → H} {r : Reach} {base : Nat} {v : Value} {y : DataW H} {p : List MemPlace} {Ok' : List α → Prop} (ht : P.underlying t = some (.slice e)) (ho : Opens P w t (Kd.slice e d) Ok') (hv : Value.okWide P w r base t v)
    (h : DataW.Trod enc P w 0 (fun _ => true) true t v y p) : ∃ (A : Option Addr) (c : Nat) (l : List α), v = .slice A l.length c ∧ l.length ≤ c ∧ d.C w A l.length l ∧ Ok' l := by
  obtain ⟨a, len, cap, rfl⟩ := okWide_slice ht hv
  obtain ⟨fuel, hf⟩ := h
  obtain ⟨l, ⟨A, c, hc, hl, hr⟩, hok⟩ := ho H enc fuel _ _ hf
  simp [Value.cells] at hc
  obtain ⟨rfl, rfl, rfl⟩ := hc
  exact ⟨_, _, l, rfl, hl, hr, hok⟩
end Go.Proofs.YtibaiaenfeppcaaGreatDoor.Op

/- (a part of its own) A yard, and moves, that came in as arguments. -/
namespace Go.Proofs.YtibaiaenfeppcaaGreatDoor.Op
open Go.RowKit Go.ChangeShapes Go.WideShapes Go.ChangeAt Go.Proofs.YtibaiaenfeppcaaGreatDoorW.PrintWords
theorem opens_u8 {P : Program} {w : World} {t : TypeId} (ht : P.underlying t = some (.int .u8)) : Opens P w t (Kd.int .u8) (fun n => 0 ≤ n ∧ n ≤ 255) := by
  intro H enc fuel cs x h
  obtain ⟨n, rfl, _, hw⟩ := DataW.trod_int ht h
  refine ⟨n, rfl, ?_⟩
  have h2 := hw
  simp [Lit.wf, IntKind.min, IntKind.max, IntKind.signed, IntKind.bits] at h2
  exact h2
theorem opens_bytes (w : World) : Opens Tryz.prog w 30 (Kd.slice 5 (Kd.int .u8)) (fun x => x.length ≤ maxLen ∧ ∀ b ∈ x, 0 ≤ b ∧ b ≤ 255) := by
  have l := opens_slice (d := Kd.int .u8) (w := w) Tryz.underlying30 (opens_u8 (w := w) Tryz.underlying5) (by kernel_rfl)
  exact opens_imp l (fun _ h => ⟨h.2, h.1⟩)
end Go.Proofs.YtibaiaenfeppcaaGreatDoor.Op

/- The witness of a row that lists variables, at a world whose shape is seen in one pass. -/
namespace Go.Proofs.YtibaiaenfeppcaaGreatDoor.Wt
open Go
theorem witness_row_zip {H : Type} {enc : TypeId × Value → H} {C : Checked} {os : Os} {f : FuncId} {fn : Func} {s : OpenSpec} {conds : List PathCond} {apart : Bool} {laid : List (String × DataW Unit)} (modest : Bool) (w0 : World) (args : Array Value) (hos : w0.os = os)
    (hv : (w0.forCall (fun _ _ => 0) ⟨#[], args, []⟩).variablesZipB C.prog = true)
    (hr : ((w0.forCall (fun _ _ => 0) ⟨#[], args, []⟩).heap.toList.drop C.prog.globals.size).take ((begin C.prog (fun _ _ => 0) default).world.heap.size - C.prog.globals.size) =
      (begin C.prog (fun _ _ => 0) default).world.heap.toList.drop C.prog.globals.size)
    (hok : Input.okWideB C.prog (w0.forCall (fun _ _ => 0) ⟨#[], args, []⟩) f ⟨#[], args, []⟩ = true)
    (hrow : s.preRow enc C.prog fn conds apart laid (w0.forCall (fun _ _ => 0) ⟨#[], args, []⟩).memory args) :
    ∃ (w : World) (tape : Tape) (i : Input), w.os = os ∧ (w.forCall tape i).Shaped C.prog ∧ i.vars = [] ∧ Input.okWide C.prog (w.forCall tape i) .any w.heap.size f i ∧
      s.preRow enc C.prog fn conds apart laid (w.forCall tape i).memory i.args ∧ ({ modest := modest } : Assume).holds C.prog (lone (Frame.enter C.prog f i.args .normal) [] (w.forCall tape i)) :=
  ⟨w0, fun _ _ => 0, ⟨#[], args, []⟩, hos, World.shaped_of_ZipB hv hr, (Input.okWide_of_okWideB (base := 0) hok).1, (Input.okWide_of_okWideB hok).2, hrow, by
    simp only [Assume.holds]
    exact ⟨by simp, by simp, fun _ => Modest.zero, by simp, by simp⟩⟩
end Go.Proofs.YtibaiaenfeppcaaGreatDoor.Wt

/- (with the errors) What a row's list of variables gives the walks. -/
namespace Go.Proofs.YtibaiaenfeppcaaGreatDoor.Ts
open Go.RowKit
theorem gPow : Tryz.prog.globalNamed "internal/strconv.uint64pow10" = some 5 := by kernel_rfl
theorem tb_of {a b : String × DataW Unit} {r : List (String × DataW Unit)} {W : World} (h : laidMet Tryz.prog (a :: b :: ("internal/strconv.uint64pow10", Rows.laid_internal_strconv_uint64pow10) :: r) W) (hsh : W.ShapedOpen Tryz.prog) : Tb.TB W := by
  refine ⟨?_, Tryz.laysM145.s1_3 W hsh⟩
  exact Lib.tabIs_of_head (rest := r) gPow (by kernel_rfl) Tryz.underlying163 Tryz.underlying76 (by kernel_rfl) (by kernel_rfl) h.tail.tail
theorem gSyn : Tryz.prog.globalNamed "strconv.ErrSyntax" = some 1 := by kernel_rfl
theorem gRan : Tryz.prog.globalNamed "strconv.ErrRange" = some 2 := by kernel_rfl
theorem gSynT : (Tryz.prog.globals[1]?).map (·.type) = some 88 := by kernel_rfl
theorem gRanT : (Tryz.prog.globals[2]?).map (·.type) = some 88 := by kernel_rfl
theorem star : "*" ++ "errors.errorString" = "*errors.errorString" := by decide
theorem rowE (u : TypeId) (h : Tryz.prog.typeName? 3 u = some "*errors.errorString") : u = 166 :=
  typeName_ptr_named (nm := "errors.errorString") (by rw [star]; kernel_rfl) (by kernel_rfl) (by decide) u (by rw [star]; exact h)
theorem tc_of {a b d : String × DataW Unit} {r : List (String × DataW Unit)} {W : World}
    (h : laidMet Tryz.prog (a :: b :: ("internal/strconv.uint64pow10", Rows.laid_internal_strconv_uint64pow10) :: d :: ("strconv.ErrRange", Rows.laid_strconv_ErrRange) :: ("strconv.ErrSyntax", Rows.laid_strconv_ErrSyntax) :: r) W) (hsh : W.ShapedOpen Tryz.prog) : Tb.TC W := by
  refine ⟨tb_of h hsh, ?_, ?_⟩
  · obtain ⟨a0, sa, hva, _, _, _⟩ := laid_sentinel h.tail.tail.tail.tail.tail gSyn gSynT Tryz.underlying88 rowE Tryz.underlying166 Tryz.underlying168 rfl rfl Tryz.underlying9 (by kernel_rfl) (by kernel_rfl)
    exact ⟨_, _, hva⟩
  · obtain ⟨a0, sa, hva, _, _, _⟩ := laid_sentinel h.tail.tail.tail.tail gRan gRanT Tryz.underlying88 rowE Tryz.underlying166 Tryz.underlying168 rfl rfl Tryz.underlying9 (by kernel_rfl) (by kernel_rfl)
    exact ⟨_, _, hva⟩
end Go.Proofs.YtibaiaenfeppcaaGreatDoor.Ts

