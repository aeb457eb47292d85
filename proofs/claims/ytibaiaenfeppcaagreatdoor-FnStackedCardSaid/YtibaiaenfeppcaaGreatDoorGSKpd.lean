/- Parts of the proof that the law of this seat holds: Yqa, MTa, Su, PuRMa, PuSm, Q2, Q3, Q4, AdY, Q7, Q8, AdX, Ry, PuD, PuV, PuYTa, PuRy, PuRz, PuSk, PuB, PuTL, PuSt. -/
import Derived.Test.YtibaiaenfeppcaaGreatDoorGSKpc
import Derived.Test.YtibaiaenfeppcaaGreatDoorGSKpa
import Derived.Test.YtibaiaenfeppcaaGreatDoorGSKpb
import Derived.Lib.ItoaNum
import Derived.Lib.Join
import Derived.Lib.EndianBits
import Derived.Laws.BitsLemmas
set_option linter.unusedVariables false
set_option linter.unusedSimpArgs false
/- (a part of its own) Moving and taking, told once for all arguments, by both sides. -/
namespace Go.Proofs.YtibaiaenfeppcaaGreatDoor.Yq
open Go Go.RowKit Go.Proofs.YtibaiaenfeppcaaGreatDoorW.PrintWords Go.Proofs.YtibaiaenfeppcaaGreatDoorW.PrintLast Go.Proofs.YtibaiaenfeppcaaGreatDoorW.PrintMore Go.Proofs.YtibaiaenfeppcaaGreatDoor.Q Go.Proofs.YtibaiaenfeppcaaGreatDoor.PuY Go.Proofs.YtibaiaenfeppcaaGreatDoor.PuTO Go.Proofs.YtibaiaenfeppcaaGreatDoor.Lw Go.Proofs.YtibaiaenfeppcaaGreatDoor.Ow Go.Proofs.YtibaiaenfeppcaaGreatDoor.Yo Go.Proofs.YtibaiaenfeppcaaGreatDoor.Yt
set_option linter.unusedVariables false
/-- A move that can be made. -/
def moveB (h : Int) (xs : List (List Int)) (f t : Int) : Bool :=
  decide (0 ≤ f ∧ f < (xs.length : Int) ∧ 0 ≤ t ∧ t < (xs.length : Int) ∧ f ≠ t ∧ 0 < (xs.getD f.toNat []).length ∧ ((xs.getD t.toNat []).length : Int) < h)
def moveR (h : Int) (xs : List (List Int)) (f t : Int) : Option (List (List Int)) := if moveB h xs f t = true then some (moveRows xs f.toNat t.toNat) else none
/-- A yard's height and rows, where there is one. -/
def hR (h : Int) (o : Option (List (List Int))) : Int × List (List Int) := match o with | some ys => (h, ys) | none => (0, [])
/-- What is handed back where a yard may come out. -/
def Out (h : Int) (o : Option (List (List Int))) (w : World) (e : Ending) (w' : World) : Prop :=
  ∃ v, e = .returned (.tuple #[.agg #[.int .i64 (hR h o).1, v], .bool o.isSome]) ∧ Kd.S dW 35 w' w.heap.size (fun _ => True) v (hR h o).2 ∧ Below w.heap.size w w'
theorem out_none {h : Int} {w w' : World} {e : Ending} (he : e = .returned (.tuple #[.agg #[.int .i64 0, .slice none 0 0], .bool false])) (hb : Below w.heap.size w w') : Out h none w e w' := ⟨_, he, Kd.S_nil _ _ _ _ _, hb⟩
theorem getD_at (xs : List (List Int)) (i : Nat) (hi : i < xs.length) : xs.getD i [] = xs[i] := by rw [List.getD_eq_getElem?_getD, List.getElem?_eq_getElem hi]; rfl
theorem flat_le (b : Nat) : ∀ ys : List (List Int), (∀ r ∈ ys, r.length ≤ b) → ys.flatten.length ≤ ys.length * b
  | [], _ => by simp
  | r :: rs, h => by
    have := flat_le b rs (fun s hs => h s (List.mem_cons_of_mem _ hs))
    have := h r (List.mem_cons_self ..)
    rw [List.flatten_cons, List.length_append, List.length_cons, Nat.add_mul]; omega
/-- Why a move cannot be made. -/
theorem move_cases (h : Int) (xs : List (List Int)) (f t : Int) : (f < 0 ∨ (xs.length : Int) ≤ f) ∨ ∃ i : Nat, f = (i : Int) ∧ ∃ hi : i < xs.length, (t < 0 ∨ (xs.length : Int) ≤ t) ∨ t = (i : Int) ∨ ∃ j : Nat, t = (j : Int) ∧ ∃ hj : j < xs.length, i ≠ j ∧ (xs[i].length = 0 ∨ 0 < xs[i].length ∧ (h ≤ (xs[j].length : Int) ∨ (xs[j].length : Int) < h)) := by
  by_cases h1 : f < 0 ∨ (xs.length : Int) ≤ f
  · exact .inl h1
  · refine .inr ⟨f.toNat, by omega, by omega, ?_⟩
    by_cases h2 : t < 0 ∨ (xs.length : Int) ≤ t
    · exact .inl h2
    · by_cases h3 : t = f
      · exact .inr (.inl (by omega))
      · refine .inr (.inr ⟨t.toNat, by omega, by omega, by omega, ?_⟩)
        by_cases h4 : xs[f.toNat].length = 0
        · exact .inl h4
        · exact .inr ⟨by omega, by omega⟩
theorem moveB_no1 {h : Int} {xs : List (List Int)} {f t : Int} (h1 : f < 0 ∨ (xs.length : Int) ≤ f) : moveB h xs f t = false := decide_eq_false (by omega)
theorem moveB_no2 {h : Int} {xs : List (List Int)} {f t : Int} (h1 : t < 0 ∨ (xs.length : Int) ≤ t) : moveB h xs f t = false := decide_eq_false (by omega)
theorem moveB_no3 {h : Int} {xs : List (List Int)} {f : Int} : moveB h xs f f = false := decide_eq_false (by omega)
theorem moveB_no4 {h : Int} {xs : List (List Int)} {i : Nat} {t : Int} (hi : i < xs.length) (h1 : xs[i].length = 0) : moveB h xs (i : Int) t = false := decide_eq_false (by rw [Int.toNat_natCast, getD_at xs i hi]; omega)
theorem moveB_no5 {h : Int} {xs : List (List Int)} {j : Nat} {f : Int} (hj : j < xs.length) (h1 : h ≤ (xs[j].length : Int)) : moveB h xs f (j : Int) = false := decide_eq_false (by rw [Int.toNat_natCast, getD_at xs j hj]; omega)
theorem moveB_yes {h : Int} {xs : List (List Int)} {i j : Nat} (hi : i < xs.length) (hj : j < xs.length) (hij : i ≠ j) (h1 : 0 < xs[i].length) (h2 : (xs[j].length : Int) < h) : moveB h xs (i : Int) (j : Int) = true :=
  decide_eq_true (by rw [Int.toNat_natCast, Int.toNat_natCast, getD_at xs i hi, getD_at xs j hj]; omega)
/-- The program's moved. -/
theorem moved_any (h : Int) (xs : List (List Int)) (hv : Yv.valid h xs = true) (f t : Int) (A : Option Addr) (c : Nat) (w : World) (hC : Kd.C dR w A xs.length xs) (hcl : xs.length ≤ c) :
    Calls Tryz.prog 38 #[.agg #[.int .i64 h, .slice A xs.length c], .int .i64 f, .int .i64 t] w (Out h (moveR h xs f t) w) := by
  obtain ⟨p1, p2, p3, p4, p5, -⟩ := valid_parts hv
  have hr4 : ∀ r ∈ xs, r.length ≤ 4 := fun r hr => by have := p5 r hr; omega
  rcases move_cases h xs f t with h1 | ⟨i, rfl, hi, h1 | rfl | ⟨j, rfl, hj, hij, h1 | ⟨h1, h2 | h2⟩⟩⟩
  · rw [moveR, if_neg (by rw [moveB_no1 h1]; decide)]
    exact (Ymv.no_from h xs p4 p2 hr4 f t h1 A c w hC hcl).mono fun e w' hh => out_none hh.1 hh.2
  · rw [moveR, if_neg (by rw [moveB_no2 h1]; decide)]
    exact (Ymv.no_to h xs p4 p2 hr4 i hi t h1 A c w hC hcl).mono fun e w' hh => out_none hh.1 hh.2
  · rw [moveR, if_neg (by rw [moveB_no3]; decide)]
    exact (Ymv.no_same h xs p4 p2 hr4 i hi A c w hC hcl).mono fun e w' hh => out_none hh.1 hh.2
  · rw [moveR, if_neg (by rw [moveB_no4 hi h1]; decide)]
    exact (Ymv.no_lot h xs p4 p2 hr4 i j hi hj hij h1 A c w hC hcl).mono fun e w' hh => out_none hh.1 hh.2
  · rw [moveR, if_neg (by rw [moveB_no5 hj h2]; decide)]
    have := p5 _ (List.getElem_mem hj)
    exact (Ymv.no_room h xs p4 p2 hr4 i j hi hj hij h1 (by omega) A c w hC hcl).mono fun e w' hh => out_none hh.1 hh.2
  · rw [moveR, if_pos (moveB_yes hi hj hij h1 h2)]
    exact (Ymv.yes h xs p4 p2 hr4 i j hi hj hij h1 h2 A c w hC hcl).mono fun e w' ⟨v, h1, h2, h3⟩ => ⟨v, h1, h2, h3⟩
end Go.Proofs.YtibaiaenfeppcaaGreatDoor.Yq

/- (a part of its own) MoveTop, told once for all arguments, by both sides. -/
namespace Go.Proofs.YtibaiaenfeppcaaGreatDoor.MT
open Go Go.RowKit Go.Proofs.YtibaiaenfeppcaaGreatDoorW.PrintWords Go.Proofs.YtibaiaenfeppcaaGreatDoorW.PrintLast Go.Proofs.YtibaiaenfeppcaaGreatDoorW.PrintMore Go.Proofs.YtibaiaenfeppcaaGreatDoor.Q Go.Proofs.YtibaiaenfeppcaaGreatDoor.PuY Go.Proofs.YtibaiaenfeppcaaGreatDoor.PuTO Go.Proofs.YtibaiaenfeppcaaGreatDoor.Lw Go.Proofs.YtibaiaenfeppcaaGreatDoor.Ow Go.Proofs.YtibaiaenfeppcaaGreatDoor.Yo Go.Proofs.YtibaiaenfeppcaaGreatDoor.Yn Go.Proofs.YtibaiaenfeppcaaGreatDoor.Yt Go.Proofs.YtibaiaenfeppcaaGreatDoor.Yq
set_option linter.unusedVariables false
set_option linter.unusedSimpArgs false
set_option maxRecDepth 100000 in
set_option maxHeartbeats 4000000 in
theorem impl_no (h : Int) (xs : List (List Int)) (hv : Yv.valid h xs = false) (f t : Int) (A : Option Addr) (c : Nat) (w : World) (hC : Kd.C dR w A xs.length xs) (hcl : xs.length ≤ c) :
    Calls Tryz.prog 18 #[.agg #[.int .i64 h, .slice A xs.length c], .int .i64 f, .int .i64 t] w (Out h none w) := by
  have hu := Tryz.underlying24
  have HR := Aside0.mk hC
  have HC := Aside0.mk hcl
  have HV := Aside0.mk (show impl_ValidYard.f h xs = some false from congrArg some hv)
  clear hC hcl hv
  go_enter Tryz.func18, Tryz.ntmps18
  go_wp2_with (fail)
  have b2 := below_alloc (below_alloc (Below.refl w.heap.size w) (.cells #[.int .i64 h, .slice A xs.length c] 24)) (.cells #[.int .i64 0, .slice none 0 0] 24)
  refine (impl_ValidYard.calls h A c xs false _ (Kd.C_below HR.out b2) HC.out HV.out).mono ?_
  rintro e w1 ⟨rfl, hb⟩
  have HB := Aside0.mk (below_step b2 hb)
  have B6 := Aside0.mk (blk_below (blk_new' w (.cells #[.int .i64 h, .slice A xs.length c] 24) (.cells #[.int .i64 0, .slice none 0 0] 24)) hb)
  clear hb b2
  have g0 : w1.cell? ⟨w.heap.size + 1, 0, none⟩ = some (.int .i64 0) := (blk_cell B6.out 0).trans rfl
  have g1 : w1.cell? ⟨w.heap.size + 1, 1, none⟩ = some (.slice none 0 0) := (blk_cell B6.out 1).trans rfl
  have g2 := blk_frozen B6.out 0
  have g3 := blk_frozen B6.out 1
  go_wp2_with (fail)
  have b7 := blk_put (blk_put B6.out 0 (.int .i64 0) rfl) 1 (.slice none 0 0) rfl
  refine bodyPost_ret (results_ct rfl _ _ (w.heap.size + 1) 24 #[.int .i64 0, .slice none 0 0] (0, 0) _ rfl b7 Tryz.underlying24 rfl (by kernel_rfl)) rfl ?_
  exact out_none rfl (((HB.out).setCell (p := ⟨w.heap.size + 1, 0, none⟩) (Nat.le_succ _) _).setCell (p := ⟨w.heap.size + 1, 1, none⟩) (Nat.le_succ _) _)
set_option maxRecDepth 100000 in
set_option maxHeartbeats 4000000 in
theorem impl_any (h : Int) (xs : List (List Int)) (hv : Yv.valid h xs = true) (f t : Int) (A : Option Addr) (c : Nat) (w : World) (hC : Kd.C dR w A xs.length xs) (hcl : xs.length ≤ c) :
    Calls Tryz.prog 18 #[.agg #[.int .i64 h, .slice A xs.length c], .int .i64 f, .int .i64 t] w (Out h (moveR h xs f t) w) := by
  have hu := Tryz.underlying24
  have HR := Aside0.mk hC
  have HC := Aside0.mk hcl
  have HV := Aside0.mk (show impl_ValidYard.f h xs = some true from congrArg some hv)
  have HVV := Aside0.mk hv
  clear hC hcl hv
  go_enter Tryz.func18, Tryz.ntmps18
  go_wp2_with (fail)
  have b2 := below_alloc (below_alloc (Below.refl w.heap.size w) (.cells #[.int .i64 h, .slice A xs.length c] 24)) (.cells #[.int .i64 0, .slice none 0 0] 24)
  refine (impl_ValidYard.calls h A c xs true _ (Kd.C_below HR.out b2) HC.out HV.out).mono ?_
  rintro e w1 ⟨rfl, hb⟩
  have HB := Aside0.mk (below_step b2 hb)
  have B6 := Aside0.mk (blk_below (blk_new' w (.cells #[.int .i64 h, .slice A xs.length c] 24) (.cells #[.int .i64 0, .slice none 0 0] 24)) hb)
  have HBB := Aside0.mk hb
  clear hb b2
  have hcK0 : w1.cell? ⟨w.heap.size, 0, none⟩ = some (.int .i64 h) := by
    have := HB.out
    exact (blk_cell (blk_below (blk_alloc (blk_new w (.cells #[.int .i64 h, .slice A xs.length c] 24)) (.cells #[.int .i64 0, .slice none 0 0] 24)) (show Below ((w.alloc (.cells #[.int .i64 h, .slice A xs.length c] 24)).alloc (.cells #[.int .i64 0, .slice none 0 0] 24)).heap.size ((w.alloc (.cells #[.int .i64 h, .slice A xs.length c] 24)).alloc (.cells #[.int .i64 0, .slice none 0 0] 24)) w1 from HBB.out)) 0).trans rfl
  have hcK1 : w1.cell? ⟨w.heap.size, 1, none⟩ = some (.slice A xs.length c) := (blk_cell (blk_below (blk_alloc (blk_new w (.cells #[.int .i64 h, .slice A xs.length c] 24)) (.cells #[.int .i64 0, .slice none 0 0] 24)) HBB.out) 1).trans rfl
  go_wp2_with (fail)
  refine (moved_any h xs HVV.out f t A c w1 (Kd.C_below HR.out HB.out) HC.out).mono ?_
  rintro e w2 ⟨v, rfl, hS, hb⟩
  obtain ⟨Av, cv, rfl⟩ := Kd.S_slice hS
  have HS := Aside0.mk hS
  have HLT := Aside0.mk (blk_lt B6.out)
  have B6 := Aside0.mk (blk_below B6.out hb)
  have HB := Aside0.mk (below_step HB.out hb)
  clear hS hb hcK0 hcK1
  have g0 : w2.cell? ⟨w.heap.size + 1, 0, none⟩ = some (.int .i64 0) := (blk_cell B6.out 0).trans rfl
  have g1 : w2.cell? ⟨w.heap.size + 1, 1, none⟩ = some (.slice none 0 0) := (blk_cell B6.out 1).trans rfl
  have g2 := blk_frozen B6.out 0
  have g3 := blk_frozen B6.out 1
  go_wp2_with (fail)
  have b7 := blk_put (blk_put B6.out 0 (.int .i64 (hR h (moveR h xs f t)).1) rfl) 1 (.slice Av (hR h (moveR h xs f t)).2.length cv) rfl
  refine bodyPost_ret (results_ct rfl _ _ (w.heap.size + 1) 24 #[.int .i64 (hR h (moveR h xs f t)).1, .slice Av (hR h (moveR h xs f t)).2.length cv] (0, 0) _ rfl b7 Tryz.underlying24 rfl (by kernel_rfl)) rfl ?_
  refine ⟨_, rfl, ?_, (((HB.out).setCell (p := ⟨w.heap.size + 1, 0, none⟩) (Nat.le_succ _) _).setCell (p := ⟨w.heap.size + 1, 1, none⟩) (Nat.le_succ _) _)⟩
  exact Kd.S_mono (Kd.S_far (p := ⟨w.heap.size + 1, 1, none⟩) (Kd.S_far (p := ⟨w.heap.size + 1, 0, none⟩) (Kd.S_lower (Kd.S_bound HS.out) (by have := HLT.out; omega)) (fun k hk => by have := hk.2.1; have := HLT.out; show k ≠ w.heap.size + 1; omega) _) (fun k hk => by have := hk.2.1; have := HLT.out; show k ≠ w.heap.size + 1; omega) _) (fun _ _ => trivial)
/-- What MoveTop hands back. -/
def res (h : Int) (xs : List (List Int)) (f t : Int) : Option (List (List Int)) := if Yv.valid h xs = true then moveR h xs f t else none
theorem impl_calls (h : Int) (xs : List (List Int)) (f t : Int) (A : Option Addr) (c : Nat) (w : World) (hC : Kd.C dR w A xs.length xs) (hcl : xs.length ≤ c) :
    Calls Tryz.prog 18 #[.agg #[.int .i64 h, .slice A xs.length c], .int .i64 f, .int .i64 t] w (Out h (res h xs f t) w) := by
  unfold res
  by_cases hv : Yv.valid h xs = true
  · rw [if_pos hv]; exact impl_any h xs hv f t A c w hC hcl
  · rw [if_neg hv]; exact impl_no h xs (by simpa using hv) f t A c w hC hcl
end Go.Proofs.YtibaiaenfeppcaaGreatDoor.MT

/- The law on stacks, what it computes. -/
namespace Go.Proofs.YtibaiaenfeppcaaGreatDoor.Q
open Go.RowKit Go.Proofs.YtibaiaenfeppcaaGreatDoorW.PrintWords Go.Proofs.YtibaiaenfeppcaaGreatDoorW.PrintLast Go.Proofs.YtibaiaenfeppcaaGreatDoorW.PrintMore
attribute [local go_sem] max2_int min2_int max_two min_two max_three min_three max_four min_four
set_option linter.unusedVariables false
set_option linter.unusedSimpArgs false
def impl_MoveTop.f (a0_0 : Int) (l0_1 : List (List Int)) (a1 : Int) (a2 : Int) : Option (Int × (List (List Int)) × Bool) := some ((Yq.hR a0_0 (MT.res a0_0 l0_1 a1 a2)).1, (Yq.hR a0_0 (MT.res a0_0 l0_1 a1 a2)).2, (MT.res a0_0 l0_1 a1 a2).isSome)
theorem impl_MoveTop.calls (a0_0 : Int) (A0_1 : Option Addr) (c0_1 : Nat) (l0_1 : List (List Int)) (a1 : Int) (a2 : Int) (r1 : Int) (r2 : List (List Int)) (r3 : Bool) (w : World) (hr0_1 : Kd.C (Kd.slice 2 (Kd.int .i64)) w A0_1 l0_1.length l0_1) (hc0_1 : l0_1.length ≤ c0_1) (h : impl_MoveTop.f a0_0 l0_1 a1 a2 = some (r1, r2, r3)) :
    Calls Tryz.prog 18 #[.agg #[.int .i64 a0_0, .slice A0_1 l0_1.length c0_1], .int .i64 a1, .int .i64 a2] w fun e w' => ∃ v1_ : Value, e = .returned (.tuple #[.agg #[.int .i64 r1, v1_], .bool r3]) ∧ Kd.S Ow.dW 35 w' w.heap.size (fun _ => True) v1_ r2 ∧ Below w.heap.size w w' := by
  have h1 := MT.impl_calls a0_0 l0_1 a1 a2 A0_1 c0_1 w hr0_1 hc0_1
  unfold impl_MoveTop.f at h
  injection h with h
  injection h with h2 h3
  injection h3 with h3 h4
  subst h2 h3 h4
  exact h1.mono fun e w' ⟨v, e1, e2, e3⟩ => ⟨v, e1, e2, e3⟩

/-! ### laws_FnStacked: function 4 -/
mutual
def laws_FnStacked.j0 : Nat → List Int → List Int → Bool → Int → List (List Int) → Option (Bool)
  | 0, _, _, _, _, _ => none
  | k + 1, x1, x12, x83, x528000, x528001 => if x83 = true then (some false) else ((laws_b10At.f x1 0 (x528001.length : Int)).bind fun t546 => ((laws_b10At.f x1 1 (x528001.length : Int)).bind fun t547 => ((impl_MoveTop.f x528000 x528001 t546 t547).bind fun bt548 => (if t546 = t547 then (laws_FnStacked.j1 k x12 t546 t547 bt548.2.2 (bt548.2.2 != false) x528000 x528001 bt548.1 bt548.2.1) else (if 0 ≤ t546 then (if t546 < (x528001.length : Int) then (if ((rd_L2 x528001 t546).length : Int) > 0 then (if 0 ≤ t547 then (if t547 < (x528001.length : Int) then (laws_FnStacked.j1 k x12 t546 t547 bt548.2.2 (bt548.2.2 != (decide (((rd_L2 x528001 t547).length : Int) < x528000))) x528000 x528001 bt548.1 bt548.2.1) else (none)) else (none)) else (laws_FnStacked.j1 k x12 t546 t547 bt548.2.2 (bt548.2.2 != false) x528000 x528001 bt548.1 bt548.2.1)) else (none)) else (none))))))
def laws_FnStacked.j1 : Nat → List Int → Int → Int → Bool → Bool → Int → List (List Int) → Int → List (List Int) → Option (Bool)
  | 0, _, _, _, _, _, _, _, _, _ => none
  | k + 1, x12, x14, x15, x17, x125, x528000, x528001, x554000, x554001 => if x125 = true then (some false) else (if x17 = true then ((impl_MoveTop.f x554000 x554001 x15 x14).bind fun bt556 => (if bt556.2.2 = true then ((laws_b10Yards.f k bt556.1 bt556.2.1 x528000 x528001).bind fun t562 => (if t562 = true then (laws_FnStacked.j2 k x12 x528000 x528001) else (some false))) else (some false))) else (laws_FnStacked.j2 k x12 x528000 x528001))
def laws_FnStacked.j2 : Nat → List Int → Int → List (List Int) → Option (Bool)
  | 0, _, _, _ => none
  | k + 1, x12, x528000, x528001 => laws_FnStacked.l0 k x12 0 x528000 x528001
def laws_FnStacked.l0 : Nat → List Int → Int → Int → List (List Int) → Option (Bool)
  | 0, _, _, _, _ => none
  | k + 1, x12, x20, x528000, x528001 => if x20 < (x528001.length : Int) then (laws_FnStacked.l1 k x12 x20 0 x528000 x528001) else (some true)
def laws_FnStacked.l1 : Nat → List Int → Int → Int → Int → List (List Int) → Option (Bool)
  | 0, _, _, _, _, _ => none
  | k + 1, x12, x20, x21, x528000, x528001 => if 0 ≤ x20 then (if x20 < (x528001.length : Int) then (if x21 < ((rd_L2 x528001 x20).length : Int) then (laws_FnStacked.l2 k x12 x20 x21 false 0 x528000 x528001) else (laws_FnStacked.l0 k x12 (wrap64 (x20 + 1)) x528000 x528001)) else (none)) else (none)
def laws_FnStacked.l2 : Nat → List Int → Int → Int → Bool → Int → Int → List (List Int) → Option (Bool)
  | 0, _, _, _, _, _, _, _ => none
  | k + 1, x12, x20, x21, x22, x23, x528000, x528001 => if x23 < x21 then (if x22 = true then (laws_FnStacked.l2 k x12 x20 x21 true (wrap64 (x23 + 1)) x528000 x528001) else (if 0 ≤ x20 then (if x20 < (x528001.length : Int) then (if 0 ≤ x23 then (if x23 < ((rd_L2 x528001 x20).length : Int) then (if 0 ≤ x21 then (if x21 < ((rd_L2 x528001 x20).length : Int) then (laws_FnStacked.l2 k x12 x20 x21 (decide ((rd (rd_L2 x528001 x20) x23) < (rd (rd_L2 x528001 x20) x21))) (wrap64 (x23 + 1)) x528000 x528001) else (none)) else (none)) else (none)) else (none)) else (none)) else (none))) else (if 0 ≤ x20 then (if x20 < (x528001.length : Int) then (if 0 ≤ x21 then (if x21 < ((rd_L2 x528001 x20).length : Int) then ((laws_b10Has.f k x12 (rd (rd_L2 x528001 x20) x21)).bind fun t570 => (if (x22 != t570) = true then (some false) else (laws_FnStacked.l1 k x12 x20 (wrap64 (x21 + 1)) x528000 x528001))) else (none)) else (none)) else (none)) else (none))
end
def laws_FnStacked.f (k : Nat) (l0 : List Int) (l1 : List Int) : Option (Bool) := (laws_b10Long.f l0 l1).bind fun t522 => (if t522 = true then (some true) else ((spec_B10Yard.f k l0).bind fun bt523 => ((impl_YardText.f k bt523.1 bt523.2).bind fun bt528 => ((impl_ReadYard.f k bt528.1).bind fun bt530 => ((impl_TopsOf.f k bt523.1 bt523.2).bind fun bt536 => ((impl_BlockersOf.f k bt523.1 bt523.2).bind fun bt540 => (if bt528.2 = true then (if bt530.2.2 = true then (if bt536.2 = true then (if bt540.2 = true then ((laws_b10Yards.f k bt530.1 bt530.2.1 bt523.1 bt523.2).bind fun t544 => (if t544 = true then (if (bt536.1.length : Int) = (bt523.2.length : Int) then ((laws_b10Lots.f k bt523.1 bt523.2).bind fun t545 => (laws_FnStacked.j0 k l1 bt540.1 (decide ((bt540.1.length : Int) > t545)) bt523.1 bt523.2)) else (laws_FnStacked.j0 k l1 bt540.1 true bt523.1 bt523.2)) else (laws_FnStacked.j0 k l1 bt540.1 true bt523.1 bt523.2))) else (laws_FnStacked.j0 k l1 bt540.1 true bt523.1 bt523.2)) else (laws_FnStacked.j0 k l1 bt540.1 true bt523.1 bt523.2)) else (laws_FnStacked.j0 k l1 bt540.1 true bt523.1 bt523.2)) else (laws_FnStacked.j0 k l1 bt540.1 true bt523.1 bt523.2))))))))
end Go.Proofs.YtibaiaenfeppcaaGreatDoor.Q

/- (a part of its own) Clearing a yard and running moves, in plain words. -/
namespace Go.Proofs.YtibaiaenfeppcaaGreatDoor.PuRM
open Go Go.RowKit Go.Proofs.YtibaiaenfeppcaaGreatDoorW.PrintWords Go.Proofs.YtibaiaenfeppcaaGreatDoorW.PrintLast Go.Proofs.YtibaiaenfeppcaaGreatDoorW.PrintMore Go.Proofs.YtibaiaenfeppcaaGreatDoor.Q Go.Proofs.YtibaiaenfeppcaaGreatDoor.PuY Go.Proofs.YtibaiaenfeppcaaGreatDoor.PuTO Go.Proofs.YtibaiaenfeppcaaGreatDoor.Yt Go.Proofs.YtibaiaenfeppcaaGreatDoor.Yq
set_option linter.unusedVariables false
theorem valid_of {h : Int} {xs : List (List Int)} (p1 : 1 ≤ h) (p2 : h ≤ 4) (p3 : 1 ≤ xs.length) (p4 : xs.length ≤ 4) (p5 : ∀ r ∈ xs, (r.length : Int) ≤ h) (p6 : xs.flatten.Nodup) (p7 : xs.flatten.length ≤ 7) (p8 : ∀ x ∈ xs.flatten, 0 ≤ x ∧ x ≤ 99) : Yv.valid h xs = true := by
  unfold Yv.valid Ha.inB Ha.areIn
  simp only [Bool.and_eq_true, decide_eq_true_eq, List.all_eq_true]
  refine ⟨⟨p1, p2⟩, ⟨by omega, by omega⟩, p5, p6, by omega, fun x hx => ?_⟩
  unfold Ha.inB
  simpa using p8 x hx
theorem flat_split (xs : List (List Int)) (i : Nat) (hi : i < xs.length) : xs.flatten = (xs.take i).flatten ++ (xs[i] ++ (xs.drop (i + 1)).flatten) := by
  conv => lhs; rw [← List.take_append_drop i xs, List.drop_eq_getElem_cons hi]
  rw [List.flatten_append, List.flatten_cons]
theorem flat_set (xs : List (List Int)) (i : Nat) (hi : i < xs.length) (r : List Int) : (xs.set i r).flatten = (xs.take i).flatten ++ (r ++ (xs.drop (i + 1)).flatten) := by
  have hi' : i < (xs.set i r).length := by rw [List.length_set]; exact hi
  rw [flat_split (xs.set i r) i hi', List.getElem_set_self, List.take_set_of_le (Nat.le_refl i), List.drop_set_of_lt (Nat.lt_succ_self i)]
/-- The lots behind a move are the same. -/
theorem move_perm (xs : List (List Int)) (i j : Nat) (hi : i < xs.length) (hj : j < xs.length) (hij : i ≠ j) (hp : 0 < xs[i].length) : (moveRows xs i j).flatten.Perm xs.flatten := by
  unfold moveRows
  rw [getD_at xs i hi, getD_at xs j hj, show (xs[i].length : Int) - 1 = ((xs[i].length - 1 : Nat) : Int) by omega, rd_at xs[i] _ (by omega)]
  obtain ⟨x, hx⟩ : ∃ x, x = xs[i][xs[i].length - 1]'(by omega) := ⟨_, rfl⟩
  rw [← hx]
  have hi2 : i < (xs.set j (xs[j] ++ [x])).length := by rw [List.length_set]; exact hi
  have e : (xs.set j (xs[j] ++ [x]))[i] = xs[i] := List.getElem_set_ne (fun h => hij h.symm) _
  have h1 : (xs.set j (xs[j] ++ [x])).flatten.Perm (x :: xs.flatten) := by
    rw [flat_set xs j hj, flat_split xs j hj]
    have : (xs[j] ++ [x] ++ (xs.drop (j + 1)).flatten) = xs[j] ++ x :: (xs.drop (j + 1)).flatten := by simp
    rw [this]
    have h2 : ((xs.take j).flatten ++ (xs[j] ++ x :: (xs.drop (j + 1)).flatten)) = ((xs.take j).flatten ++ xs[j]) ++ x :: (xs.drop (j + 1)).flatten := by simp
    rw [h2]
    refine List.perm_middle.trans ?_
    rw [List.append_assoc]
  have h3 : (x :: ((xs.set j (xs[j] ++ [x])).set i (xs[i].take (xs[i].length - 1))).flatten).Perm (xs.set j (xs[j] ++ [x])).flatten := by
    rw [flat_set _ i hi2, flat_split _ i hi2, e]
    have h4 : xs[i] = xs[i].take (xs[i].length - 1) ++ [x] := by
      conv => lhs; rw [← List.take_append_drop (xs[i].length - 1) xs[i]]
      congr 1
      rw [List.drop_eq_getElem_cons (by omega), List.drop_eq_nil_of_le (by omega), hx]
    conv => rhs; rw [h4]
    have h5 : ∀ (a b c : List Int), (a ++ (b ++ [x] ++ c)) = (a ++ b) ++ x :: c := fun a b c => by simp
    rw [h5, ← List.append_assoc]
    exact List.perm_middle.symm
  exact (List.perm_cons x).1 (h3.trans h1)
theorem move_is {h : Int} {xs ys : List (List Int)} {f t : Int} (hm : moveR h xs f t = some ys) : ∃ i j : Nat, f = (i : Int) ∧ t = (j : Int) ∧ ∃ hi : i < xs.length, ∃ hj : j < xs.length, i ≠ j ∧ 0 < xs[i].length ∧ (xs[j].length : Int) < h ∧ ys = moveRows xs i j := by
  unfold moveR at hm
  by_cases c : moveB h xs f t = true
  · rw [if_pos c] at hm
    injection hm with hm
    unfold moveB at c
    obtain ⟨a1, a2, a3, a4, a5, a6, a7⟩ := of_decide_eq_true c
    have hi : f.toNat < xs.length := by omega
    have hj : t.toNat < xs.length := by omega
    rw [getD_at xs _ hi] at a6
    rw [getD_at xs _ hj] at a7
    exact ⟨f.toNat, t.toNat, by omega, by omega, hi, hj, by omega, a6, a7, hm.symm⟩
  · rw [if_neg c] at hm; cases hm
theorem move_valid {h : Int} {xs ys : List (List Int)} {f t : Int} (hv : Yv.valid h xs = true) (hm : moveR h xs f t = some ys) : Yv.valid h ys = true := by
  obtain ⟨p1, p2, p3, p4, p5, p6, p7, p8⟩ := valid_parts hv
  obtain ⟨i, j, -, -, hi, hj, hij, hp, hr, rfl⟩ := move_is hm
  have hpm := move_perm xs i j hi hj hij hp
  have hl : (moveRows xs i j).length = xs.length := by unfold moveRows; rw [List.length_set, List.length_set]
  refine valid_of p1 p2 (by rw [hl]; exact p3) (by rw [hl]; exact p4) (fun r hr' => ?_) (hpm.nodup_iff.2 p6) (by rw [hpm.length_eq]; exact p7) (fun x hx => p8 x (hpm.subset hx))
  unfold moveRows at hr'
  rw [getD_at xs i hi, getD_at xs j hj] at hr'
  rcases List.mem_or_eq_of_mem_set hr' with hr' | rfl
  · rcases List.mem_or_eq_of_mem_set hr' with hr' | rfl
    · exact p5 r hr'
    · rw [List.length_append, List.length_singleton]; omega
  · have := p5 _ (List.getElem_mem hi); rw [List.length_take]; omega
end Go.Proofs.YtibaiaenfeppcaaGreatDoor.PuRM

/- Plain: a lot moved and moved back; the lots that lie above lesser ones. -/
namespace Go.Proofs.YtibaiaenfeppcaaGreatDoor.PuSm
open Go Go.RowKit Go.Proofs.YtibaiaenfeppcaaGreatDoorW.PrintWords Go.Proofs.YtibaiaenfeppcaaGreatDoor.Q Go.Proofs.YtibaiaenfeppcaaGreatDoor.PuY Go.Proofs.YtibaiaenfeppcaaGreatDoor.PuTO Go.Proofs.YtibaiaenfeppcaaGreatDoor.PuRM Go.Proofs.YtibaiaenfeppcaaGreatDoor.Yt Go.Proofs.YtibaiaenfeppcaaGreatDoor.Yq
set_option linter.unusedVariables false
set_option linter.unusedSimpArgs false
theorem rows_at {xs : List (List Int)} {i j n : Nat} (hi : i < xs.length) (hj : j < xs.length) (hij : i ≠ j) :
    (moveRows xs i j)[n]? = if n = i then some (xs[i].take (xs[i].length - 1)) else if n = j then some (xs[j] ++ [rd xs[i] ((xs[i].length : Int) - 1)]) else xs[n]? := by
  unfold moveRows
  rw [getD_at xs i hi, getD_at xs j hj]
  by_cases h1 : n = i
  · subst h1
    rw [if_pos rfl, List.getElem?_set_self (by rw [List.length_set]; exact hi)]
  · rw [if_neg h1, List.getElem?_set_ne (fun h => h1 h.symm)]
    by_cases h2 : n = j
    · subst h2
      rw [if_pos rfl, List.getElem?_set_self hj]
    · rw [if_neg h2, List.getElem?_set_ne (fun h => h2 h.symm)]
theorem rows_len (xs : List (List Int)) (i j : Nat) : (moveRows xs i j).length = xs.length := by unfold moveRows; rw [List.length_set, List.length_set]
theorem take_last (a : List Int) (h : 0 < a.length) : a.take (a.length - 1) ++ [rd a ((a.length : Int) - 1)] = a := by
  have e : rd a ((a.length : Int) - 1) = a[a.length - 1] := by
    rw [show (a.length : Int) - 1 = ((a.length - 1 : Nat) : Int) by omega, rd_at _ _ (by omega)]
  rw [e, List.take_append_getElem (by omega)]
  rw [show a.length - 1 + 1 = a.length by omega, List.take_length]
theorem rd_last (b : List Int) (x : Int) : rd (b ++ [x]) (((b ++ [x]).length : Int) - 1) = x := by
  rw [List.length_append, List.length_singleton, show ((b.length + 1 : Nat) : Int) - 1 = ((b.length : Nat) : Int) by omega, rd_at _ _ (by simp)]
  simp
theorem back_and_forth (xs : List (List Int)) (i j : Nat) (hi : i < xs.length) (hj : j < xs.length) (hij : i ≠ j) (hp : 0 < xs[i].length) : moveRows (moveRows xs i j) j i = xs := by
  have hl := rows_len xs i j
  have hi' : i < (moveRows xs i j).length := by rw [hl]; exact hi
  have hj' : j < (moveRows xs i j).length := by rw [hl]; exact hj
  have ei : (moveRows xs i j)[i] = xs[i].take (xs[i].length - 1) := by
    have := rows_at (n := i) hi hj hij
    rw [if_pos rfl, List.getElem?_eq_getElem hi'] at this
    injection this
  have ej : (moveRows xs i j)[j] = xs[j] ++ [rd xs[i] ((xs[i].length : Int) - 1)] := by
    have := rows_at (n := j) hi hj hij
    rw [if_neg (fun h => hij h.symm), if_pos rfl, List.getElem?_eq_getElem hj'] at this
    injection this
  apply List.ext_getElem?
  intro n
  rw [rows_at (n := n) hj' hi' (fun h => hij h.symm), ei, ej, rd_last, take_last _ hp]
  by_cases h1 : n = j
  · subst h1
    rw [if_pos rfl, List.length_append, List.length_singleton, Nat.add_sub_cancel, List.take_left' rfl, List.getElem?_eq_getElem hj]
  · rw [if_neg h1]
    by_cases h2 : n = i
    · subst h2
      rw [if_pos rfl, List.getElem?_eq_getElem hi]
    · rw [if_neg h2, rows_at (n := n) hi hj hij, if_neg h2, if_neg h1]
/-- A move that can be made can be made back, and then all is as it was. -/
theorem move_back {h : Int} {xs ys : List (List Int)} {f t : Int} (hv : Yv.valid h xs = true) (hm : moveR h xs f t = some ys) : moveR h ys t f = some xs := by
  obtain ⟨i, j, rfl, rfl, hi, hj, hij, hp, hr, rfl⟩ := move_is hm
  obtain ⟨p1, p2, p3, p4, p5, p6, p7, p8⟩ := valid_parts hv
  have hl := rows_len xs i j
  have hi' : i < (moveRows xs i j).length := by rw [hl]; exact hi
  have hj' : j < (moveRows xs i j).length := by rw [hl]; exact hj
  have ei : (moveRows xs i j)[i] = xs[i].take (xs[i].length - 1) := by
    have := rows_at (n := i) hi hj hij
    rw [if_pos rfl, List.getElem?_eq_getElem hi'] at this
    injection this
  have ej : (moveRows xs i j)[j] = xs[j] ++ [rd xs[i] ((xs[i].length : Int) - 1)] := by
    have := rows_at (n := j) hi hj hij
    rw [if_neg (fun h => hij h.symm), if_pos rfl, List.getElem?_eq_getElem hj'] at this
    injection this
  have hh := p5 _ (List.getElem_mem hi)
  unfold moveR
  rw [moveB_yes hj' hi' (fun h => hij h.symm) (by rw [ej]; simp) (by rw [ei, List.length_take]; omega), if_pos rfl, Int.toNat_natCast, Int.toNat_natCast, back_and_forth xs i j hi hj hij hp]
/-! blockers -/
theorem blk_mem (x : Int) : ∀ (l pre : List Int), x ∈ blk pre l ↔ ∃ k, ∃ hk : k < l.length, l[k] = x ∧ (pre ++ l.take k).any (fun y => decide (y < x)) = true := by
  intro l
  induction l with
  | nil => intro pre; simp [blk]
  | cons a t ih =>
    intro pre
    unfold blk
    rw [List.mem_append, ih]
    constructor
    · rintro (h | ⟨k, hk, e, h⟩)
      · by_cases c : pre.any (fun y => decide (y < a)) = true
        · rw [if_pos c] at h
          obtain rfl : x = a := by simpa using h
          exact ⟨0, by simp, rfl, by simpa using c⟩
        · rw [if_neg c] at h; cases h
      · exact ⟨k + 1, by simp; omega, by simpa using e, by simpa using h⟩
    · rintro ⟨k, hk, e, h⟩
      cases k with
      | zero =>
        left
        have e' : a = x := e
        subst e'
        rw [if_pos (by simpa using h)]; simp
      | succ k =>
        right
        refine ⟨k, by simpa using hk, by simpa using e, by simpa using h⟩
theorem flat_two (xs : List (List Int)) (hn : xs.flatten.Nodup) (i i' : Nat) (hi : i < xs.length) (hi' : i' < xs.length) (x : Int) (h1 : x ∈ xs[i]) (h2 : x ∈ xs[i']) : i = i' := by
  have key : ∀ (a b : Nat) (ha : a < xs.length) (hb : b < xs.length), a < b → x ∈ xs[a] → x ∈ xs[b] → False := by
    intro a b ha hb hab m1 m2
    rw [flat_split xs a ha] at hn
    have h3 := (List.nodup_append.1 (List.nodup_append.1 hn).2.1).2.2
    refine h3 x m1 x ?_ rfl
    refine List.mem_flatten.2 ⟨xs[b], ?_, m2⟩
    rw [List.mem_iff_getElem]
    exact ⟨b - (a + 1), by rw [List.length_drop]; omega, by rw [List.getElem_drop]; congr 1; omega⟩
  rcases Nat.lt_trichotomy i i' with h | h | h
  · exact (key i i' hi hi' h h1 h2).elim
  · exact h
  · exact (key i' i hi' hi h h2 h1).elim
theorem blk_at {h : Int} {xs : List (List Int)} (hv : Yv.valid h xs = true) (i k : Nat) (hi : i < xs.length) (hk : k < xs[i].length) : (xs[i][k] ∈ blkR h xs) ↔ (xs[i].take k).any (fun y => decide (y < xs[i][k])) = true := by
  obtain ⟨p1, p2, p3, p4, p5, p6, p7, p8⟩ := valid_parts hv
  have hs : xs[i][k] ∈ blkR h xs ↔ xs[i][k] ∈ blkAll xs := by
    unfold blkR
    rw [if_pos hv]
    unfold Sv.srt
    exact (List.mergeSort_perm _ _).mem_iff
  rw [hs]
  unfold blkAll
  constructor
  · intro hm
    obtain ⟨b, hb, hx⟩ := List.mem_flatten.1 hm
    obtain ⟨r, hr, rfl⟩ := List.mem_map.1 hb
    obtain ⟨k', hk', e, h2⟩ := (blk_mem _ _ _).1 hx
    obtain ⟨i', hi', rfl⟩ := List.mem_iff_getElem.1 hr
    have e1 := flat_two xs p6 i i' hi hi' xs[i][k] (List.getElem_mem hk) (by rw [← e]; exact List.getElem_mem hk')
    subst e1
    have hn : xs[i].Nodup := p6.sublist (List.sublist_flatten_of_mem (List.getElem_mem hi))
    have e2 : k' = k := (List.getElem_inj hn).1 e
    subst e2
    simpa using h2
  · intro h2
    refine List.mem_flatten.2 ⟨blk [] xs[i], List.mem_map.2 ⟨xs[i], List.getElem_mem hi, rfl⟩, (blk_mem _ _ _).2 ⟨k, hk, rfl, ?_⟩⟩
    simpa using h2
theorem has_loop (l : List Int) (x : Int) (hl : l.length ≤ 1000) : ∀ (d k i : Nat), i + d = l.length → d < k → laws_b10Has.l0 k l x (i : Int) = some (decide (x ∈ l.drop i)) := by
  intro d
  induction d with
  | zero =>
    intro k i hi hk
    obtain ⟨k, rfl⟩ : ∃ m, k = m + 1 := ⟨k - 1, by omega⟩
    simp only [laws_b10Has.l0]
    rw [if_neg (by omega), List.drop_eq_nil_of_le (by omega)]; simp
  | succ d ih =>
    intro k i hi hk
    obtain ⟨k, rfl⟩ : ∃ m, k = m + 1 := ⟨k - 1, by omega⟩
    have hlt : i < l.length := by omega
    simp only [laws_b10Has.l0]
    rw [if_pos (by omega), if_pos (by omega), rd_at l i hlt, List.drop_eq_getElem_cons hlt]
    by_cases h : l[i] = x
    · rw [if_pos h]; simp [h]
    · rw [if_neg h, show wrap64 ((i : Int) + 1) = ((i + 1 : Nat) : Int) by unfold wrap64; omega, ih k (i + 1) (by omega) (by omega)]
      have hne : ¬ x = l[i] := fun e => h e.symm
      congr 1
      exact decide_eq_decide.2 ⟨fun hm => List.mem_cons_of_mem _ hm, fun hm => (List.mem_cons.1 hm).resolve_left hne⟩
theorem has_eq (l : List Int) (x : Int) (hl : l.length ≤ 1000) (k : Nat) (hk : l.length < k) : laws_b10Has.f k l x = some (decide (x ∈ l)) := by
  have := has_loop l x hl l.length k 0 (by omega) hk
  rw [List.drop_zero] at this
  exact this
end Go.Proofs.YtibaiaenfeppcaaGreatDoor.PuSm

-- made by a patched copy of print.sh: this session's own
namespace Go.Proofs.YtibaiaenfeppcaaGreatDoor.Q
open Go.RowKit Go.Proofs.YtibaiaenfeppcaaGreatDoorW.PrintWords Go.Proofs.YtibaiaenfeppcaaGreatDoorW.PrintLast Go.Proofs.YtibaiaenfeppcaaGreatDoorW.PrintMore
attribute [local go_sem] max2_int min2_int max_two min_two max_three min_three max_four min_four   -- for this text's walks alone
set_option linter.unusedVariables false
set_option linter.unusedSimpArgs false

/-! ### spec_l01Dec: function 40 -/
mutual
def spec_l01Dec.j0 : Nat → ByteArray → Int → Option (ByteArray)
  | 0, _, _ => none
  | k + 1, x3, x4 => spec_l01Dec.l0 k x3 (wrap64 (Int.tdiv x4 10)) (strOfNums (([(wrap64 (48 - (Int.tmod x4 10))) % 256] : List Int)))
def spec_l01Dec.l0 : Nat → ByteArray → Int → ByteArray → Option (ByteArray)
  | 0, _, _, _ => none
  | k + 1, x3, x4, x5 => if x4 < 0 then ((some (([(wrap64 (48 - (Int.tmod x4 10))) % 256] : List Int) : List Int)).bind fun y104 => (if (strOfNums y104).size + x5.size ≤ 9223372036854775807 then (spec_l01Dec.l0 k x3 (wrap64 (Int.tdiv x4 10)) ((strOfNums y104) ++ x5)) else (none))) else (if x3.size + x5.size ≤ 9223372036854775807 then (some (x3 ++ x5)) else (none))
end
def spec_l01Dec.f (k : Nat) (a0 : Int) : Option (ByteArray) := if a0 < 0 then (spec_l01Dec.j0 k (⟨#[45]⟩ : ByteArray) a0) else (spec_l01Dec.j0 k (⟨#[]⟩ : ByteArray) (wrap64 (-a0)))
end Go.Proofs.YtibaiaenfeppcaaGreatDoor.Q

-- made by a patched copy of print.sh: this session's own
namespace Go.Proofs.YtibaiaenfeppcaaGreatDoor.Q
open Go.RowKit Go.Proofs.YtibaiaenfeppcaaGreatDoorW.PrintWords Go.Proofs.YtibaiaenfeppcaaGreatDoorW.PrintLast Go.Proofs.YtibaiaenfeppcaaGreatDoorW.PrintMore
attribute [local go_sem] max2_int min2_int max_two min_two max_three min_three max_four min_four   -- for this text's walks alone
set_option linter.unusedVariables false
set_option linter.unusedSimpArgs false

/-! ### spec_l01Value: function 20 -/
mutual
def spec_l01Value.j0 : Nat → ByteArray → Bool → Option (Int × Bool)
  | 0, _, _ => none
  | k + 1, x0, x14 => if x14 = true then (some (0, false)) else (if 0 < (x0.size : Int) then (if (bt x0 0) = 45 then (spec_l01Value.j1 k x0 0 1) else (spec_l01Value.j1 k x0 0 0)) else (none))
def spec_l01Value.j1 : Nat → ByteArray → Int → Int → Option (Int × Bool)
  | 0, _, _, _ => none
  | k + 1, x0, x4, x5 => spec_l01Value.l0 k x0 x4 x5 x5
def spec_l01Value.l0 : Nat → ByteArray → Int → Int → Int → Option (Int × Bool)
  | 0, _, _, _, _ => none
  | k + 1, x0, x4, x5, x6 => if x6 < (x0.size : Int) then (if 0 ≤ x6 then (if (bt x0 x6) < 48 then (some (0, false)) else (if (bt x0 x6) > 57 then (some (0, false)) else (spec_l01Value.l0 k x0 (wrap64 ((wrap64 (10 * x4)) + (((bt x0 x6) - 48) % 256))) x5 (wrap64 (x6 + 1))))) else (none)) else (if x5 = 1 then (spec_l01Value.j3 k x0 (wrap64 (-x4))) else (spec_l01Value.j3 k x0 x4))
def spec_l01Value.j3 : Nat → ByteArray → Int → Option (Int × Bool)
  | 0, _, _ => none
  | k + 1, x0, x4 => (spec_l00In.f x4 (-1000000000) 1000000000).bind fun t107 => (if t107 = true then ((spec_l01Dec.f k x4).bind fun t108 => (if t108.toList = x0.toList then (some (x4, true)) else (some (0, false)))) else (some (0, false)))
end
def spec_l01Value.f (k : Nat) (a0 : ByteArray) : Option (Int × Bool) := if (a0.size : Int) = 0 then (spec_l01Value.j0 k a0 true) else (spec_l01Value.j0 k a0 (decide ((a0.size : Int) > 11)))
end Go.Proofs.YtibaiaenfeppcaaGreatDoor.Q

-- made by a patched copy of print.sh: this session's own
namespace Go.Proofs.YtibaiaenfeppcaaGreatDoor.Q
open Go.RowKit Go.Proofs.YtibaiaenfeppcaaGreatDoorW.PrintWords Go.Proofs.YtibaiaenfeppcaaGreatDoorW.PrintLast Go.Proofs.YtibaiaenfeppcaaGreatDoorW.PrintMore
attribute [local go_sem] max2_int min2_int max_two min_two max_three min_three max_four min_four   -- for this text's walks alone
set_option linter.unusedVariables false
set_option linter.unusedSimpArgs false

/-! ### spec_l01Numbers: function 21 -/
mutual
def spec_l01Numbers.l0 : Nat → ByteArray → List Int → Int → Int → Option (List Int × Bool)
  | 0, _, _, _, _ => none
  | k + 1, x0, x4, x5, x6 => if x6 ≤ (x0.size : Int) then (if x6 < (x0.size : Int) then (if 0 ≤ x6 then (spec_l01Numbers.j1 k x0 x4 x5 x6 ((bt x0 x6) != 44)) else (none)) else (spec_l01Numbers.j1 k x0 x4 x5 x6 false)) else (some (x4, true))
def spec_l01Numbers.j1 : Nat → ByteArray → List Int → Int → Int → Bool → Option (List Int × Bool)
  | 0, _, _, _, _, _ => none
  | k + 1, x0, x4, x5, x6, x28 => if x28 = true then (spec_l01Numbers.l0 k x0 x4 x5 (wrap64 (x6 + 1))) else (if 0 ≤ x5 then (if x5 ≤ x6 then (if x6 ≤ (x0.size : Int) then ((spec_l01Value.f k (x0.extract (x5 : Int).toNat (x6 : Int).toNat)).bind fun bt115 => (if bt115.2 = true then (if (x4.length : Int) = 64 then (some (([] : List Int), false)) else (if x4.length < 17592186044416 then (spec_l01Numbers.l0 k x0 (x4 ++ [bt115.1]) (wrap64 (x6 + 1)) (wrap64 (x6 + 1))) else (none))) else (some (([] : List Int), false)))) else (none)) else (none)) else (none))
end
def spec_l01Numbers.f (k : Nat) (a0 : ByteArray) : Option (List Int × Bool) := if a0.toList = ([45] : List UInt8) then (some ((([] : List Int)), true)) else (spec_l01Numbers.l0 k a0 (([] : List Int)) 0 0)
end Go.Proofs.YtibaiaenfeppcaaGreatDoor.Q

/- spec_l09Yard at a block that may lie ahead of what its slices hold (made out of the printed contract). -/
namespace Go.Proofs.YtibaiaenfeppcaaGreatDoor.Q
open Go.RowKit Go.Proofs.YtibaiaenfeppcaaGreatDoorW.PrintWords Go.Proofs.YtibaiaenfeppcaaGreatDoorW.PrintLast Go.Proofs.YtibaiaenfeppcaaGreatDoorW.PrintMore
attribute [local go_sem] max2_int min2_int max_two min_two max_three min_three max_four min_four   -- for this text's walks alone
set_option linter.unusedVariables false
set_option linter.unusedSimpArgs false
def IsT24 (w0 W : World) (g : Nat) (f0 : Int) (f1 : List (List Int)) : Prop := ∃ A1 c1, W.heap[g]? = some (.cells #[.int .i64 f0, .slice A1 f1.length c1] 24 (0, 0)) ∧ True ∧ Kd.C (Kd.slice 2 (Kd.int .i64)) w0 A1 f1.length f1
theorem IsT24.grown {w0 W : World} {g : Nat} {f0 : Int} {f1 : List (List Int)} {W1 : World} {row : Option Nat} (h : IsT24 w0 W g f0 f1) (hw : W.grownBy W1 row) (hne : some g ≠ row) : IsT24 w0 W1 g f0 f1 := by
  obtain ⟨A1, c1, hb, hg, hr1⟩ := h
  exact ⟨A1, c1, blk_grown hb hw hne, hg, hr1⟩
theorem IsT24.kept {w0 W : World} {g : Nat} {f0 : Int} {f1 : List (List Int)} {W1 : World} {S : Nat → Prop} (h : IsT24 w0 W g f0 f1) (hk : Kept W W1 S) (hne : ¬ S g) : IsT24 w0 W1 g f0 f1 := by
  obtain ⟨A1, c1, hb, hg, hr1⟩ := h
  exact ⟨A1, c1, blk_kept hb hk hne, hg, hr1⟩
theorem IsT24.below {w0 W : World} {g : Nat} {f0 : Int} {f1 : List (List Int)} {W1 : World} (h : IsT24 w0 W g f0 f1) (hw : Below W.heap.size W W1) : IsT24 w0 W1 g f0 f1 := h.grown (grown_of_below hw none) (by simp)
theorem IsT24.alloc {w0 W : World} {g : Nat} {f0 : Int} {f1 : List (List Int)} (h : IsT24 w0 W g f0 f1) (o : Obj) : IsT24 w0 (W.alloc o) g f0 f1 := h.below (below_alloc (Below.refl _ _) o)
theorem IsT24.drewN {w0 W : World} {g : Nat} {f0 : Int} {f1 : List (List Int)} (h : IsT24 w0 W g f0 f1) (m : Nat) : IsT24 w0 (W.drewN m) g f0 f1 := h
theorem IsT24.drew {w0 W : World} {g : Nat} {f0 : Int} {f1 : List (List Int)} (h : IsT24 w0 W g f0 f1) : IsT24 w0 W.drew g f0 f1 := h
theorem IsT24.apart {w0 W : World} {g : Nat} {f0 : Int} {f1 : List (List Int)} {α : Type} {d : Kd α} {e : Nat} {base : Nat} {ok : Nat → Prop} {v : Value} {xs : List α} (h : IsT24 w0 W g f0 f1) (ho : d.R e W base ok v xs) (ht : ∀ q, q ∈ e :: d.E → q ≠ 24) : d.R e W base (fun k => ok k ∧ k ≠ g) v xs := by
  obtain ⟨A1, c1, hb, hg, hr1⟩ := h
  exact Kd.R_types ho hb ht
theorem IsT24.own_ne {w0 W : World} {g : Nat} {f0 : Int} {f1 : List (List Int)} {α : Type} {d : Kd α} {e : Nat} {base : Nat} {ok : Nat → Prop} {v : Value} {xs : List α} (h : IsT24 w0 W g f0 f1) (ho : d.R e W base ok v xs) (ht : e ≠ 24) : some g ≠ v.ownBlock := by
  obtain ⟨A1, c1, hb, hg, hr1⟩ := h
  exact Kd.R_ne ho hb ht
theorem IsT24.apartS {w0 W : World} {g : Nat} {f0 : Int} {f1 : List (List Int)} {α : Type} {d : Kd α} {e : Nat} {base : Nat} {ok : Nat → Prop} {v : Value} {xs : List α} (h : IsT24 w0 W g f0 f1) (ho : d.S e W base ok v xs) (ht : ∀ q, q ∈ e :: d.E → q ≠ 24) : d.S e W base (fun k => ok k ∧ k ≠ g) v xs := by
  obtain ⟨A1, c1, hb, hg, hr1⟩ := h
  exact Kd.S_types ho hb ht
theorem IsT24.own_neS {w0 W : World} {g : Nat} {f0 : Int} {f1 : List (List Int)} {α : Type} {d : Kd α} {e : Nat} {base : Nat} {ok : Nat → Prop} {v : Value} {xs : List α} (h : IsT24 w0 W g f0 f1) (ho : d.S e W base ok v xs) (ht : e ≠ 24) : some g ≠ v.ownBlock := by
  obtain ⟨A1, c1, hb, hg, hr1⟩ := h
  exact Kd.S_ne ho hb ht
theorem IsT24.lt {w0 W : World} {g : Nat} {f0 : Int} {f1 : List (List Int)} (h : IsT24 w0 W g f0 f1) : g < W.heap.size := by
  obtain ⟨A1, c1, hb, hg, hr1⟩ := h
  exact blk_lt hb
theorem IsT24.ne_blk {w0 W : World} {g : Nat} {f0 : Int} {f1 : List (List Int)} {a : Nat} {cs : Array Value} {t : TypeId} {fr : Nat × Nat} (h : IsT24 w0 W g f0 f1) (hb2 : W.heap[a]? = some (.cells cs t fr)) (ht : t ≠ 24) : g ≠ a := by
  obtain ⟨A1, c1, hb, hg, hr1⟩ := h
  rintro rfl
  rw [hb] at hb2
  injection hb2 with hb2
  injection hb2 with _ ht2
  exact ht ht2.symm
theorem IsT24.far {w0 W : World} {g : Nat} {f0 : Int} {f1 : List (List Int)} {p : Addr} (h : IsT24 w0 W g f0 f1) (hne : g ≠ p.block) (u : Value) : IsT24 w0 (W.setCell p u) g f0 f1 := by
  obtain ⟨A1, c1, hb, hg, hr1⟩ := h
  exact ⟨A1, c1, blk_far hb hne u, hg, hr1⟩
end Go.Proofs.YtibaiaenfeppcaaGreatDoor.Q

-- made by a patched copy of print.sh: this session's own
namespace Go.Proofs.YtibaiaenfeppcaaGreatDoor.Q
open Go.RowKit Go.Proofs.YtibaiaenfeppcaaGreatDoorW.PrintWords Go.Proofs.YtibaiaenfeppcaaGreatDoorW.PrintLast Go.Proofs.YtibaiaenfeppcaaGreatDoorW.PrintMore
attribute [local go_sem] max2_int min2_int max_two min_two max_three min_three max_four min_four   -- for this text's walks alone
set_option linter.unusedVariables false
set_option linter.unusedSimpArgs false

/-! ### spec_l01Text: function 42 -/
def spec_l01Text.l0 : Nat → List Int → ByteArray → Int → Option (ByteArray)
  | 0, _, _, _ => none
  | k + 1, x0, x3, x4 => if x4 < (x0.length : Int) then (if 0 ≤ x4 then ((spec_l01Dec.f k (rd x0 x4)).bind fun t137 => (if 1 + t137.size ≤ 9223372036854775807 then (if x3.size + ((⟨#[44]⟩ : ByteArray) ++ t137).size ≤ 9223372036854775807 then (spec_l01Text.l0 k x0 (x3 ++ ((⟨#[44]⟩ : ByteArray) ++ t137)) (wrap64 (x4 + 1))) else (none)) else (none))) else (none)) else (some x3)
def spec_l01Text.f (k : Nat) (l0 : List Int) : Option (ByteArray) := if (l0.length : Int) = 0 then (some (⟨#[45]⟩ : ByteArray)) else (if 0 < (l0.length : Int) then ((spec_l01Dec.f k (rd l0 0)).bind fun t135 => (spec_l01Text.l0 k l0 t135 1)) else (none))
end Go.Proofs.YtibaiaenfeppcaaGreatDoor.Q

-- made by a patched copy of print.sh: this session's own
namespace Go.Proofs.YtibaiaenfeppcaaGreatDoor.Q
open Go.RowKit Go.Proofs.YtibaiaenfeppcaaGreatDoorW.PrintWords Go.Proofs.YtibaiaenfeppcaaGreatDoorW.PrintLast Go.Proofs.YtibaiaenfeppcaaGreatDoorW.PrintMore
attribute [local go_sem] max2_int min2_int max_two min_two max_three min_three max_four min_four   -- for this text's walks alone
set_option linter.unusedVariables false
set_option linter.unusedSimpArgs false

/-! ### spec_l09Text: function 23 -/
def spec_l09Text.l0 : Nat → ByteArray → Int → Int → List (List Int) → Option (ByteArray × Int)
  | 0, _, _, _, _ => none
  | k + 1, x3, x4, x1000, x1001 => if x4 < (x1001.length : Int) then (if x4 > 0 then (if x3.size + 1 ≤ 9223372036854775807 then (if 0 ≤ x4 then ((spec_l01Text.f k (rd_L2 x1001 x4)).bind fun t140 => (if (x3 ++ (⟨#[124]⟩ : ByteArray)).size + t140.size ≤ 9223372036854775807 then (spec_l09Text.l0 k ((x3 ++ (⟨#[124]⟩ : ByteArray)) ++ t140) (wrap64 (x4 + 1)) x1000 x1001) else (none))) else (none)) else (none)) else (if 0 ≤ x4 then ((spec_l01Text.f k (rd_L2 x1001 x4)).bind fun t142 => (if x3.size + t142.size ≤ 9223372036854775807 then (spec_l09Text.l0 k (x3 ++ t142) (wrap64 (x4 + 1)) x1000 x1001) else (none))) else (none))) else (some (x3, x1000))
def spec_l09Text.f (k : Nat) (s0_0 : Int) (s0_1 : List (List Int)) : Option (ByteArray × Int) := (spec_l01Dec.f k s0_0).bind fun t138 => (if t138.size + 1 ≤ 9223372036854775807 then (spec_l09Text.l0 k (t138 ++ (⟨#[58]⟩ : ByteArray)) 0 s0_0 s0_1) else (none))
end Go.Proofs.YtibaiaenfeppcaaGreatDoor.Q

-- mended

/- spec_l09Text at a block that may lie ahead of what its slices hold (made out of the printed contract). -/
namespace Go.Proofs.YtibaiaenfeppcaaGreatDoor.Q
open Go.RowKit Go.Proofs.YtibaiaenfeppcaaGreatDoorW.PrintWords Go.Proofs.YtibaiaenfeppcaaGreatDoorW.PrintLast Go.Proofs.YtibaiaenfeppcaaGreatDoorW.PrintMore
attribute [local go_sem] max2_int min2_int max_two min_two max_three min_three max_four min_four   -- for this text's walks alone
set_option linter.unusedVariables false
set_option linter.unusedSimpArgs false
end Go.Proofs.YtibaiaenfeppcaaGreatDoor.Q

/- The reference's ReadYard, walked (out of the print of the same code with both calls handed the yard itself). -/
namespace Go.Proofs.YtibaiaenfeppcaaGreatDoor.Q
open Go.RowKit Go.Proofs.YtibaiaenfeppcaaGreatDoorW.PrintWords Go.Proofs.YtibaiaenfeppcaaGreatDoorW.PrintLast Go.Proofs.YtibaiaenfeppcaaGreatDoorW.PrintMore
attribute [local go_sem] max2_int min2_int max_two min_two max_three min_three max_four min_four
set_option linter.unusedVariables false
set_option linter.unusedSimpArgs false
/-- Whether the reference takes a yard for valid. -/
def yardB.f (k : Nat) (h : Int) (xs : List (List Int)) : Option Bool := (spec_l09Yard.f k h xs).bind fun b => some b.1
/-- The reference's text of a yard. -/
def yardT.f (k : Nat) (h : Int) (xs : List (List Int)) : Option ByteArray := (spec_l09Text.f k h xs).bind fun b => some b.1
/-! ### spec_ReadYard: function 5 -/
mutual
def spec_ReadYard.j1 : Nat → ByteArray → Int → Option (Int × (List (List Int)) × Bool)
  | 0, _, _ => none
  | k + 1, x0, x4 => if x4 = (x0.size : Int) then (some (0, ([] : List (List Int)), false)) else (if 0 ≤ x4 then (if x4 ≤ (x0.size : Int) then ((spec_l01Value.f k (x0.extract 0 (x4 : Int).toNat)).bind fun bt308 => (spec_ReadYard.l1 k x0 (wrap64 (x4 + 1)) (wrap64 (x4 + 1)) bt308.1 ([] : List (List Int)))) else (none)) else (none))
def spec_ReadYard.l1 : Nat → ByteArray → Int → Int → Int → List (List Int) → Option (Int × (List (List Int)) × Bool)
  | 0, _, _, _, _, _ => none
  | k + 1, x0, x6, x7, x308000, x308001 => if x7 ≤ (x0.size : Int) then (if x7 < (x0.size : Int) then (if 0 ≤ x7 then (spec_ReadYard.j3 k x0 x6 x7 ((bt x0 x7) != 124) x308000 x308001) else (none)) else (spec_ReadYard.j3 k x0 x6 x7 false x308000 x308001)) else ((yardB.f k x308000 x308001).bind fun t317 => (if t317 = true then ((yardT.f k x308000 x308001).bind fun t318 => (if t318.toList = x0.toList then (some (x308000, x308001, true)) else (some (0, ([] : List (List Int)), false)))) else (some (0, ([] : List (List Int)), false))))
def spec_ReadYard.j3 : Nat → ByteArray → Int → Int → Bool → Int → List (List Int) → Option (Int × (List (List Int)) × Bool)
  | 0, _, _, _, _, _, _ => none
  | k + 1, x0, x6, x7, x54, x308000, x308001 => if x54 = true then (spec_ReadYard.l1 k x0 x6 (wrap64 (x7 + 1)) x308000 x308001) else (if 0 ≤ x6 then (if x6 ≤ x7 then (if x7 ≤ (x0.size : Int) then ((spec_l01Numbers.f k (x0.extract (x6 : Int).toNat (x7 : Int).toNat)).bind fun bt310 => (if bt310.2 = true then (if (x308001.length : Int) = 4 then (some (0, ([] : List (List Int)), false)) else (if x308001.length < 5864062014805 then (spec_ReadYard.l1 k x0 (wrap64 (x7 + 1)) (wrap64 (x7 + 1)) x308000 (x308001 ++ [bt310.1])) else (none))) else (some (0, ([] : List (List Int)), false)))) else (none)) else (none)) else (none))
def spec_ReadYard.l0 : Nat → ByteArray → Int → Option (Int × (List (List Int)) × Bool)
  | 0, _, _ => none
  | k + 1, x0, x4 => if x4 < (x0.size : Int) then (if 0 ≤ x4 then (if (bt x0 x4) = 58 then (spec_ReadYard.j1 k x0 x4) else (spec_ReadYard.l0 k x0 (wrap64 (x4 + 1)))) else (none)) else (spec_ReadYard.j1 k x0 x4)
end
def spec_ReadYard.f (k : Nat) (a0 : ByteArray) : Option (Int × (List (List Int)) × Bool) := spec_ReadYard.l0 k a0 0
end Go.Proofs.YtibaiaenfeppcaaGreatDoor.Q

namespace Go.Proofs.YtibaiaenfeppcaaGreatDoor.PuD
open Go.RowKit Go.Proofs.YtibaiaenfeppcaaGreatDoorW.PrintWords Go.Proofs.YtibaiaenfeppcaaGreatDoorW.PrintLast Go.Proofs.YtibaiaenfeppcaaGreatDoorW.PrintMore Go.Proofs.YtibaiaenfeppcaaGreatDoor.Q
def txt (l : List UInt8) : ByteArray := ⟨l.toArray⟩
theorem txt_append (a b : List UInt8) : txt a ++ txt b = txt (a ++ b) := by
  apply ByteArray.ext; simp [txt, ByteArray.data_append]
theorem txt_size (a : List UInt8) : (txt a).size = a.length := by simp [txt, ByteArray.size]
theorem decDigits_len (u : Nat) : ∀ d, u < 10 ^ (d + 1) → (Lib.decDigits u).length ≤ d + 1 := by
  intro d
  induction d generalizing u with
  | zero => intro h; rw [Lib.decDigits, dif_pos (by simpa using h)]; simp
  | succ d ih =>
    intro h
    rw [Lib.decDigits]
    split
    · simp
    · have := ih (u / 10) (by rw [Nat.pow_succ] at h; omega)
      simp only [List.length_append, List.length_singleton]; omega
theorem itoa_len (n : Int) (h0 : -9223372036854775808 ≤ n) (h1 : n ≤ 9223372036854775807) : (Lib.itoa n).length ≤ 20 := by
  unfold Lib.itoa
  split
  · have := decDigits_len n.natAbs 18 (by omega)
    simp only [List.length_cons]; omega
  · have := decDigits_len n.toNat 18 (by omega)
    omega
end Go.Proofs.YtibaiaenfeppcaaGreatDoor.PuD

/- Numbers that stand in a text: both programs read the same ones. -/
namespace Go.Proofs.YtibaiaenfeppcaaGreatDoor.PuV
open Go.RowKit Go.Proofs.YtibaiaenfeppcaaGreatDoorW.PrintWords Go.Proofs.YtibaiaenfeppcaaGreatDoor.Q Go.Proofs.YtibaiaenfeppcaaGreatDoor.PuD Go.Proofs.YtibaiaenfeppcaaGreatDoor.Sp
theorem wrap_id {x : Int} (h1 : -9223372036854775808 ≤ x) (h2 : x ≤ 9223372036854775807) : wrap64 x = x := by unfold wrap64; omega
def isD (c : UInt8) : Bool := decide (48 ≤ c.toNat) && decide (c.toNat ≤ 57)
def dval (acc : Nat) (l : List UInt8) : Nat := l.foldl (fun a c => a * 10 + (c.toNat - 48)) acc
theorem val_nil (acc : Nat) : dval acc [] = acc := by simp only [dval, List.foldl_nil]
theorem val_cons (acc : Nat) (c : UInt8) (r : List UInt8) : dval acc (c :: r) = dval (acc * 10 + (c.toNat - 48)) r := by simp only [dval, List.foldl_cons]
theorem val_append (acc : Nat) (a b : List UInt8) : dval acc (a ++ b) = dval (dval acc a) b := by
  simp only [dval, List.foldl_append]
theorem val_ge (acc : Nat) (l : List UInt8) : acc ≤ dval acc l := by
  induction l generalizing acc with
  | nil => rw [val_nil]; exact Nat.le_refl _
  | cons c r ih => rw [val_cons]; exact Nat.le_trans (Nat.le_trans (show acc ≤ acc * 10 by omega) (Nat.le_add_right _ _)) (ih _)
theorem dig_isD (u : Nat) : isD (UInt8.ofNat (48 + u % 10)) = true ∧ (UInt8.ofNat (48 + u % 10)).toNat - 48 = u % 10 := by
  have this : (UInt8.ofNat (48 + u % 10)).toNat = 48 + u % 10 := by
    have h10 : u % 10 < 10 := Nat.mod_lt _ (by decide)
    generalize u % 10 = m at h10
    rw [UInt8.toNat_ofNat', Nat.mod_eq_of_lt (by omega)]
  have h10 : u % 10 < 10 := Nat.mod_lt _ (by decide)
  unfold isD
  rw [this]
  exact ⟨by rw [Bool.and_eq_true]; exact ⟨decide_eq_true (by omega), decide_eq_true (by omega)⟩, by omega⟩
theorem decDigits_val (u : Nat) : dval 0 (Lib.decDigits u) = u ∧ (Lib.decDigits u).all isD = true ∧ Lib.decDigits u ≠ [] := by
  induction u using Nat.strongRecOn with
  | _ u ih =>
    rw [Lib.decDigits]
    split
    · rename_i h
      have := dig_isD u
      rw [Nat.mod_eq_of_lt h] at this
      refine ⟨?_, ?_, by simp⟩
      · rw [val_cons, val_nil, this.2]; omega
      · rw [List.all_cons, List.all_nil, this.1]; rfl
    · rename_i h
      have h1 := ih (u / 10) (by omega)
      have h2 := dig_isD u
      refine ⟨?_, ?_, by simp⟩
      · rw [val_append, h1.1]
        rw [val_cons, val_nil, h2.2]; omega
      · rw [List.all_append, h1.2.1, List.all_cons, List.all_nil, h2.1]; rfl

theorem parseM (M : Nat) (hM : M ≤ 18446744073709551615) : ∀ (l : List UInt8) (acc : Nat), l.all isD = true → dval acc l ≤ M → Lib.parseUintM M acc l = .ok (dval acc l) := by
  intro l
  induction l with
  | nil => intro acc _ _; rw [val_nil]; rfl
  | cons c r ih =>
    intro acc hd hv
    rw [val_cons] at hv ⊢
    simp only [List.all_cons, Bool.and_eq_true, isD, decide_eq_true_eq] at hd
    have hg := Nat.le_trans (val_ge (acc * 10 + (c.toNat - 48)) r) hv
    have a1 : ¬ 1844674407370955162 ≤ acc := by clear hv ih; omega
    have a2 : ¬ M < acc * 10 + (c.toNat - 48) := Nat.not_lt.2 hg
    rw [Lib.parseUintM, if_pos hd.1, if_neg a1, if_neg a2]
    exact ih _ (by simpa [isD] using hd.2) hv

theorem head_ne (u : Nat) : ∀ c r, Lib.decDigits u = c :: r → c.toNat ≠ 43 ∧ c.toNat ≠ 45 := by
  intro c r h
  have := (decDigits_val u).2.1
  rw [h] at this
  simp only [List.all_cons, Bool.and_eq_true, isD, decide_eq_true_eq] at this
  omega
theorem parse_itoa (n : Int) (h0 : -9223372036854775808 ≤ n) (h1 : n ≤ 9223372036854775807) : Lib.parseIntB 64 (Lib.itoa n) = .ok n := by
  unfold Lib.itoa
  by_cases hn : n < 0
  · rw [if_pos hn, Lib.parseIntB_minus]
    have hd := decDigits_val n.natAbs
    rw [Lib.parseUintB, if_neg hd.2.2, parseM _ (by decide) _ _ hd.2.1 (by rw [hd.1]; omega), hd.1]
    simp only [Lib.signedC]
    rw [if_neg (by omega)]
    congr 1; omega
  · rw [if_neg hn]
    have hd := decDigits_val n.toNat
    cases hc : Lib.decDigits n.toNat with
    | nil => exact absurd hc hd.2.2
    | cons c r =>
      have hh := head_ne _ _ _ hc
      rw [Lib.parseIntB_plain 64 c r hh.1 hh.2, ← hc, Lib.parseUintB, if_neg hd.2.2, parseM _ (by decide) _ _ hd.2.1 (by rw [hd.1]; omega), hd.1]
      simp only [Lib.signlessC]
      rw [if_neg (by omega)]
      congr 1; omega

def Reads (l : List UInt8) (lo hi n : Int) : Prop := l = Lib.itoa n ∧ lo ≤ n ∧ n ≤ hi
theorem readL_yes {l : List UInt8} {lo hi n : Int} (h : Reads l lo hi n) (h0 : -9223372036854775808 ≤ lo) (h1 : hi ≤ 9223372036854775807) : readL l lo hi = (n, true) := by
  obtain ⟨rfl, h2, h3⟩ := h
  unfold readL
  rw [parse_itoa n (by omega) (by omega)]
  simp [h2, h3]
theorem readL_cases (l : List UInt8) (lo hi : Int) : readL l lo hi = (0, false) ∨ ∃ n, Reads l lo hi n ∧ readL l lo hi = (n, true) := by
  unfold readL
  cases hp : Lib.parseIntB 64 l with
  | ok v =>
    simp only
    by_cases h : Lib.itoa v = l ∧ lo ≤ v ∧ v ≤ hi
    · exact .inr ⟨v, ⟨h.1.symm, h.2⟩, by rw [if_pos h]⟩
    · exact .inl (by rw [if_neg h])
  | _ => exact .inl rfl

def jV (l : List UInt8) (v : Int) : Int × Bool := if (-1000000000 ≤ v ∧ v ≤ 1000000000) ∧ Lib.itoa v = l then (v, true) else (0, false)
end Go.Proofs.YtibaiaenfeppcaaGreatDoor.PuV

/- Plain: the text of a yard, by both sides. -/
namespace Go.Proofs.YtibaiaenfeppcaaGreatDoor.PuYT
open Go.RowKit Go.Proofs.YtibaiaenfeppcaaGreatDoorW.PrintWords Go.Proofs.YtibaiaenfeppcaaGreatDoor.Q Go.Proofs.YtibaiaenfeppcaaGreatDoor.PuY Go.Proofs.YtibaiaenfeppcaaGreatDoor.PuD
set_option linter.unusedSimpArgs false
def ok64 (n : Int) : Prop := -1000000000 ≤ n ∧ n ≤ 1000000000
theorem lit1 (a : UInt8) : (⟨#[a]⟩ : ByteArray) = txt [a] := rfl
theorem decimal_eq (n : Int) (h : ok64 n) : impl_Decimal.f n = some (txt (Lib.itoa n)) := by unfold impl_Decimal.f; unfold ok64 at h; rw [if_pos ⟨by omega, by omega⟩]; rfl
theorem ilen (n : Int) (h : ok64 n) : (Lib.itoa n).length ≤ 20 := by unfold ok64 at h; exact itoa_len n (by omega) (by omega)
/-- The parts behind the first, each with its sign ahead. -/
def tailT (s : UInt8) (r : List (List UInt8)) : List UInt8 := (r.map ([s] ++ ·)).flatten
theorem join_cons (x : List UInt8) (r : List (List UInt8)) (s : UInt8) : Lib.join (x :: r) [s] = x ++ tailT s r := Lib.join_cons x r [s]
def numsT (l : List Int) : List UInt8 := if l.length = 0 then [45] else Lib.join (l.map Lib.itoa) [44]
def yardT (h : Int) (xs : List (List Int)) : List UInt8 := Lib.itoa h ++ [58] ++ Lib.join (xs.map numsT) [124]
theorem tail_len (s : UInt8) (n : Nat) : ∀ r : List (List UInt8), (∀ x ∈ r, x.length ≤ n) → (tailT s r).length ≤ (n + 1) * r.length := by
  intro r
  induction r with
  | nil => intro _; simp [tailT]
  | cons a t ih =>
    intro h
    have h1 := ih (fun x hx => h x (by simp [hx]))
    have h2 := h a (by simp)
    have e : tailT s (a :: t) = [s] ++ a ++ tailT s t := by simp [tailT]
    rw [e]
    simp only [List.length_append, List.length_cons, List.length_nil, Nat.mul_add, Nat.mul_one]
    omega
theorem nums_len (l : List Int) (hl : l.length ≤ 4) (ho : ∀ x ∈ l, ok64 x) : (numsT l).length ≤ 200 := by
  unfold numsT
  cases l with
  | nil => simp
  | cons a t =>
    rw [if_neg (by simp), List.map_cons, join_cons, List.length_append]
    have h1 := ilen a (ho a (by simp))
    have h2 := tail_len 44 20 (t.map Lib.itoa) (fun x hx => by obtain ⟨y, hy, rfl⟩ := List.mem_map.1 hx; exact ilen y (ho y (by simp [hy])))
    rw [List.length_map] at h2
    have h3 : t.length ≤ 3 := by simpa using hl
    omega
/-! the reference -/
/-! the program -/
theorem joinF (ls : List (List UInt8)) (s : UInt8) (h1 : (Lib.join ls [s]).length ≤ 100000) (h2 : ls.length ≤ 100000) : strings_Join.f (ls.map txt) (txt [s]) = some (txt (Lib.join ls [s])) := by
  have e : (ls.map txt).map (·.data.toList) = ls := by simp [txt, Function.comp_def]
  unfold strings_Join.f
  rw [e, show (txt [s]).data.toList = [s] from rfl, List.length_map, if_pos ⟨by omega, by omega⟩]
  rfl
theorem join_len (ls : List (List UInt8)) (s : UInt8) (n : Nat) (h : ∀ x ∈ ls, x.length ≤ n) (hl : ls.length ≤ 4) : (Lib.join ls [s]).length ≤ 5 * (n + 1) := by
  cases ls with
  | nil => simp [Lib.join, List.intercalate]
  | cons a t =>
    rw [join_cons, List.length_append]
    have h1 := h a (by simp)
    have h2 := tail_len s n t (fun x hx => h x (by simp [hx]))
    have h3 : t.length ≤ 3 := by simpa using hl
    have h4 : (n + 1) * t.length ≤ (n + 1) * 3 := Nat.mul_le_mul_left _ h3
    omega
theorem implNums_loop (l : List Int) (hl : l.length ≤ 4) (ho : ∀ x ∈ l, ok64 x) (x1 : ByteArray) : ∀ (d k i : Nat) (acc : List ByteArray), i + d = l.length → d < k → acc.length ≤ i →
    impl_decimals.l0 k x1 acc l (l.length : Int) (i : Int) = strings_Join.f (acc ++ (l.drop i).map (fun n => txt (Lib.itoa n))) x1 := by
  intro d
  induction d with
  | zero =>
    intro k i acc hi hk ha
    obtain ⟨k, rfl⟩ : ∃ m, k = m + 1 := ⟨k - 1, by omega⟩
    simp only [impl_decimals.l0]
    rw [if_neg (by omega), List.drop_eq_nil_of_le (by omega), List.map_nil, List.append_nil]
    cases strings_Join.f acc x1 <;> rfl
  | succ d ih =>
    intro k i acc hi hk ha
    obtain ⟨k, rfl⟩ : ∃ m, k = m + 1 := ⟨k - 1, by omega⟩
    have hlt : i < l.length := by omega
    have hx := ho l[i] (List.getElem_mem hlt)
    simp only [impl_decimals.l0]
    rw [if_pos (by omega), if_pos (by omega), if_pos (by omega), rd_at l i hlt, decimal_eq _ hx, Option.bind_some, if_pos (by omega), wrap_succ i (by omega)]
    rw [ih k (i + 1) _ (by omega) (by omega) (by simp; omega), List.drop_eq_getElem_cons hlt]
    simp only [List.map_cons, List.append_assoc, List.singleton_append]
theorem implNums_eq (l : List Int) (hl : l.length ≤ 4) (ho : ∀ x ∈ l, ok64 x) (k : Nat) (hk : 40 ≤ k) : impl_ListText.f k l = some (txt (numsT l), true) := by
  have hin : impl_isList.f l = some true := by
    unfold impl_isList.f impl_areWithin.f
    rw [if_pos (by omega), Option.bind_some]
    congr 1
    unfold Ha.areIn
    rw [List.all_eq_true]
    intro x hx
    have := ho x hx
    unfold ok64 at this
    unfold Ha.inB
    simp; omega
  unfold impl_ListText.f numsT
  rw [hin, Option.bind_some, if_pos rfl]
  cases l with
  | nil => simp; rfl
  | cons a t =>
    rw [if_neg (by simp; omega), if_neg (by simp)]
    have ht3 : t.length ≤ 3 := by simpa using hl
    have hjl := join_len ((a :: t).map Lib.itoa) 44 20 (fun x hx => by obtain ⟨y, hy, rfl⟩ := List.mem_map.1 hx; exact ilen y (ho y hy)) (by rw [List.length_map]; exact hl)
    have := implNums_loop (a :: t) hl ho (⟨#[44]⟩ : ByteArray) (t.length + 1) k 0 [] (by simp) (by omega) (by simp)
    rw [show ((0 : Nat) : Int) = 0 from rfl] at this
    unfold impl_decimals.f
    rw [this, List.nil_append, List.drop_zero, show (a :: t).map (fun n => txt (Lib.itoa n)) = ((a :: t).map Lib.itoa).map txt by rw [List.map_map]; rfl, lit1]
    rw [joinF _ 44 (by omega) (by rw [List.length_map]; omega), Option.bind_some]
theorem implRows_loop (h : Int) (hh : ok64 h) (xs : List (List Int)) (hl : xs.length ≤ 4) (hr : ∀ r ∈ xs, r.length ≤ 4 ∧ ∀ x ∈ r, ok64 x) : ∀ (d k i : Nat) (acc : List (List UInt8)), i + d = xs.length → d + 50 < k → acc.length ≤ i → (∀ x ∈ acc, x.length ≤ 200) →
    impl_yardText.l0 k (acc.map txt) xs (xs.length : Int) (i : Int) h xs = some (txt (Lib.itoa h ++ [58] ++ Lib.join (acc ++ (xs.drop i).map numsT) [124])) := by
  intro d
  induction d with
  | zero =>
    intro k i acc hi hk ha hacc
    obtain ⟨k, rfl⟩ : ∃ m, k = m + 1 := ⟨k - 1, by omega⟩
    have hi2 := ilen h hh
    simp only [impl_yardText.l0]
    have hj := join_len acc 124 200 hacc (by omega)
    rw [if_neg (by omega), List.drop_eq_nil_of_le (by omega), List.map_nil, List.append_nil, decimal_eq h hh, Option.bind_some, txt_size, if_pos (by omega), lit1, lit1, joinF acc 124 (by omega) (by omega), Option.bind_some, txt_append, txt_append, txt_size, txt_size]
    rw [if_pos (by simp only [List.length_append, List.length_singleton]; omega)]
  | succ d ih =>
    intro k i acc hi hk ha hacc
    obtain ⟨k, rfl⟩ : ∃ m, k = m + 1 := ⟨k - 1, by omega⟩
    have hlt : i < xs.length := by omega
    obtain ⟨q1, q2⟩ := hr xs[i] (List.getElem_mem hlt)
    have hx2 := nums_len _ q1 q2
    simp only [impl_yardText.l0]
    rw [if_pos (by omega), if_pos (by omega), if_pos (by omega), rdL_at xs i hlt, implNums_eq _ q1 q2 k (by omega), Option.bind_some, List.length_map, if_pos (by omega), wrap_succ i (by omega)]
    have := ih k (i + 1) (acc ++ [numsT xs[i]]) (by omega) (by omega) (by simp; omega) (fun x hx => by
      rcases List.mem_append.1 hx with h1 | h1
      · exact hacc x h1
      · obtain rfl : x = numsT xs[i] := by simpa using h1
        exact hx2)
    rw [List.map_append, List.map_cons, List.map_nil] at this
    simp only [this, List.drop_eq_getElem_cons hlt, List.map_cons, List.append_assoc, List.singleton_append]
theorem implYardText (h : Int) (hh : ok64 h) (xs : List (List Int)) (hl : xs.length ≤ 4) (hr : ∀ r ∈ xs, r.length ≤ 4 ∧ ∀ x ∈ r, ok64 x) (k : Nat) (hk : 100 ≤ k) : impl_yardText.f k h xs = some (txt (yardT h xs)) := by
  have := implRows_loop h hh xs hl hr xs.length k 0 [] (by omega) (by omega) (by simp) (by simp)
  unfold impl_yardText.f yardT
  rw [show ((0 : Nat) : Int) = 0 from rfl] at this
  rw [List.map_nil] at this
  rw [this, List.nil_append, List.drop_zero]
/-! valid yards -/
theorem parts {h : Int} {xs : List (List Int)} (hv : Yv.valid h xs = true) : ok64 h ∧ 0 < xs.length ∧ xs.length ≤ 4 ∧ ∀ r ∈ xs, r.length ≤ 4 ∧ ∀ x ∈ r, ok64 x := by
  unfold Yv.valid Ha.inB Ha.areIn at hv
  simp only [Bool.and_eq_true, decide_eq_true_eq, List.all_eq_true] at hv
  obtain ⟨⟨a1, a2⟩, ⟨b1, b2⟩, c, d, e, f⟩ := hv
  refine ⟨⟨by omega, by omega⟩, by omega, by omega, fun r hr => ⟨by have := c r hr; omega, fun x hx => ?_⟩⟩
  have := f x (List.mem_flatten.2 ⟨r, hr, hx⟩)
  unfold Ha.inB at this
  simp at this
  unfold ok64; omega
end Go.Proofs.YtibaiaenfeppcaaGreatDoor.PuYT

/- Plain: both sides' readings of a yard are one: the byte lists' reading. -/
namespace Go.Proofs.YtibaiaenfeppcaaGreatDoor.PuRy
open Go.RowKit Go.Proofs.YtibaiaenfeppcaaGreatDoorW.PrintWords Go.Proofs.YtibaiaenfeppcaaGreatDoor.Q Go.Proofs.YtibaiaenfeppcaaGreatDoor.Sp Go.Proofs.YtibaiaenfeppcaaGreatDoor.PuD Go.Proofs.YtibaiaenfeppcaaGreatDoor.PuV Go.Proofs.YtibaiaenfeppcaaGreatDoor.PuYT
set_option linter.unusedSimpArgs false
set_option linter.unusedVariables false
theorem ws (i : Nat) (h : i ≤ 2000000) : wrap64 ((i : Int) + 1) = ((i + 1 : Nat) : Int) := by unfold wrap64; omega
abbrev rd9 (w : List UInt8) : Int × Bool := readL w (-1000000000) 1000000000
/-! pieces -/
/-- The piece from a place to another. -/
def pc (L : List UInt8) (a b : Nat) : List UInt8 := (L.drop a).take (b - a)
theorem split_ne (c : UInt8) (l : List UInt8) : split1 c l ≠ [] := by
  cases l with
  | nil => simp [split1]
  | cons b r =>
    unfold split1
    split
    · simp
    · split <;> simp
theorem join_split (c : UInt8) (l : List UInt8) : Lib.join (split1 c l) [c] = l := by
  induction l with
  | nil => simp [split1, Lib.join, List.intercalate]
  | cons b r ih =>
    unfold split1
    split
    · rename_i h
      subst h
      cases hs : split1 b r with
      | nil => exact absurd hs (split_ne b r)
      | cons w t =>
        rw [hs, PuYT.join_cons] at ih
        rw [PuYT.join_cons]
        unfold tailT at ih ⊢
        rw [List.map_cons, List.flatten_cons, ← ih]; simp
    · cases hs : split1 c r with
      | nil => exact absurd hs (split_ne c r)
      | cons w t =>
        rw [hs, PuYT.join_cons] at ih
        simp only
        rw [PuYT.join_cons, ← ih]; simp
theorem split_count (c : UInt8) (l : List UInt8) : (split1 c l).length ≤ l.length + 1 := by
  induction l with
  | nil => simp [split1]
  | cons b r ih =>
    unfold split1
    split
    · simp only [List.length_cons]; omega
    · split
      · simp
      · rename_i h; rw [h] at ih; simp only [List.length_cons] at ih ⊢; omega
theorem split_len (c : UInt8) (l : List UInt8) : ∀ w ∈ split1 c l, w.length ≤ l.length := by
  induction l with
  | nil => simp [split1]
  | cons b r ih =>
    unfold split1
    split
    · intro w hw
      rcases List.mem_cons.1 hw with rfl | h
      · simp
      · have := ih w h; simp only [List.length_cons]; omega
    · split
      · intro w hw
        obtain rfl : w = [b] := by simpa using hw
        simp
      · rename_i v vs h
        rw [h] at ih
        intro w hw
        rcases List.mem_cons.1 hw with rfl | h2
        · have := ih v (by simp); simp only [List.length_cons]; omega
        · have := ih w (by simp [h2]); simp only [List.length_cons]; omega
/-! a list's numbers -/
/-- The reference: no more than 64. -/
def go64 : List Int → List (List UInt8) → List Int × Bool
  | acc, [] => (acc, true)
  | acc, w :: r => if (rd9 w).2 = true then (if acc.length = 64 then ([], false) else go64 (acc ++ [(rd9 w).1]) r) else ([], false)
def goAll : List Int → List (List UInt8) → List Int × Bool
  | acc, [] => (acc, true)
  | acc, w :: r => if (rd9 w).2 = true then goAll (acc ++ [(rd9 w).1]) r else ([], false)
theorem goAll_len : ∀ (r : List (List UInt8)) (acc : List Int), (goAll acc r).2 = true → (goAll acc r).1.length = acc.length + r.length := by
  intro r
  induction r with
  | nil => intro acc _; simp [goAll]
  | cons w t ih =>
    intro acc h
    unfold goAll at h ⊢
    split at h
    · rename_i h1
      rw [if_pos h1, ih _ h]; simp; omega
    · cases h
theorem go64_all : ∀ (r : List (List UInt8)) (acc : List Int), acc.length ≤ 64 → go64 acc r = if (goAll acc r).2 = true then (if ((goAll acc r).1.length : Int) > 64 then ([], false) else ((goAll acc r).1, true)) else ([], false) := by
  intro r
  induction r with
  | nil =>
    intro acc h
    show (acc, true) = if true = true then (if (acc.length : Int) > 64 then (([] : List Int), false) else (acc, true)) else ([], false)
    rw [if_pos rfl, if_neg (by omega)]
  | cons w t ih =>
    intro acc h
    unfold go64
    by_cases h1 : (rd9 w).2 = true
    · rw [if_pos h1]
      by_cases h2 : acc.length = 64
      · rw [if_pos h2]
        by_cases h3 : (goAll acc (w :: t)).2 = true
        · have := goAll_len _ _ h3
          rw [if_pos h3, if_pos (by rw [this, List.length_cons]; omega)]
        · rw [if_neg h3]
      · rw [if_neg h2, ih _ (by simp; omega)]
        have e : goAll acc (w :: t) = goAll (acc ++ [(rd9 w).1]) t := by rw [goAll, if_pos h1]
        rw [e]
    · rw [if_neg h1]
      have e : goAll acc (w :: t) = ([], false) := by rw [goAll, if_neg h1]
      rw [e, if_neg (by decide)]
/-- The list of a word. -/
def listP (w : List UInt8) : List Int × Bool := if w = [45] then ([], true) else go64 [] (split1 44 w)
theorem toList_eq (a b : List UInt8) : ((txt a).toList = (txt b).toList) = (a = b) := by rw [ByteArray.toList_eq, ByteArray.toList_eq]; simp [txt]
theorem toList_lit (a b : List UInt8) : ((txt a).toList = b) = (a = b) := by rw [ByteArray.toList_eq]; simp [txt]
theorem readIn_eq (w : List UInt8) (h : w.length ≤ 1048576) (lo hi : Int) : impl_readIn.f (txt w) lo hi = some (readL w lo hi) := by
  unfold impl_readIn.f
  rw [txt_size, if_pos (by omega)]
  simp [txt]
theorem split_eq (c : UInt8) (L : List UInt8) (hL : L.length ≤ 1048576) : strings_Split.f (txt L) (⟨#[c]⟩ : ByteArray) = some ((split1 c L).map txt) := by
  unfold strings_Split.f
  simp only
  rw [txt_size, if_pos (by omega)]
  simp [txt]; exact fun _ _ => rfl
theorem cut_eq' (c : UInt8) (L : List UInt8) (hL : L.length ≤ 1048576) : strings_Cut.f (txt L) (⟨#[c]⟩ : ByteArray) = some (txt (cut1 c L).1, txt (cut1 c L).2.1, (cut1 c L).2.2) := by
  unfold strings_Cut.f
  simp only
  rw [txt_size, if_pos (by omega)]
  simp [txt]; exact ⟨rfl, rfl⟩
theorem rd_str (l : List (List UInt8)) (i : Nat) (h : i < l.length) : rdOf ByteArray.empty (l.map txt) (i : Int) = txt l[i] := by
  simp [rdOf, h]
theorem allLoop (l : List (List UInt8)) (hl : l.length ≤ 1048577) (hw : ∀ w ∈ l, w.length ≤ 1048576) : ∀ (d k i : Nat) (acc : List Int), i + d = l.length → d < k → acc.length ≤ i →
    impl_readAll.l0 k (-1000000000) 1000000000 acc (l.map txt) ((l.map txt).length : Int) (i : Int) = some (goAll acc (l.drop i)) := by
  intro d
  induction d with
  | zero =>
    intro k i acc hi hk ha
    obtain ⟨k, rfl⟩ : ∃ m, k = m + 1 := ⟨k - 1, by omega⟩
    simp only [impl_readAll.l0, List.length_map]
    rw [if_neg (by omega), List.drop_eq_nil_of_le (by omega), goAll]
  | succ d ih =>
    intro k i acc hi hk ha
    obtain ⟨k, rfl⟩ : ∃ m, k = m + 1 := ⟨k - 1, by omega⟩
    have hlt : i < l.length := by omega
    have ih' := fun acc' ha' => ih k (i + 1) acc' (by omega) (by omega) ha'
    simp only [List.length_map] at ih' ⊢
    simp only [impl_readAll.l0, List.length_map]
    rw [if_pos (by omega), if_pos (by omega), if_pos (by omega), rd_str l i hlt, readIn_eq _ (hw _ (List.getElem_mem hlt)), Option.bind_some, List.drop_eq_getElem_cons hlt, goAll]
    by_cases h1 : (rd9 l[i]).2 = true
    · rw [if_pos h1, if_pos h1, if_pos (by omega), ws _ (by omega), ih' _ (by simp; omega)]
    · rw [if_neg h1, if_neg h1]
theorem implList (L : List UInt8) (hL : L.length ≤ 1048576) (k : Nat) (hk : L.length + 100 ≤ k) : impl_ReadList.f k (txt L) = some (listP L) := by
  unfold impl_ReadList.f listP
  have t := toList_lit L [45]
  by_cases h : L = [45]
  · rw [if_pos (Eq.mpr t h), if_pos h]
  · rw [if_neg (fun hh => h (Eq.mp t hh)), if_neg h]
    have hc := split_count 44 L
    have := allLoop (split1 44 L) (by omega) (fun w hw => by have := split_len 44 L w hw; omega) (split1 44 L).length k 0 [] (by omega) (by omega) (by simp)
    rw [List.drop_zero, show ((0 : Nat) : Int) = 0 from rfl] at this
    unfold impl_readAll.f
    rw [split_eq 44 L hL, Option.bind_some, this, Option.bind_some, go64_all _ _ (by simp)]
    split
    · split <;> rfl
    · rfl
end Go.Proofs.YtibaiaenfeppcaaGreatDoor.PuRy

/- Plain: both sides' ReadYard hand back the same, and no more than little. -/
namespace Go.Proofs.YtibaiaenfeppcaaGreatDoor.PuRy
open Go.RowKit Go.Proofs.YtibaiaenfeppcaaGreatDoorW.PrintWords Go.Proofs.YtibaiaenfeppcaaGreatDoor.Q Go.Proofs.YtibaiaenfeppcaaGreatDoor.Sp Go.Proofs.YtibaiaenfeppcaaGreatDoor.PuY Go.Proofs.YtibaiaenfeppcaaGreatDoor.PuD Go.Proofs.YtibaiaenfeppcaaGreatDoor.PuV Go.Proofs.YtibaiaenfeppcaaGreatDoor.PuYT
set_option linter.unusedSimpArgs false
set_option linter.unusedVariables false
/-! rows -/
/-- The reference: no more than 4. -/
def goR : List (List Int) → List (List UInt8) → Option (List (List Int))
  | acc, [] => some acc
  | acc, w :: r => if (listP w).2 = true then (if acc.length = 4 then none else goR (acc ++ [(listP w).1]) r) else none
def goB : List (List Int) → List (List UInt8) → Option (List (List Int))
  | acc, [] => some acc
  | acc, w :: r => if (listP w).2 = true then goB (acc ++ [(listP w).1]) r else none
theorem goB_len : ∀ (r : List (List UInt8)) (acc xs : List (List Int)), goB acc r = some xs → xs.length = acc.length + r.length := by
  intro r
  induction r with
  | nil => intro acc xs h; simp only [goB, Option.some.injEq] at h; subst h; simp
  | cons w t ih =>
    intro acc xs h
    unfold goB at h
    split at h
    · rw [ih _ _ h]; simp; omega
    · cases h
theorem goR_eq : ∀ (r : List (List UInt8)) (acc : List (List Int)), acc.length ≤ 4 → goR acc r = (goB acc r).bind fun xs => if xs.length ≤ 4 then some xs else none := by
  intro r
  induction r with
  | nil => intro acc h; simp only [goR, goB, Option.bind_some]; rw [if_pos h]
  | cons w t ih =>
    intro acc h
    unfold goR
    by_cases h1 : (listP w).2 = true
    · have e : goB acc (w :: t) = goB (acc ++ [(listP w).1]) t := by rw [goB, if_pos h1]
      rw [if_pos h1, e]
      by_cases h2 : acc.length = 4
      · rw [if_pos h2]
        cases hg : goB (acc ++ [(listP w).1]) t with
        | none => rfl
        | some xs =>
          have := goB_len _ _ _ hg
          rw [List.length_append, List.length_singleton] at this
          rw [Option.bind_some, if_neg (by omega)]
      · rw [if_neg h2, ih _ (by simp; omega)]
    · have e : goB acc (w :: t) = none := by rw [goB, if_neg h1]
      rw [if_neg h1, e]; rfl
/-! numbers and words are one another's texts -/
theorem rd9_text {w : List UInt8} (h : (rd9 w).2 = true) : w = Lib.itoa (rd9 w).1 ∧ ok64 (rd9 w).1 := by
  rcases readL_cases w (-1000000000) 1000000000 with e | ⟨n, h1, e⟩
  · change rd9 w = _ at e; rw [e] at h; cases h
  · change rd9 w = _ at e; rw [e]; exact ⟨h1.1, h1.2⟩
theorem goAll_text : ∀ (r : List (List UInt8)) (acc : List Int), (goAll acc r).2 = true → (goAll acc r).1.map Lib.itoa = acc.map Lib.itoa ++ r := by
  intro r
  induction r with
  | nil => intro acc _; simp [goAll]
  | cons w t ih =>
    intro acc h
    unfold goAll at h ⊢
    split at h
    · rename_i h1
      rw [if_pos h1, ih _ h, List.map_append, List.map_cons, List.map_nil, ← (rd9_text h1).1]; simp
    · cases h
theorem listP_text {w : List UInt8} (h : (listP w).2 = true) : numsT (listP w).1 = w := by
  unfold listP at h ⊢
  by_cases h0 : w = [45]
  · rw [if_pos h0, h0]; rfl
  · rw [if_neg h0, go64_all _ _ (by simp)] at h ⊢
    by_cases h1 : (goAll [] (split1 44 w)).2 = true
    · have ht := goAll_text _ _ h1
      have hl := goAll_len _ _ h1
      rw [if_pos h1] at h ⊢
      by_cases h2 : ((goAll [] (split1 44 w)).1.length : Int) > 64
      · rw [if_pos h2] at h; cases h
      · rw [if_neg h2]
        unfold numsT
        have hn : 0 < (split1 44 w).length := by
          cases hs : split1 44 w with
          | nil => exact absurd hs (split_ne 44 w)
          | cons a t => simp
        rw [if_neg (show ¬ (goAll [] (split1 44 w)).1.length = 0 by simp only [List.length_nil] at hl; omega)]
        rw [List.map_nil, List.nil_append] at ht
        rw [ht, join_split]
    · rw [if_neg h1] at h; cases h
theorem goB_text : ∀ (r : List (List UInt8)) (acc xs : List (List Int)), goB acc r = some xs → xs.map numsT = acc.map numsT ++ r := by
  intro r
  induction r with
  | nil => intro acc xs h; simp only [goB, Option.some.injEq] at h; subst h; simp
  | cons w t ih =>
    intro acc xs h
    unfold goB at h
    split at h
    · rename_i h1
      rw [ih _ _ h, List.map_append, List.map_cons, List.map_nil, listP_text h1]; simp
    · cases h
/-! the program -/
/-- What the program hands back behind its loop. -/
def finB (f ok : Bool) (h : Int) (r : Option (List (List Int))) : Int × List (List Int) × Bool := match r with
  | none => (0, [], false)
  | some xs => if f = true ∧ ok = true ∧ Yv.valid h xs = true then (h, xs, true) else (0, [], false)
theorem implLoop (f ok : Bool) (h0 : Int) (l : List (List UInt8)) (hl : l.length ≤ 1048577) (hw : ∀ w ∈ l, w.length ≤ 1048576) : ∀ (d k i : Nat) (acc : List (List Int)), i + d = l.length → d + 2000000 < k → acc.length ≤ i →
    impl_ReadYard.l0 k f ok (l.map txt) ((l.map txt).length : Int) (i : Int) h0 acc = some (finB f ok h0 (goB acc (l.drop i))) := by
  intro d
  induction d with
  | zero =>
    intro k i acc hi hk ha
    obtain ⟨k, rfl⟩ : ∃ m, k = m + 1 := ⟨k - 1, by omega⟩
    simp only [impl_ReadYard.l0, List.length_map, impl_ValidYard.f, Option.bind_some]
    rw [if_neg (by omega), List.drop_eq_nil_of_le (by omega), goB]
    unfold finB
    cases f <;> cases ok <;> simp
    split <;> simp_all
  | succ d ih =>
    intro k i acc hi hk ha
    obtain ⟨k, rfl⟩ : ∃ m, k = m + 1 := ⟨k - 1, by omega⟩
    have hlt : i < l.length := by omega
    have hwl := hw l[i] (List.getElem_mem hlt)
    have ih' := fun acc' ha' => ih k (i + 1) acc' (by omega) (by omega) ha'
    simp only [List.length_map] at ih' ⊢
    simp only [impl_ReadYard.l0, List.length_map]
    rw [if_pos (by omega), if_pos (by omega), if_pos (by omega), rd_str l i hlt, implList _ hwl k (by omega), Option.bind_some, List.drop_eq_getElem_cons hlt, goB]
    by_cases h1 : (listP l[i]).2 = true
    · rw [if_pos h1, if_pos h1, if_pos (by omega), ws _ (by omega), ih' _ (by simp; omega)]
    · rw [if_neg h1, if_neg h1]; rfl
theorem implRead (L : List UInt8) (hL : L.length ≤ 1048576) (k : Nat) (hk : 4000000 ≤ k) :
    impl_ReadYard.f k (txt L) = some (finB (cut1 58 L).2.2 (rd9 (cut1 58 L).1).2 (rd9 (cut1 58 L).1).1 (goB [] (split1 124 (cut1 58 L).2.1))) := by
  have hc : (cut1 58 L).1.length ≤ 1048576 ∧ (cut1 58 L).2.1.length ≤ 1048576 := by
    by_cases h : (58 : UInt8) ∈ L
    · obtain ⟨p, q, rfl, hp⟩ := first_at 58 L h
      rw [cut1_some 58 p q hp]
      rw [List.length_append, List.length_cons] at hL
      exact ⟨by show p.length ≤ _; omega, by show q.length ≤ _; omega⟩
    · rw [cut1_none 58 L h]; exact ⟨hL, by simp⟩
  have hs := split_count 124 (cut1 58 L).2.1
  have := implLoop (cut1 58 L).2.2 (rd9 (cut1 58 L).1).2 (rd9 (cut1 58 L).1).1 (split1 124 (cut1 58 L).2.1) (by omega) (fun w hw => by have := split_len 124 _ w hw; omega) (split1 124 (cut1 58 L).2.1).length k 0 [] (by omega) (by omega) (by simp)
  rw [List.drop_zero, show ((0 : Nat) : Int) = 0 from rfl] at this
  unfold impl_ReadYard.f impl_ReadDecimal.f
  rw [cut_eq' 58 L hL, Option.bind_some]
  simp only
  rw [readIn_eq _ hc.1, Option.bind_some, Option.bind_some, split_eq 124 _ hc.2, Option.bind_some]
  exact this
/-! the reference -/
/-- What the reference hands back behind its loop. -/
def finS (L : List UInt8) (h : Int) (r : Option (List (List Int))) : Int × List (List Int) × Bool := match r with
  | none => (0, [], false)
  | some xs => if Yv.valid h xs = true ∧ yardT h xs = L then (h, xs, true) else (0, [], false)
/-- What the reference hands back of a text that is cut. -/
def resS (L : List UInt8) : Int × List (List Int) × Bool := if (cut1 58 L).2.2 = true then finS L (rd9 (cut1 58 L).1).1 (goR [] (split1 124 (cut1 58 L).2.1)) else (0, [], false)
/-! one and the same -/
theorem same (L : List UInt8) : resS L = finB (cut1 58 L).2.2 (rd9 (cut1 58 L).1).2 (rd9 (cut1 58 L).1).1 (goB [] (split1 124 (cut1 58 L).2.1)) := by
  unfold resS
  by_cases h : (58 : UInt8) ∈ L
  · obtain ⟨p, q, rfl, hp⟩ := first_at 58 L h
    rw [cut1_some 58 p q hp, if_pos rfl, goR_eq _ _ (by simp)]
    show finS (p ++ 58 :: q) (rd9 p).1 ((goB [] (split1 124 q)).bind fun xs => if xs.length ≤ 4 then some xs else none) = finB true (rd9 p).2 (rd9 p).1 (goB [] (split1 124 q))
    cases hg : goB [] (split1 124 q) with
    | none => rfl
    | some xs =>
      rw [Option.bind_some]
      have ht := goB_text _ _ _ hg
      rw [List.map_nil, List.nil_append] at ht
      by_cases h4 : xs.length ≤ 4
      · rw [if_pos h4]
        unfold finS finB
        simp only
        by_cases hv : Yv.valid (rd9 p).1 xs = true
        · have hok : (rd9 p).2 = true := by
            rcases readL_cases p (-1000000000) 1000000000 with e | ⟨n, h1, e⟩
            · change rd9 p = _ at e
              rw [e] at hv
              unfold Yv.valid Ha.inB at hv
              simp at hv
            · change rd9 p = _ at e
              rw [e]
          have hy : yardT (rd9 p).1 xs = p ++ 58 :: q := by
            unfold yardT
            rw [ht, join_split, ← (rd9_text hok).1]; simp
          rw [if_pos ⟨hv, hy⟩, if_pos ⟨trivial, hok, hv⟩]
        · rw [if_neg (fun hh => hv hh.1), if_neg (fun hh => hv hh.2.2)]
      · rw [if_neg h4]
        unfold finS finB
        simp only
        rw [if_neg]
        rintro ⟨-, -, hv⟩
        exact h4 (parts hv).2.2.1
  · rw [cut1_none 58 L h, if_neg (show ¬ (false = true) by decide)]
    unfold finB
    cases goB [] (split1 124 (L, ([] : List UInt8), false).2.1) with
    | none => rfl
    | some xs => simp only; rw [if_neg (fun hh => by cases hh.1)]
theorem small (L : List UInt8) : Small (resS L).2.1 := by
  have key : ∀ h r, Small (finS L h r).2.1 := by
    intro h r
    unfold finS
    cases r with
    | none => exact ⟨by simp, by simp, fun r hr => by simp at hr⟩
    | some xs =>
      simp only
      by_cases hv : Yv.valid h xs = true ∧ yardT h xs = L
      · rw [if_pos hv]
        obtain ⟨p1, p2, p3, p4⟩ := parts hv.1
        have hf : xs.flatten.length ≤ 7 := by
          have := hv.1
          unfold Yv.valid Ha.inB Ha.areIn at this
          simp only [Bool.and_eq_true, decide_eq_true_eq, List.all_eq_true] at this
          obtain ⟨_, _, _, _, e, _⟩ := this
          omega
        exact ⟨by show xs.length ≤ _; omega, by show xs.flatten.length ≤ _; omega, fun r hr => by have := (p4 r hr).1; omega⟩
      · rw [if_neg hv]; exact ⟨by simp, by simp, fun r hr => by simp at hr⟩
  unfold resS
  split
  · exact key _ _
  · exact ⟨by simp, by simp, fun r hr => by simp at hr⟩
end Go.Proofs.YtibaiaenfeppcaaGreatDoor.PuRy

/- Plain: a yard is read back from its own text. -/
namespace Go.Proofs.YtibaiaenfeppcaaGreatDoor.PuRy
open Go.RowKit Go.Proofs.YtibaiaenfeppcaaGreatDoorW.PrintWords Go.Proofs.YtibaiaenfeppcaaGreatDoor.Q Go.Proofs.YtibaiaenfeppcaaGreatDoor.Sp Go.Proofs.YtibaiaenfeppcaaGreatDoor.PuY Go.Proofs.YtibaiaenfeppcaaGreatDoor.PuD Go.Proofs.YtibaiaenfeppcaaGreatDoor.PuV Go.Proofs.YtibaiaenfeppcaaGreatDoor.PuYT
set_option linter.unusedVariables false
theorem itoa_bytes (n : Int) : ∀ c ∈ Lib.itoa n, isD c = true ∨ c = 45 := by
  intro c hc
  unfold Lib.itoa at hc
  split at hc
  · rcases List.mem_cons.1 hc with h | h
    · exact .inr h
    · exact .inl (List.all_eq_true.1 (decDigits_val n.natAbs).2.1 c h)
  · exact .inl (List.all_eq_true.1 (decDigits_val n.toNat).2.1 c hc)
theorem itoa_no (n : Int) (c : UInt8) (h1 : isD c = false) (h2 : c ≠ 45) : c ∉ Lib.itoa n := by
  intro h
  rcases itoa_bytes n c h with h3 | h3
  · rw [h1] at h3; cases h3
  · exact h2 h3
theorem split_join (c : UInt8) : ∀ (t : List (List UInt8)) (w : List UInt8), c ∉ w → (∀ x ∈ t, c ∉ x) → split1 c (Lib.join (w :: t) [c]) = w :: t := by
  intro t
  induction t with
  | nil =>
    intro w hw _
    have : Lib.join [w] [c] = w := by rw [PuYT.join_cons]; simp [tailT]
    rw [this, split1_none c w hw]
  | cons v t ih =>
    intro w hw ht
    have e : Lib.join (w :: v :: t) [c] = w ++ c :: Lib.join (v :: t) [c] := by
      rw [PuYT.join_cons, PuYT.join_cons]; simp [tailT]
    rw [e, split1_some c w _ hw, ih v (ht v (by simp)) (fun x hx => ht x (by simp [hx]))]
theorem mem_join (s d : UInt8) (h : d ≠ s) : ∀ (l : List (List UInt8)), (∀ x ∈ l, d ∉ x) → d ∉ Lib.join l [s] := by
  intro l hl
  cases l with
  | nil => simp [Lib.join, List.intercalate]
  | cons a t =>
    rw [PuYT.join_cons]
    intro hm
    rcases List.mem_append.1 hm with h1 | h1
    · exact hl a (by simp) h1
    · unfold tailT at h1
      obtain ⟨y, hy, h2⟩ := List.mem_flatten.1 h1
      obtain ⟨x, hx, rfl⟩ := List.mem_map.1 hy
      rcases List.mem_append.1 h2 with h3 | h3
      · exact h (by simpa using h3)
      · exact hl x (by simp [hx]) h3
theorem goAll_ok : ∀ (l : List Int) (acc : List Int), (∀ x ∈ l, ok64 x) → goAll acc (l.map Lib.itoa) = (acc ++ l, true) := by
  intro l
  induction l with
  | nil => intro acc _; simp [goAll]
  | cons a t ih =>
    intro acc h
    have ha : rd9 (Lib.itoa a) = (a, true) := readL_yes ⟨rfl, h a (by simp)⟩ (by decide) (by decide)
    rw [List.map_cons, goAll, ha, if_pos rfl, ih _ (fun x hx => h x (by simp [hx]))]
    simp
theorem listP_nums (r : List Int) (hl : r.length ≤ 4) (h : ∀ x ∈ r, ok64 x) : listP (numsT r) = (r, true) := by
  unfold listP numsT
  cases r with
  | nil => simp
  | cons a t =>
    rw [if_neg (show ¬ (a :: t).length = 0 by simp)]
    have hs := split_join 44 (t.map Lib.itoa) (Lib.itoa a) (itoa_no a 44 (by decide) (by decide)) (fun x hx => by obtain ⟨y, _, rfl⟩ := List.mem_map.1 hx; exact itoa_no y 44 (by decide) (by decide))
    rw [List.map_cons]
    have hg := goAll_ok (a :: t) [] h
    rw [List.map_cons, List.nil_append] at hg
    by_cases h45 : Lib.join (Lib.itoa a :: t.map Lib.itoa) [44] = [45]
    · exfalso
      rw [h45] at hs
      have h1 : split1 44 [45] = [[45]] := by decide
      rw [h1] at hs
      injection hs with h2 _
      have h3 := decDigits_val a.natAbs
      unfold Lib.itoa at h2
      split at h2
      · injection h2 with _ h4
        exact h3.2.2 h4.symm
      · have h5 := (decDigits_val a.toNat).2.1
        rw [← h2] at h5
        exact absurd h5 (by decide)
    · rw [if_neg h45, hs, go64_all _ _ (by simp), hg, if_pos rfl, if_neg (by simp only [List.length_cons] at hl ⊢; omega)]
theorem nums_no (r : List Int) (c : UInt8) (h1 : isD c = false) (h2 : c ≠ 45) (h3 : c ≠ 44) : c ∉ numsT r := by
  unfold numsT
  split
  · simpa using h2
  · exact mem_join 44 c h3 _ (fun x hx => by obtain ⟨y, _, rfl⟩ := List.mem_map.1 hx; exact itoa_no y c h1 h2)
theorem goB_rows : ∀ (xs : List (List Int)) (acc : List (List Int)), (∀ r ∈ xs, r.length ≤ 4 ∧ ∀ x ∈ r, ok64 x) → goB acc (xs.map numsT) = some (acc ++ xs) := by
  intro xs
  induction xs with
  | nil => intro acc _; simp [goB]
  | cons a t ih =>
    intro acc h
    obtain ⟨p, q⟩ := h a (by simp)
    rw [List.map_cons, goB, listP_nums a p q, if_pos rfl, ih _ (fun r hr => h r (by simp [hr]))]
    simp
/-- A valid yard is read back from its text. -/
theorem back (h : Int) (xs : List (List Int)) (hv : Yv.valid h xs = true) : finB (cut1 58 (yardT h xs)).2.2 (rd9 (cut1 58 (yardT h xs)).1).2 (rd9 (cut1 58 (yardT h xs)).1).1 (goB [] (split1 124 (cut1 58 (yardT h xs)).2.1)) = (h, xs, true) := by
  obtain ⟨p1, p2, p3, p4⟩ := parts hv
  have e : yardT h xs = Lib.itoa h ++ 58 :: Lib.join (xs.map numsT) [124] := by unfold yardT; simp
  have hc := cut1_some 58 (Lib.itoa h) (Lib.join (xs.map numsT) [124]) (itoa_no h 58 (by decide) (by decide))
  rw [e, hc]
  have hr : rd9 (Lib.itoa h) = (h, true) := readL_yes ⟨rfl, p1⟩ (by decide) (by decide)
  have hs : split1 124 (Lib.join (xs.map numsT) [124]) = xs.map numsT := by
    cases xs with
    | nil => simp at p2
    | cons a t =>
      rw [List.map_cons]
      exact split_join 124 _ _ (nums_no a 124 (by decide) (by decide) (by decide)) (fun x hx => by obtain ⟨y, _, rfl⟩ := List.mem_map.1 hx; exact nums_no y 124 (by decide) (by decide) (by decide))
  show finB true (rd9 (Lib.itoa h)).2 (rd9 (Lib.itoa h)).1 (goB [] (split1 124 (Lib.join (xs.map numsT) [124]))) = (h, xs, true)
  rw [hr, hs, goB_rows xs [] p4, List.nil_append]
  unfold finB
  simp only
  rw [if_pos ⟨trivial, trivial, hv⟩]
theorem text_len (h : Int) (xs : List (List Int)) (hv : Yv.valid h xs = true) : (yardT h xs).length ≤ 2000 := by
  obtain ⟨p1, p2, p3, p4⟩ := parts hv
  have h1 := ilen h p1
  have h2 := join_len (xs.map numsT) 124 200 (fun x hx => by obtain ⟨r, hr, rfl⟩ := List.mem_map.1 hx; exact nums_len r (p4 r hr).1 (p4 r hr).2) (by rw [List.length_map]; exact p3)
  unfold yardT
  rw [List.length_append, List.length_append, List.length_singleton]
  omega
end Go.Proofs.YtibaiaenfeppcaaGreatDoor.PuRy

/- The yard that is drawn is valid. -/
namespace Go.Proofs.YtibaiaenfeppcaaGreatDoor.PuB
open Go Go.RowKit Go.Proofs.YtibaiaenfeppcaaGreatDoorW.PrintWords Go.Proofs.YtibaiaenfeppcaaGreatDoorW.PrintLast Go.Proofs.YtibaiaenfeppcaaGreatDoorW.PrintMore Go.Proofs.YtibaiaenfeppcaaGreatDoor.Q Go.Proofs.YtibaiaenfeppcaaGreatDoor.PuY Go.Proofs.YtibaiaenfeppcaaGreatDoor.PuTO Go.Proofs.YtibaiaenfeppcaaGreatDoor.PuRM Go.Proofs.YtibaiaenfeppcaaGreatDoor.Yq
set_option linter.unusedVariables false
theorem byte_of (z : Int) : 0 ≤ wrap64 (Go.bits .and .u64 (IntKind.u64.wrap z / 1099511627776) 255) ∧ wrap64 (Go.bits .and .u64 (IntKind.u64.wrap z / 1099511627776) 255) ≤ 255 := by
  have h0 : 0 ≤ IntKind.u64.wrap z ∧ IntKind.u64.wrap z < 18446744073709551616 := by rw [IntKind.wrap_u64]; omega
  have e := bits_mask .u64 64 (by decide) (fun n h1 h2 => by rw [IntKind.wrap_u64]; omega) 8 (by decide) (IntKind.u64.wrap z / 1099511627776) (by omega) (by omega)
  have e2 : Go.bits .and .u64 (IntKind.u64.wrap z / 1099511627776) 255 = (IntKind.u64.wrap z / 1099511627776) % 256 := e
  rw [e2, wrap_id (by omega) (by omega)]
  omega
theorem next_ok (l : List Int) (hb : ∀ b ∈ l, 0 ≤ b ∧ b ≤ 255) (at_ seed : Int) (h0 : 0 ≤ at_) (h1 : at_ ≤ 1000000) : ∃ v seed', spec_l00Src_next.f l at_ seed = some (v, at_ + 1, seed') ∧ 0 ≤ v ∧ v ≤ 255 := by
  have hw : wrap64 (at_ + 1) = at_ + 1 := wrap_id (by omega) (by omega)
  simp only [spec_l00Src_next.f, hw]
  by_cases c1 : at_ < (l.length : Int)
  · rw [if_pos c1, if_pos h0]
    have hx : 0 ≤ rd l at_ ∧ rd l at_ ≤ 255 := by
      obtain ⟨i, rfl⟩ : ∃ i : Nat, at_ = (i : Int) := ⟨at_.toNat, by omega⟩
      rw [rd_at l i (by omega)]
      exact hb _ (List.getElem_mem _)
    rw [wrap_id (x := rd l at_) (by omega) (by omega)]
    by_cases c2 : at_ + 1 ≤ (l.length : Int)
    · rw [if_pos c2]; exact ⟨_, _, rfl, hx⟩
    · rw [if_neg c2]; exact ⟨_, _, rfl, byte_of _⟩
  · rw [if_neg c1]
    by_cases c2 : at_ + 1 ≤ (l.length : Int)
    · rw [if_pos c2]; exact ⟨_, _, rfl, by decide, by decide⟩
    · rw [if_neg c2]; exact ⟨_, _, rfl, byte_of _⟩
theorem pick_ok (l : List Int) (hb : ∀ b ∈ l, 0 ≤ b ∧ b ≤ 255) (at_ seed n : Int) (h0 : 0 ≤ at_) (h1 : at_ ≤ 1000000) (hn : 2 ≤ n) (hn2 : n ≤ 200) : ∃ v seed', spec_l00Src_pick.f l at_ seed n = some (v, at_ + 1, seed') ∧ 0 ≤ v ∧ v < n := by
  obtain ⟨v, seed', he, hv0, hv1⟩ := next_ok l hb at_ seed h0 h1
  simp only [spec_l00Src_pick.f]
  rw [if_neg (by omega), he, Option.bind_some, if_neg (by omega), if_neg (by omega)]
  exact ⟨_, _, rfl, Int.tmod_nonneg _ hv0, Int.tmod_lt_of_pos _ (by omega)⟩
theorem has_loop (l : List Int) (x : Int) (hl : l.length ≤ 1000) : ∀ (d k i : Nat), i + d = l.length → d < k → (∀ j (hj : j < l.length), j < i → l[j] ≠ x) → spec_l00Has.l0 k l x (i : Int) = some (decide (x ∈ l)) := by
  intro d
  induction d with
  | zero =>
    intro k i hi hk hj
    obtain ⟨k, rfl⟩ : ∃ m, k = m + 1 := ⟨k - 1, by omega⟩
    simp only [spec_l00Has.l0]
    rw [if_neg (by omega)]
    congr 1
    refine (decide_eq_false (fun hm => ?_)).symm
    obtain ⟨j, hjl, e⟩ := List.mem_iff_getElem.1 hm
    exact hj j hjl (by omega) e
  | succ d ih =>
    intro k i hi hk hj
    obtain ⟨k, rfl⟩ : ∃ m, k = m + 1 := ⟨k - 1, by omega⟩
    have hil : i < l.length := by omega
    simp only [spec_l00Has.l0]
    rw [if_pos (by omega), if_pos (by omega), rd_at l i hil, wrap_succ i (by omega)]
    by_cases hc : l[i] = x
    · rw [if_pos hc]; congr 1; exact (decide_eq_true (hc ▸ List.getElem_mem hil)).symm
    · rw [if_neg hc]
      refine ih k (i + 1) (by omega) (by omega) (fun j hjl hlt => ?_)
      by_cases h : j = i
      · subst h; exact hc
      · exact hj j hjl (by omega)
theorem has_eq (l : List Int) (x : Int) (hl : l.length ≤ 1000) (k : Nat) (hk : 1000 < k) : spec_l00Has.f k l x = some (decide (x ∈ l)) :=
  has_loop l x hl l.length k 0 (by omega) (by omega) (fun j _ hj => absurd hj (by omega))
theorem app_perm (xs : List (List Int)) (j : Nat) (hj : j < xs.length) (x : Int) : (xs.set j (xs[j] ++ [x])).flatten.Perm (x :: xs.flatten) := by
  rw [flat_set xs j hj, flat_split xs j hj]
  have : (xs[j] ++ [x] ++ (xs.drop (j + 1)).flatten) = xs[j] ++ x :: (xs.drop (j + 1)).flatten := by simp
  rw [this]
  have h2 : ((xs.take j).flatten ++ (xs[j] ++ x :: (xs.drop (j + 1)).flatten)) = ((xs.take j).flatten ++ xs[j]) ++ x :: (xs.drop (j + 1)).flatten := by simp
  rw [h2]
  refine List.perm_middle.trans ?_
  rw [List.append_assoc]
/-- What the drawing keeps. -/
structure Dr (h n : Int) (used : List Int) (ys : List (List Int)) (k : Int) : Prop where
  len : (ys.length : Int) = n
  perm : ys.flatten.Perm used
  nd : used.Nodup
  le : ∀ r ∈ ys, (r.length : Int) ≤ h
  small : ∀ x ∈ used, 0 ≤ x ∧ x ≤ 99
  cnt : (used.length : Int) + k ≤ 7
theorem draw_l1 (l : List Int) (hb : ∀ b ∈ l, 0 ≤ b ∧ b ≤ 255) (h n : Int) (hh : 1 ≤ h) (hh2 : h ≤ 4) (hn : 2 ≤ n) (hn2 : n ≤ 4) : ∀ (d f : Nat) (used : List Int) (ys : List (List Int)) (at_ seed : Int), d + 2000 ≤ f → 0 ≤ at_ → at_ + 2 * (d : Int) ≤ 1000 → Dr h n used ys (d : Int) →
    ∃ ys' at' seed', spec_l09DrawOk.l1 f n used (d : Int) l at_ seed h ys = some (h, ys', at', seed') ∧ Yv.valid h ys' = true := by
  intro d
  induction d with
  | zero =>
    intro f used ys at_ seed hf h0 h1 hd
    obtain ⟨f, rfl⟩ : ∃ m, f = m + 1 := ⟨f - 1, by omega⟩
    simp only [spec_l09DrawOk.l1]
    rw [if_neg (by omega)]
    obtain ⟨d1, d2, d3, d4, d5, d6⟩ := hd
    exact ⟨_, _, _, rfl, valid_of hh hh2 (by omega) (by omega) d4 (d2.nodup_iff.2 d3) (by rw [d2.length_eq]; omega) (fun x hx => d5 x (d2.subset hx))⟩
  | succ d ih =>
    intro f used ys at_ seed hf h0 h1 hd
    obtain ⟨f, rfl⟩ : ∃ m, f = m + 1 := ⟨f - 1, by omega⟩
    obtain ⟨d1, d2, d3, d4, d5, d6⟩ := hd
    obtain ⟨x, s1, e1, x0, x1⟩ := pick_ok l hb at_ seed 9 h0 (by omega) (by decide) (by decide)
    obtain ⟨i, s2, e2, i0, i1⟩ := pick_ok l hb (at_ + 1) s1 n (by omega) (by omega) hn (by omega)
    simp only [spec_l09DrawOk.l1]
    rw [if_pos (by omega), e1, Option.bind_some]
    simp only []
    rw [e2, Option.bind_some]
    simp only []
    rw [has_eq used x (by omega) f (by omega), Option.bind_some, wrap_id (x := ((d + 1 : Nat) : Int) - 1) (by omega) (by omega), show ((d + 1 : Nat) : Int) - 1 = (d : Int) by omega]
    by_cases c : x ∈ used
    · rw [if_pos (decide_eq_true c)]
      exact ih f used ys (at_ + 1 + 1) s2 (by omega) (by omega) (by omega) ⟨d1, d2, d3, d4, d5, by omega⟩
    · rw [if_neg (by simpa using c)]
      obtain ⟨j, rfl⟩ : ∃ j : Nat, i = (j : Int) := ⟨i.toNat, by omega⟩
      have hj : j < ys.length := by omega
      have hjl := d4 _ (List.getElem_mem hj)
      rw [if_pos i0, if_pos (by omega), rdL_at ys j hj, Int.toNat_natCast]
      by_cases c2 : (ys[j].length : Int) < h
      · rw [if_pos c2, if_pos (by omega), if_pos (by omega)]
        refine ih f (used ++ [x]) (ys.set j (ys[j] ++ [x])) (at_ + 1 + 1) s2 (by omega) (by omega) (by omega) ⟨by rw [List.length_set]; exact d1, ?_, ?_, fun r hr => ?_, fun y hy => ?_, by rw [List.length_append, List.length_singleton]; omega⟩
        · refine (app_perm ys j hj x).trans ((d2.cons x).trans ?_)
          exact (List.perm_append_singleton x used).symm
        · exact List.nodup_append.2 ⟨d3, by simp, fun a ha b hb' => by rw [List.mem_singleton.1 hb']; exact fun e => c (e ▸ ha)⟩
        · rcases List.mem_or_eq_of_mem_set hr with hr | rfl
          · exact d4 r hr
          · rw [List.length_append, List.length_singleton]; omega
        · rcases List.mem_append.1 hy with hy | hy
          · exact d5 y hy
          · rw [List.mem_singleton.1 hy]; omega
      · rw [if_neg c2]
        exact ih f used ys (at_ + 1 + 1) s2 (by omega) (by omega) (by omega) ⟨d1, d2, d3, d4, d5, by omega⟩
theorem draw_l0 (l : List Int) (hb : ∀ b ∈ l, 0 ≤ b ∧ b ≤ 255) (h n : Int) (hh : 1 ≤ h) (hh2 : h ≤ 4) (hn : 2 ≤ n) (hn2 : n ≤ 4) (at_ seed : Int) (h0 : 0 ≤ at_) (h1 : at_ ≤ 100) : ∀ (d i f : Nat), (i : Int) + (d : Int) = n → d + 3000 ≤ f →
    ∃ ys' at' seed', spec_l09DrawOk.l0 f n (i : Int) l at_ seed h (List.replicate i []) = some (h, ys', at', seed') ∧ Yv.valid h ys' = true := by
  intro d
  induction d with
  | zero =>
    intro i f hi hf
    obtain ⟨f, rfl⟩ : ∃ m, f = m + 1 := ⟨f - 1, by omega⟩
    obtain ⟨k, s1, e1, k0, k1⟩ := pick_ok l hb at_ seed 8 h0 (by omega) (by decide) (by decide)
    obtain ⟨j, rfl⟩ : ∃ j : Nat, k = (j : Int) := ⟨k.toNat, by omega⟩
    simp only [spec_l09DrawOk.l0]
    rw [if_neg (by omega), e1, Option.bind_some]
    refine draw_l1 l hb h n hh hh2 hn hn2 j f [] (List.replicate i []) (at_ + 1) s1 (by omega) (by omega) (by omega) ⟨by rw [List.length_replicate]; omega, by rw [List.flatten_replicate_nil], by simp, fun r hr => ?_, fun x hx => by simp at hx, by simp; omega⟩
    rw [(List.mem_replicate.1 hr).2]; simp; omega
  | succ d ih =>
    intro i f hi hf
    obtain ⟨f, rfl⟩ : ∃ m, f = m + 1 := ⟨f - 1, by omega⟩
    simp only [spec_l09DrawOk.l0]
    rw [if_pos (by omega), if_pos (by rw [List.length_replicate]; omega), wrap_succ i (by omega), ← List.replicate_succ']
    exact ih (i + 1) f (by omega) (by omega)
/-- The yard that is drawn is valid. -/
theorem draw_ok (l : List Int) (hb : ∀ b ∈ l, 0 ≤ b ∧ b ≤ 255) : ∃ h ys, spec_B10Yard.f 2000000 l = some (h, ys) ∧ Yv.valid h ys = true := by
  obtain ⟨a, s1, e1, a0, a1⟩ := pick_ok l hb 0 0 3 (by decide) (by decide) (by decide) (by decide)
  obtain ⟨b, s2, e2, b0, b1⟩ := pick_ok l hb (0 + 1) s1 3 (by decide) (by decide) (by decide) (by decide)
  obtain ⟨ys, at', s3, e3, hv⟩ := draw_l0 l hb (2 + a) (2 + b) (by omega) (by omega) (by omega) (by omega) (0 + 1 + 1) s2 (by decide) (by decide) (2 + b).toNat 0 2000000 (by omega) (by omega)
  refine ⟨2 + a, ys, ?_, hv⟩
  simp only [spec_B10Yard.f, spec_l00From.f, Option.bind_some, spec_l09DrawOk.f]
  rw [e1, Option.bind_some]
  simp only []
  rw [e2, Option.bind_some]
  simp only []
  rw [wrap_id (x := 2 + b) (by omega) (by omega), wrap_id (x := 2 + a) (by omega) (by omega)]
  have e4 : spec_l09DrawOk.l0 2000000 (2 + b) 0 l (0 + 1 + 1) s2 (2 + a) [] = some (2 + a, ys, at', s3) := e3
  rw [e4, Option.bind_some]
end Go.Proofs.YtibaiaenfeppcaaGreatDoor.PuB

/- Counting lots, comparing yards. -/
namespace Go.Proofs.YtibaiaenfeppcaaGreatDoor.PuTL
open Go Go.RowKit Go.Proofs.YtibaiaenfeppcaaGreatDoorW.PrintWords Go.Proofs.YtibaiaenfeppcaaGreatDoorW.PrintLast Go.Proofs.YtibaiaenfeppcaaGreatDoorW.PrintMore Go.Proofs.YtibaiaenfeppcaaGreatDoor.Q Go.Proofs.YtibaiaenfeppcaaGreatDoor.PuY
set_option linter.unusedVariables false
theorem lots_loop (h : Int) (xs : List (List Int)) (hn : xs.length ≤ 1000) (hl : ∀ r ∈ xs, r.length ≤ 1000) : ∀ (d i k : Nat) (a : Int), i + d = xs.length → d < k → 0 ≤ a → a + 1000 * (d : Int) ≤ 100000000 → laws_b10Lots.l0 k a (i : Int) h xs = some (a + ((xs.drop i).flatten.length : Int)) := by
  intro d
  induction d with
  | zero =>
    intro i k a hi hk h0 h1
    obtain ⟨k, rfl⟩ : ∃ m, k = m + 1 := ⟨k - 1, by omega⟩
    simp only [laws_b10Lots.l0]
    rw [if_neg (by omega), List.drop_eq_nil_of_le (by omega)]; simp
  | succ d ih =>
    intro i k a hi hk h0 h1
    obtain ⟨k, rfl⟩ : ∃ m, k = m + 1 := ⟨k - 1, by omega⟩
    have hil : i < xs.length := by omega
    have hx := hl xs[i] (List.getElem_mem hil)
    simp only [laws_b10Lots.l0]
    rw [if_pos (by omega), if_pos (by omega), rdL_at xs i hil, wrap_succ i (by omega), wrap_id (x := a + (xs[i].length : Int)) (by omega) (by omega), ih (i + 1) k (a + (xs[i].length : Int)) (by omega) (by omega) (by omega) (by omega), List.drop_eq_getElem_cons hil, List.flatten_cons, List.length_append]
    congr 1; omega
theorem lots_eq (h : Int) (xs : List (List Int)) (hn : xs.length ≤ 1000) (hl : ∀ r ∈ xs, r.length ≤ 1000) : laws_b10Lots.f 2000000 h xs = some (xs.flatten.length : Int) := by
  have := lots_loop h xs hn hl xs.length 0 2000000 0 (by omega) (by omega) (by decide) (by omega)
  simpa [laws_b10Lots.f] using this
theorem nums_loop (l : List Int) (hl : l.length ≤ 1000) : ∀ (d i k : Nat), i + d = l.length → d < k → laws_b10Nums.l0 k l l (i : Int) = some true := by
  intro d
  induction d with
  | zero =>
    intro i k hi hk
    obtain ⟨k, rfl⟩ : ∃ m, k = m + 1 := ⟨k - 1, by omega⟩
    simp only [laws_b10Nums.l0]
    rw [if_neg (by omega)]
  | succ d ih =>
    intro i k hi hk
    obtain ⟨k, rfl⟩ : ∃ m, k = m + 1 := ⟨k - 1, by omega⟩
    simp only [laws_b10Nums.l0]
    rw [if_pos (by omega), if_pos (by omega), if_pos (by omega), if_pos trivial, wrap_succ i (by omega)]
    exact ih (i + 1) k (by omega) (by omega)
theorem yards_loop (h : Int) (xs : List (List Int)) (hn : xs.length ≤ 1000) (hl : ∀ r ∈ xs, r.length ≤ 1000) : ∀ (d i k : Nat), i + d = xs.length → 2000 + d < k → laws_b10Yards.l0 k (i : Int) h xs h xs = some true := by
  intro d
  induction d with
  | zero =>
    intro i k hi hk
    obtain ⟨k, rfl⟩ : ∃ m, k = m + 1 := ⟨k - 1, by omega⟩
    simp only [laws_b10Yards.l0]
    rw [if_neg (by omega)]
  | succ d ih =>
    intro i k hi hk
    obtain ⟨k, rfl⟩ : ∃ m, k = m + 1 := ⟨k - 1, by omega⟩
    have hil : i < xs.length := by omega
    have hx := hl xs[i] (List.getElem_mem hil)
    simp only [laws_b10Yards.l0, laws_b10Nums.f]
    rw [if_pos (by omega), if_pos (by omega), if_pos (by omega), rdL_at xs i hil, if_pos trivial]
    have := nums_loop xs[i] hx xs[i].length 0 k (by omega) (by omega)
    rw [show ((0 : Nat) : Int) = 0 from rfl] at this
    rw [this, Option.bind_some, if_pos rfl, wrap_succ i (by omega)]
    exact ih (i + 1) k (by omega) (by omega)
theorem yards_eq (h : Int) (xs : List (List Int)) (hn : xs.length ≤ 1000) (hl : ∀ r ∈ xs, r.length ≤ 1000) : laws_b10Yards.f 2000000 h xs h xs = some true := by
  simp only [laws_b10Yards.f]
  rw [if_pos trivial]
  have h2 := yards_loop h xs hn hl xs.length 0 1999999 (by omega) (by omega)
  simp only [laws_b10Yards.j0]
  rw [if_neg (by simp)]
  exact h2
end Go.Proofs.YtibaiaenfeppcaaGreatDoor.PuTL

/- Plain: the law on stacks. -/
namespace Go.Proofs.YtibaiaenfeppcaaGreatDoor.PuSt
open Go Go.RowKit Go.Proofs.YtibaiaenfeppcaaGreatDoorW.PrintWords Go.Proofs.YtibaiaenfeppcaaGreatDoor.Q Go.Proofs.YtibaiaenfeppcaaGreatDoor.PuY Go.Proofs.YtibaiaenfeppcaaGreatDoor.PuTO Go.Proofs.YtibaiaenfeppcaaGreatDoor.PuRM Go.Proofs.YtibaiaenfeppcaaGreatDoor.Yt Go.Proofs.YtibaiaenfeppcaaGreatDoor.Yq Go.Proofs.YtibaiaenfeppcaaGreatDoor.PuSm
set_option linter.unusedVariables false
set_option linter.unusedSimpArgs false
theorem up {α : Type} {f : Nat → Option α} (h : ∀ k, LeO (f k) (f (k + 1))) {r : α} {k : Nat} (hk : f k = some r) : ∀ j, f (k + j) = some r := by
  intro j
  induction j with
  | zero => exact hk
  | succ j ih => exact h (k + j) _ ih
theorem upTo' {α : Type} {f : Nat → Option α} (h : ∀ k, LeO (f k) (f (k + 1))) {r : α} {k m : Nat} (hk : f k = some r) (hm : k ≤ m) : f m = some r := by
  obtain ⟨j, rfl⟩ := Nat.exists_eq_add_of_le hm
  exact up h hk j
theorem at_eq (l : List Int) (hb : ∀ b ∈ l, 0 ≤ b ∧ b ≤ 255) (a n : Int) (ha : 0 ≤ a) (ha2 : a ≤ 1) (hn : 1 ≤ n) (hn2 : n ≤ 4) : ∃ r, laws_b10At.f l a n = some r ∧ 0 ≤ r ∧ r < n := by
  unfold laws_b10At.f
  by_cases h1 : n ≤ 1
  · rw [if_pos h1]; exact ⟨0, rfl, by omega, by omega⟩
  · rw [if_neg h1]
    have key : ∀ x : Int, 0 ≤ x → ∃ r, (some (Int.tmod x n)) = some r ∧ 0 ≤ r ∧ r < n := by
      intro x hx
      refine ⟨_, rfl, ?_, ?_⟩
      · rw [Int.tmod_eq_emod_of_nonneg hx]; exact Int.emod_nonneg _ (by omega)
      · rw [Int.tmod_eq_emod_of_nonneg hx]; exact Int.emod_lt_of_pos _ (by omega)
    by_cases h2 : a < (l.length : Int)
    · rw [if_pos h2, if_pos ha, if_neg (by omega)]
      have hm : 0 ≤ rd l a ∧ rd l a ≤ 255 := by
        obtain ⟨i, rfl⟩ : ∃ i : Nat, a = (i : Int) := ⟨a.toNat, by omega⟩
        rw [rd_at l i (by omega)]
        exact hb _ (List.getElem_mem _)
      exact key _ (by unfold wrap64; omega)
    · rw [if_neg h2, if_neg (by omega)]
      rcases (show a = 0 ∨ a = 1 by omega) with rfl | rfl
      · exact key _ (by unfold wrap64; omega)
      · exact key _ (by unfold wrap64; omega)
/-! the three loops -/
section
variable {h : Int} {xs : List (List Int)} (hv : Yv.valid h xs = true)
include hv
theorem loop2 (i m : Nat) (hi : i < xs.length) (hm : m < xs[i].length) (R : Option Bool) : ∀ (d k j : Nat), j + d = m → d + 100 ≤ k →
    (∀ k', k' + d + 1 = k → laws_FnStacked.l1 k' (blkR h xs) (i : Int) (wrap64 ((m : Int) + 1)) h xs = R) →
    laws_FnStacked.l2 k (blkR h xs) (i : Int) (m : Int) ((xs[i].take j).any (fun y => decide (y < xs[i][m]))) (j : Int) h xs = R := by
  have hp := valid_parts hv
  have hr4 := hp.2.2.2.2.1 _ (List.getElem_mem hi)
  intro d
  induction d with
  | zero =>
    intro k j hj hk hn
    obtain ⟨k, rfl⟩ : ∃ q, k = q + 1 := ⟨k - 1, by omega⟩
    obtain rfl : j = m := by omega
    have hbl : (blkR h xs).length ≤ 7 := by
      unfold blkR
      rw [if_pos hv, Sv.srt_len]
      have := (blkAll_sub xs).length_le
      have := hp.2.2.2.2.2.2.1
      omega
    simp only [laws_FnStacked.l2]
    rw [if_neg (by omega), if_pos (by omega), if_pos (by omega), if_pos (by omega), rdL_at xs i hi, if_pos (by omega), rd_at _ j hm, PuSm.has_eq _ _ (by omega) k (by omega), Option.bind_some]
    have e : ((xs[i].take j).any (fun y => decide (y < xs[i][j]))) = decide (xs[i][j] ∈ blkR h xs) := by
      have := blk_at hv i j hi hm
      by_cases c : xs[i][j] ∈ blkR h xs
      · rw [this.1 c, decide_eq_true c]
      · rw [decide_eq_false c]
        exact Bool.eq_false_iff.2 (fun hh => c (this.2 hh))
    rw [e, if_neg (by simp)]
    exact hn k (by omega)
  | succ d ih =>
    intro k j hj hk hn
    obtain ⟨k, rfl⟩ : ∃ q, k = q + 1 := ⟨k - 1, by omega⟩
    have hjl : j < xs[i].length := by omega
    have hw : wrap64 ((j : Int) + 1) = ((j + 1 : Nat) : Int) := by unfold wrap64; omega
    have et : xs[i].take (j + 1) = xs[i].take j ++ [xs[i][j]] := by rw [List.take_add_one, List.getElem?_eq_getElem hjl]; rfl
    have ih' := ih k (j + 1) (by omega) (by omega) (fun k' hk' => hn k' (by omega))
    rw [et, List.any_append, ← hw] at ih'
    simp only [laws_FnStacked.l2]
    rw [if_pos (by omega)]
    by_cases c : (xs[i].take j).any (fun y => decide (y < xs[i][m])) = true
    · rw [c, Bool.true_or] at ih'
      rw [if_pos c]
      exact ih'
    · rw [Bool.eq_false_iff.2 c, Bool.false_or] at ih'
      rw [if_neg c, if_pos (by omega), if_pos (by omega), if_pos (by omega), rdL_at xs i hi, if_pos (by omega), if_pos (by omega), if_pos (by omega), rd_at _ j hjl, rd_at _ m hm]
      simpa using ih'
theorem loop1 (i : Nat) (hi : i < xs.length) (R : Option Bool) : ∀ (d k m : Nat), m + d = xs[i].length → 200 * d + 300 ≤ k →
    (∀ k', 100 ≤ k' → k ≤ k' + 200 * d + 1 → laws_FnStacked.l0 k' (blkR h xs) (wrap64 ((i : Int) + 1)) h xs = R) →
    laws_FnStacked.l1 k (blkR h xs) (i : Int) (m : Int) h xs = R := by
  have hp := valid_parts hv
  have hr4 := hp.2.2.2.2.1 _ (List.getElem_mem hi)
  intro d
  induction d with
  | zero =>
    intro k m hm hk hn
    obtain ⟨k, rfl⟩ : ∃ q, k = q + 1 := ⟨k - 1, by omega⟩
    simp only [laws_FnStacked.l1]
    rw [if_pos (by omega), if_pos (by omega), rdL_at xs i hi, if_neg (by omega)]
    exact hn k (by omega) (by omega)
  | succ d ih =>
    intro k m hm hk hn
    obtain ⟨k, rfl⟩ : ∃ q, k = q + 1 := ⟨k - 1, by omega⟩
    have hml : m < xs[i].length := by omega
    simp only [laws_FnStacked.l1]
    rw [if_pos (by omega), if_pos (by omega), rdL_at xs i hi, if_pos (by omega)]
    have := loop2 hv i m hi hml R m k 0 (by omega) (by omega) (fun k' hk' => by
      rw [show wrap64 ((m : Int) + 1) = ((m + 1 : Nat) : Int) by unfold wrap64; omega]
      exact ih k' (m + 1) (by omega) (by omega) (fun k'' h1 h2 => hn k'' h1 (by omega)))
    simpa using this
theorem loop0 : ∀ (d k i : Nat), i + d = xs.length → 2000 * d + 300 ≤ k → laws_FnStacked.l0 k (blkR h xs) (i : Int) h xs = some true := by
  have hp := valid_parts hv
  intro d
  induction d with
  | zero =>
    intro k i hi hk
    obtain ⟨k, rfl⟩ : ∃ q, k = q + 1 := ⟨k - 1, by omega⟩
    simp only [laws_FnStacked.l0]
    rw [if_neg (by omega)]
  | succ d ih =>
    intro k i hi hk
    obtain ⟨k, rfl⟩ : ∃ q, k = q + 1 := ⟨k - 1, by omega⟩
    have hlt : i < xs.length := by omega
    have hr4 := hp.2.2.2.2.1 _ (List.getElem_mem hlt)
    simp only [laws_FnStacked.l0]
    rw [if_pos (by omega)]
    have := loop1 hv i hlt (some true) xs[i].length k 0 (by omega) (by omega) (fun k' h1 h2 => by
      rw [show wrap64 ((i : Int) + 1) = ((i + 1 : Nat) : Int) by unfold wrap64; omega]
      exact ih k' (i + 1) (by omega) (by omega))
    simpa using this
end
theorem move_f (h : Int) (xs : List (List Int)) (f t : Int) : impl_MoveTop.f h xs f t = some ((hR h (MT.res h xs f t)).1, (hR h (MT.res h xs f t)).2, (MT.res h xs f t).isSome) := rfl
theorem yards_up (h : Int) (xs : List (List Int)) (hv : Yv.valid h xs = true) (k : Nat) (hk : 2000000 ≤ k) : laws_b10Yards.f k h xs h xs = some true := by
  obtain ⟨p1, p2, p3, p4, p5, -⟩ := valid_parts hv
  exact upTo' (f := fun k => laws_b10Yards.f k h xs h xs) (fun k => laws_b10Yards.mono h xs h xs k) (PuTL.yards_eq h xs (by omega) (fun r hr => by have := p5 r hr; omega)) hk
theorem lots_up (h : Int) (xs : List (List Int)) (hv : Yv.valid h xs = true) (k : Nat) (hk : 2000000 ≤ k) : laws_b10Lots.f k h xs = some (xs.flatten.length : Int) := by
  obtain ⟨p1, p2, p3, p4, p5, -⟩ := valid_parts hv
  exact upTo' (f := fun k => laws_b10Lots.f k h xs) (fun k => laws_b10Lots.mono h xs k) (PuTL.lots_eq h xs (by omega) (fun r hr => by have := p5 r hr; omega)) hk
/-- Behind the first reads: moving. -/
theorem rest (h : Int) (xs : List (List Int)) (hv : Yv.valid h xs = true) (l1 : List Int) (hb : ∀ b ∈ l1, 0 ≤ b ∧ b ≤ 255) (k : Nat) (hk : 9000000 ≤ k) : laws_FnStacked.j0 k l1 (blkR h xs) false h xs = some true := by
  obtain ⟨p1, p2, p3, p4, p5, p6, p7, p8⟩ := valid_parts hv
  obtain ⟨k, rfl⟩ : ∃ q, k = q + 1 + 1 + 1 := ⟨k - 3, by omega⟩
  obtain ⟨f, ef, f0, f1⟩ := at_eq l1 hb 0 (xs.length : Int) (by decide) (by decide) (by omega) (by omega)
  obtain ⟨t, et, t0, t1⟩ := at_eq l1 hb 1 (xs.length : Int) (by decide) (by decide) (by omega) (by omega)
  have hend : laws_FnStacked.j2 (k + 1) (blkR h xs) h xs = some true := by
    simp only [laws_FnStacked.j2]
    have := loop0 hv xs.length k 0 (by omega) (by omega)
    simpa using this
  have h1 : ∀ (c : Bool), c = moveB h xs f t → laws_FnStacked.j1 (k + 1 + 1) (blkR h xs) f t (MT.res h xs f t).isSome ((MT.res h xs f t).isSome != c) h xs (hR h (MT.res h xs f t)).1 (hR h (MT.res h xs f t)).2 = some true := by
    intro c hc
    have er : MT.res h xs f t = moveR h xs f t := by unfold MT.res; rw [if_pos hv]
    rw [er]
    simp only [laws_FnStacked.j1, move_f, Option.bind_some]
    cases hm : moveR h xs f t with
    | none =>
      have hc2 : c = false := by
        rw [hc]
        cases hb2 : moveB h xs f t with
        | false => rfl
        | true => unfold moveR at hm; rw [if_pos hb2] at hm; cases hm
      subst hc2
      simp only [Option.isSome_none, bne_self_eq_false, Bool.false_eq_true, if_false]
      exact hend
    | some ys =>
      have hc2 : c = true := by
        rw [hc]
        cases hb2 : moveB h xs f t with
        | true => rfl
        | false => unfold moveR at hm; rw [hb2, if_neg (by decide)] at hm; cases hm
      subst hc2
      have hvy := move_valid hv hm
      have hbk := move_back hv hm
      have er2 : MT.res h ys t f = some xs := by unfold MT.res; rw [if_pos hvy]; exact hbk
      simp only [Option.isSome_some, bne_self_eq_false, Bool.false_eq_true, if_false, if_true, hR, er2, yards_up h xs hv (k + 1) (by omega), Option.bind_some]
      exact hend
  simp only [laws_FnStacked.j0, Bool.false_eq_true, if_false, ef, et, Option.bind_some, move_f]
  by_cases hft : f = t
  · rw [if_pos hft]
    exact h1 false (by rw [hft, moveB_no3])
  · rw [if_neg hft, if_pos f0, if_pos f1]
    obtain ⟨i, rfl⟩ : ∃ i : Nat, f = (i : Int) := ⟨f.toNat, by omega⟩
    obtain ⟨j, rfl⟩ : ∃ j : Nat, t = (j : Int) := ⟨t.toNat, by omega⟩
    have hi : i < xs.length := by omega
    have hj : j < xs.length := by omega
    rw [rdL_at xs i hi, rdL_at xs j hj]
    by_cases hp : ((xs[i].length : Nat) : Int) > 0
    · rw [if_pos hp, if_pos t0, if_pos t1]
      refine h1 _ ?_
      by_cases hq : ((xs[j].length : Nat) : Int) < h
      · rw [decide_eq_true hq, moveB_yes hi hj (by omega) (by omega) hq]
      · rw [decide_eq_false hq, moveB_no5 hj (by omega)]
    · rw [if_neg hp]
      exact h1 false (by rw [moveB_no4 hi (by omega)])
theorem pure (l0 l1 : List Int) (hb0 : ∀ b ∈ l0, 0 ≤ b ∧ b ≤ 255) (hb1 : ∀ b ∈ l1, 0 ≤ b ∧ b ≤ 255) : ∃ k, laws_FnStacked.f k l0 l1 = some true := by
  refine ⟨9000000, ?_⟩
  unfold laws_FnStacked.f
  cases hq : laws_b10Long.f l0 l1 with
  | none => exact absurd hq (by unfold laws_b10Long.f; split <;> simp)
  | some b =>
    rw [Option.bind_some]
    cases b with
    | true => rw [if_pos rfl]
    | false =>
      obtain ⟨h, xs, hd, hv⟩ := PuB.draw_ok l0 hb0
      have hd2 : spec_B10Yard.f 9000000 l0 = some (h, xs) := upTo' (f := fun k => spec_B10Yard.f k l0) (fun k => spec_B10Yard.mono l0 k) hd (by decide)
      obtain ⟨p1, p2, p3, p4, p5, p6, p7, p8⟩ := valid_parts hv
      obtain ⟨q1, q2, q3, q4⟩ := PuYT.parts hv
      have e1 : impl_YardText.f 9000000 h xs = some (PuD.txt (PuYT.yardT h xs), true) := by
        simp only [impl_YardText.f, impl_ValidYard.f, Option.bind_some]
        rw [if_pos hv, PuYT.implYardText h q1 xs q3 q4 9000000 (by decide), Option.bind_some]
      have e2 : impl_ReadYard.f 9000000 (PuD.txt (PuYT.yardT h xs)) = some (h, xs, true) := by
        rw [PuRy.implRead _ (by have := PuRy.text_len h xs hv; omega) 9000000 (by decide), PuRy.back h xs hv]
      have e3 := implTops h xs 9000000 (by decide)
      have e4 := implBlk h xs 9000000 (by decide)
      rw [hv] at e3 e4
      have e5 : (topsR h xs).length = xs.length := by unfold topsR; rw [if_pos hv, List.length_map]
      have e6 : (blkR h xs).length ≤ xs.flatten.length := by
        unfold blkR
        rw [if_pos hv, Sv.srt_len]
        exact (blkAll_sub xs).length_le
      rw [if_neg (by decide)]
      simp only [hd2, e1, e2, e3, e4, Option.bind_some, if_true, yards_up h xs hv 9000000 (by decide), lots_up h xs hv 9000000 (by decide)]
      rw [if_pos (by omega), decide_eq_false (by omega)]
      exact rest h xs hv l1 hb1 9000000 (by decide)
end Go.Proofs.YtibaiaenfeppcaaGreatDoor.PuSt

